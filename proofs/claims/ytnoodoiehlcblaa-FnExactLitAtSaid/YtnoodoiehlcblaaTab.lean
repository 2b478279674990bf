/- What the evaluator's table of types says holds of the program, if a check that the kernel runs says so. -/
import Derived.Test.YtnoodoiehlcblaaCore
set_option linter.unusedVariables false
set_option linter.unusedSimpArgs false
namespace Ev
open Go

def SizeOf (P : Program) (t n : Nat) : Prop := ∃ i, P.info? t = some i ∧ i.size = n
def aggD : TypeDesc → Bool
  | .struct _ => true
  | .array _ _ => true
  | _ => false
def IsAgg (P : Program) (t : Nat) (b : Bool) : Prop := ∃ d, P.underlying t = some d ∧ aggD d = b
def ZeroOf (P : Program) (t : Nat) (vs : List Value) : Prop := ∃ i z, P.info? t = some i ∧ i.zero = some z ∧ z.cells.toList = vs
def ElemOK (P : Program) (e : Nat) (τ : Ty) : Prop := SizeOf P e τ.width ∧ ZeroOf P e ((τ.cells τ.zero).map sv) ∧ IsAgg P e τ.isAgg ∧ (∃ i, P.info? e = some i ∧ i.bytes ≤ 128) ∧ (τ = .u8 → P.underlying e = some (.int .u8))
def KindOK (P : Program) : TypeDesc → TK → Prop
  | .int k, .int k' => k = k'
  | .bool, .bool => True
  | .string, .str => True
  | .slice e, .sl τ => ElemOK P e τ
  | .array n e, .arr n' w a => n = n' ∧ SizeOf P e w ∧ IsAgg P e a
  | .struct _, .struct => True
  | _, .other => True
  | _, _ => False
def FldsOK (P : Program) : TypeDesc → List (Nat × Nat × Bool) → Prop
  | .struct fs, flds => flds.length = fs.size ∧ ∀ (i : Nat) off size a, flds[i]? = some (off, size, a) → ∃ f, fs[i]? = some f ∧ f.offset = off ∧ SizeOf P f.type size ∧ IsAgg P f.type a
  | _, flds => flds = []
def eqV : List V → List V → Option Bool
  | [], [] => some true
  | .int k a :: xs, .int k' b :: ys => cond (decide (k = k')) ((eqV xs ys).bind fun t => some (decide (a = b) && t)) none
  | .str a :: xs, .str b :: ys => (eqV xs ys).bind fun t => some (decide (a = b) && t)
  | .bool a :: xs, .bool b :: ys => (eqV xs ys).bind fun t => some (decide (a = b) && t)
  | _, _ => none
/-- Flat: equality is that of the cells. -/
def FlatOK (P : Program) (t : Nat) (zs : List V) : Prop := ∀ (xs ys : Array Value) (us vs : List V) (b : Bool) (w : World), xs.toList = us.map sv → ys.toList = vs.map sv →
  fits zs us = true → fits zs vs = true → eqV us vs = some b → (Op.equal t (.agg xs) (.agg ys)).run P w = .ok b w ∧ (∀ op x y, (eqGuard op t x y (.agg xs) (.agg ys)).run P w = .ok () w)
structure TIok (P : Program) (t : Nat) (ti : TI) : Prop where
  size : SizeOf P t ti.size
  zero : ZeroOf P t (ti.zero.map sv)
  agg : IsAgg P t ti.agg
  kind : ∃ d, P.underlying t = some d ∧ KindOK P d ti.kind ∧ FldsOK P d ti.flds
  zlen : ti.zero.length = ti.size
  zpure : allB (fun v => v.plain || (match v with | .nils => true | _ => false)) ti.zero = true
def TabOK (P : Program) (T : Tab) : Prop := ∀ t ti, T.get t = some ti → TIok P t ti ∧ (ti.flat = true → FlatOK P t ti.zero)

/-! ### The check -/
def sameV : Value → V → Bool
  | .int k n, .int k' n' => decide (k = k') && decide (n = n')
  | .bool a, .bool b => decide (a = b)
  | .string s, .str l => decide (s.data.toList = l)
  | .slice none 0 0, .nils => true
  | _, _ => false
theorem sameV_eq {c : Value} {v : V} (h : sameV c v = true) : c = sv v := by
  unfold sameV at h
  split at h
  · simp at h; obtain ⟨rfl, rfl⟩ := h; rfl
  · simp at h; subst h; rfl
  · rename_i s l; simp at h; subst h; rfl
  · rfl
  · cases h
def sameVs : List Value → List V → Bool
  | [], [] => true
  | c :: cs, v :: vs => sameV c v && sameVs cs vs
  | _, _ => false
theorem sameVs_eq : ∀ {cs : List Value} {vs : List V}, sameVs cs vs = true → cs = vs.map sv
  | [], [], _ => rfl
  | c :: cs, v :: vs, h => by
    simp only [sameVs, Bool.and_eq_true] at h
    rw [sameV_eq h.1, sameVs_eq h.2]; rfl
  | [], _ :: _, h => by simp [sameVs] at h
  | _ :: _, [], h => by simp [sameVs] at h
def sizeB (P : Program) (t n : Nat) : Bool := match P.info? t with
  | some i => Nat.beq i.size n
  | none => false
def aggB (P : Program) (t : Nat) (b : Bool) : Bool := match P.underlying t with
  | some d => decide (aggD d = b)
  | none => false
def zeroB (P : Program) (t : Nat) (vs : List V) : Bool := match P.info? t with
  | some i => match i.zero with
    | some z => sameVs z.cells.toList vs
    | none => false
  | none => false
def bytesB (P : Program) (t : Nat) : Bool := match P.info? t with
  | some i => Nat.ble i.bytes 128
  | none => false
def u8B (P : Program) (e : Nat) (τ : Ty) : Bool := !decide (τ = .u8) || (match P.underlying e with
  | some (.int .u8) => true
  | _ => false)
theorem u8B_ok {P : Program} {e : Nat} {τ : Ty} (h : u8B P e τ = true) (ht : τ = .u8) : P.underlying e = some (.int .u8) := by
  unfold u8B at h
  simp only [ht, decide_true, Bool.not_true, Bool.false_or] at h
  split at h
  · assumption
  · cases h
def kindB (P : Program) : TypeDesc → TK → Bool
  | .int k, .int k' => decide (k = k')
  | .bool, .bool => true
  | .string, .str => true
  | .slice e, .sl τ => sizeB P e τ.width && zeroB P e (τ.cells τ.zero) && aggB P e τ.isAgg && bytesB P e && u8B P e τ
  | .array n e, .arr n' w a => Nat.beq n n' && sizeB P e w && aggB P e a
  | .struct _, .struct => true
  | _, .other => true
  | _, _ => false
def fldsB (P : Program) : List Field → List (Nat × Nat × Bool) → Bool
  | [], [] => true
  | f :: fs, (off, size, a) :: r => Nat.beq f.offset off && sizeB P f.type size && aggB P f.type a && fldsB P fs r
  | _, _ => false
def fldsDB (P : Program) : TypeDesc → List (Nat × Nat × Bool) → Bool
  | .struct fs, flds => fldsB P fs.toList flds
  | _, flds => flds.isEmpty
def zpB (v : V) : Bool := v.plain || (match v with | .nils => true | _ => false)
def tiB (P : Program) (t : Nat) (ti : TI) : Bool :=
  sizeB P t ti.size && zeroB P t ti.zero && aggB P t ti.agg && (match P.underlying t with
    | some d => kindB P d ti.kind && fldsDB P d ti.flds
    | none => false) && Nat.beq ti.zero.length ti.size && allB zpB ti.zero
theorem sizeB_ok {P : Program} {t n : Nat} (h : sizeB P t n = true) : SizeOf P t n := by
  unfold sizeB at h; split at h
  · rename_i i hi; exact ⟨i, hi, Nat.eq_of_beq_eq_true h⟩
  · cases h
theorem aggB_ok {P : Program} {t : Nat} {b : Bool} (h : aggB P t b = true) : IsAgg P t b := by
  unfold aggB at h; split at h
  · rename_i d hd; exact ⟨d, hd, of_decide_eq_true h⟩
  · cases h
theorem zeroB_ok {P : Program} {t : Nat} {vs : List V} (h : zeroB P t vs = true) : ZeroOf P t (vs.map sv) := by
  unfold zeroB at h; split at h
  · rename_i i hi
    split at h
    · rename_i z hz; exact ⟨i, z, hi, hz, sameVs_eq h⟩
    · cases h
  · cases h
theorem fldsB_ok {P : Program} : ∀ {fs : List Field} {r : List (Nat × Nat × Bool)}, fldsB P fs r = true →
    r.length = fs.length ∧ ∀ (i : Nat) off size a, r[i]? = some (off, size, a) → ∃ f, fs[i]? = some f ∧ f.offset = off ∧ SizeOf P f.type size ∧ IsAgg P f.type a
  | [], [], _ => ⟨rfl, fun i _ _ _ h => by simp at h⟩
  | f :: fs, (off, size, a) :: r, h => by
    simp only [fldsB, Bool.and_eq_true] at h
    obtain ⟨hl, hr⟩ := fldsB_ok h.2
    refine ⟨by simp [hl], fun i => ?_⟩
    cases i with
    | zero =>
      intro off' size' a' e
      simp at e
      obtain ⟨rfl, rfl, rfl⟩ := e
      exact ⟨f, rfl, Nat.eq_of_beq_eq_true h.1.1.1, sizeB_ok h.1.1.2, aggB_ok h.1.2⟩
    | succ i => intro off' size' a' e; simpa using hr i off' size' a' (by simpa using e)
  | [], _ :: _, h => by simp [fldsB] at h
  | _ :: _, [], h => by simp [fldsB] at h
theorem kindB_ok {P : Program} {d : TypeDesc} {k : TK} (h : kindB P d k = true) : KindOK P d k := by
  unfold kindB at h
  split at h
  · rename_i k k'; exact (of_decide_eq_true h : k = k')
  · trivial
  · trivial
  · simp only [Bool.and_eq_true] at h
    refine ⟨sizeB_ok h.1.1.1.1, zeroB_ok h.1.1.1.2, aggB_ok h.1.1.2, ?_, u8B_ok h.2⟩
    have := h.1.2
    unfold bytesB at this; split at this
    · rename_i i hi; exact ⟨i, hi, Nat.le_of_ble_eq_true this⟩
    · cases this
  · simp only [Bool.and_eq_true] at h
    exact ⟨Nat.eq_of_beq_eq_true h.1.1, sizeB_ok h.1.2, aggB_ok h.2⟩
  · trivial
  · cases d <;> trivial
  · cases h
theorem tiB_ok {P : Program} {t : Nat} {ti : TI} (h : tiB P t ti = true) : TIok P t ti := by
  simp only [tiB, Bool.and_eq_true] at h
  obtain ⟨⟨⟨⟨⟨h1, h2⟩, h3⟩, h4⟩, h5⟩, h6⟩ := h
  refine ⟨sizeB_ok h1, zeroB_ok h2, aggB_ok h3, ?_, Nat.eq_of_beq_eq_true h5, h6⟩
  split at h4
  · rename_i d hd
    simp only [Bool.and_eq_true] at h4
    refine ⟨d, hd, kindB_ok h4.1, ?_⟩
    have := h4.2
    cases d <;> simp only [fldsDB] at this <;> simp only [FldsOK] <;> first
      | (obtain ⟨hl, hr⟩ := fldsB_ok this; exact ⟨by simpa using hl, fun i off size a e => by simpa using hr i off size a e⟩)
      | simpa using this
  · cases h4
def tabB (P : Program) : Tab → Bool
  | [] => true
  | (t, ti) :: r => cond (tiB P t ti) (tabB P r) false
theorem tabB_ok {P : Program} : ∀ {T : Tab}, tabB P T = true → ∀ t ti, T.get t = some ti → TIok P t ti
  | [], _, t, ti, h => by simp [Tab.get] at h
  | (i, x) :: r, hb, t, ti, h => by
    simp only [tabB] at hb
    cases hx : tiB P i x <;> simp [hx] at hb
    simp only [Tab.get] at h
    cases he : Nat.beq i t <;> simp [he] at h
    · exact tabB_ok hb t ti h
    · have := Nat.eq_of_beq_eq_true he; subst this; subst h; exact tiB_ok hx
end Ev
