/- What it is for the evaluator's state to stand for the machine's: the relation, and what keeps it. -/
import Derived.Test.YtnoodoiehlcblaaEval
import Derived.Below
import Derived.Laws.Rows
set_option linter.unusedVariables false
set_option linter.unusedSimpArgs false
namespace Ev
open Go

def sv : V → Value
  | .int k n => .int k n
  | .bool b => .bool b
  | .str s => .string ⟨⟨s⟩⟩
  | .nils => .slice none 0 0
  | _ => undef
def flat (t : Ty) (l : List t.den) : List Value := l.flatMap fun d => (t.cells d).map sv

inductive Loc | box (b n : Nat) | row (t : Ty) (a : Option Addr) (len cap : Nat)
def Loc.block : Loc → Option Nat
  | .box b _ => some b
  | .row _ (some a) _ cap => if cap = 0 then none else some a.block
  | .row _ none _ _ => none
abbrev Rho := Nat → Option Loc
def Rho.M (ρ : Rho) (b : Nat) : Prop := ∃ id loc, ρ id = some loc ∧ loc.block = some b
/-- The cells of 'vs' lie in block 'b' from 's' on. -/
def At (w : World) (b s : Nat) (vs : List Value) : Prop := ∀ i v, vs[i]? = some v → w.cell? ⟨b, s + i, none⟩ = some v

/-- A value without parts. -/
def RelB (ρ : Rho) (F : Nat → Prop) (w : World) : V → Value → Prop
  | .undef, _ => True
  | .int k n, c => c = .int k n
  | .bool b, c => c = .bool b
  | .str s, c => c = .string ⟨⟨s⟩⟩
  | .nils, c => c = .slice none 0 0
  | .lst t l, c => ∃ a cap, c = .slice a l.length cap ∧ l.length ≤ cap ∧ (l = [] ∨ ∃ b s, a = some ⟨b, s, none⟩ ∧ F b ∧ At w b s (flat t l))
  | .own id, c => ∃ t a len cap, ρ id = some (.row t a len cap) ∧ c = .slice a len cap
  | .ownv id lo hi, c => ∃ t a len cap, ρ id = some (.row t a len cap) ∧ lo ≤ hi ∧ hi ≤ len ∧ len ≤ cap ∧ c = .slice (if cap - lo = 0 then a else a.map (·.add (lo * t.width))) (hi - lo) (cap - lo)
  | .sptr cs, c => ∃ b s, c = .pointer (some ⟨b, s, none⟩) ∧ F b ∧ allB V.plain cs = true ∧ At w b s (cs.map sv)
  | .lptr id off, c => ∃ b n, ρ id = some (.box b n) ∧ c = .pointer (some ⟨b, off, none⟩)
  | .eptr id row col, c => ∃ t b s len cap, ρ id = some (.row t (some ⟨b, s, none⟩) len cap) ∧ row < len ∧ c = .pointer (some ⟨b, s + (row * t.width + col), none⟩)
  | _, _ => False
def RelC (ρ : Rho) (F : Nat → Prop) (w : World) : V → Value → Prop
  | .fn f cap, c => ∃ ca : Array Value, c = .func (.func f) #[] ca ∧ ca.size = cap.length ∧ ∀ (i : Nat) (v : V), cap[i]? = some v → ∃ c, ca[i]? = some c ∧ RelB ρ F w v c
  | v, c => RelB ρ F w v c
def RelA (ρ : Rho) (F : Nat → Prop) (w : World) : V → Value → Prop
  | .agg cs, c => ∃ ca : Array Value, c = .agg ca ∧ ca.size = cs.length ∧ ∀ (i : Nat) (v : V), cs[i]? = some v → ∃ c, ca[i]? = some c ∧ RelC ρ F w v c
  | v, c => RelC ρ F w v c
def RelT (ρ : Rho) (F : Nat → Prop) (w : World) : V → Value → Prop
  | .tup vs, c => ∃ ca : Array Value, c = .tuple ca ∧ ca.size = vs.length ∧ ∀ (i : Nat) (v : V), vs[i]? = some v → ∃ c, ca[i]? = some c ∧ RelA ρ F w v c
  | v, c => RelA ρ F w v c

/-- Block 'b' is a row of cells that may be written. -/
def RowB (w : World) (b : Nat) (arr : Array Value) : Prop := ∃ e lo hi, w.heap[b]? = some (.cells arr e (lo, hi)) ∧ ∀ i, i < arr.size → ¬ (lo ≤ i ∧ i < hi)
def HeapAt (ρ : Rho) (F : Nat → Prop) (w : World) : Loc → Blk → Prop
  | .box b n, .box cs => cs.length = n ∧ ∃ arr, RowB w b arr ∧ arr.size = n ∧ ∀ (i : Nat) (v : V), cs[i]? = some v → ∃ c, arr[i]? = some c ∧ RelC ρ F w v c
  | .row t a len cap, .rows t' l => ∃ h : t' = t, l.length = len ∧ len ≤ cap ∧ (cap = 0 ∨ ∃ b s arr, a = some ⟨b, s, none⟩ ∧ RowB w b arr ∧ s + cap * t.width ≤ arr.size ∧ At w b s (flat t' l))
  | _, _ => False
structure Core (ρ : Rho) (F : Nat → Prop) (σ : Store) (w : World) : Prop where
  heap : ∀ id loc blk, ρ id = some loc → look σ id = some blk → HeapAt ρ F w loc blk
  inj : ∀ i j li lj b, ρ i = some li → ρ j = some lj → li.block = some b → lj.block = some b → i = j
  stable : ∀ b, F b → b < w.heap.size ∧ ¬ ρ.M b

/-! ### Small facts -/
theorem addr_add (b s n : Nat) : (⟨b, s, none⟩ : Addr).add n = ⟨b, s + n, none⟩ := by
  unfold Addr.add; split
  · subst_vars; rfl
  · rfl
theorem cell_row {w : World} {b : Nat} {arr : Array Value} (h : RowB w b arr) (i : Nat) : w.cell? ⟨b, i, none⟩ = arr[i]? := by
  obtain ⟨e, lo, hi, h, _⟩ := h
  simp [World.cell?, h]
theorem RowB.lt {w : World} {b : Nat} {arr : Array Value} (h : RowB w b arr) : b < w.heap.size := by
  obtain ⟨e, lo, hi, h, _⟩ := h
  exact (Array.getElem?_eq_some_iff.mp h).1
theorem RowB.of_block {w w' : World} {b : Nat} {arr : Array Value} (h : RowB w b arr) (e : w'.heap[b]? = w.heap[b]?) : RowB w' b arr := by
  obtain ⟨t, lo, hi, h, k⟩ := h
  exact ⟨t, lo, hi, e.trans h, k⟩
theorem At.of_block {w w' : World} {b s : Nat} {vs : List Value} (h : At w b s vs) (e : w'.heap[b]? = w.heap[b]?) : At w' b s vs := by
  intro i v hv
  rw [← h i v hv]
  simp [World.cell?, e]
theorem plain_not {v : V} (h : v.plain = true) : (∃ k n, v = .int k n) ∨ (∃ b, v = .bool b) ∨ (∃ s, v = .str s) := by
  cases v <;> simp [V.plain] at h ⊢
theorem RelB.plain {ρ : Rho} {F : Nat → Prop} {w : World} {v : V} {c : Value} (hp : v.plain = true) : RelB ρ F w v c ↔ c = sv v := by
  rcases plain_not hp with ⟨k, n, rfl⟩ | ⟨b, rfl⟩ | ⟨s, rfl⟩ <;> simp [RelB, sv]
theorem allB_get {p : V → Bool} {l : List V} (h : allB p l = true) : ∀ v ∈ l, p v = true := by
  induction l with
  | nil => simp
  | cons a r ih =>
    simp only [allB] at h
    cases hp : p a <;> simp [hp] at h
    intro v hv
    rcases List.mem_cons.mp hv with rfl | hv
    · exact hp
    · exact ih h v hv
theorem allB_of {p : V → Bool} {l : List V} (h : ∀ v ∈ l, p v = true) : allB p l = true := by
  induction l with
  | nil => rfl
  | cons a r ih =>
    simp only [allB, h a (by simp)]
    exact ih fun v hv => h v (by simp [hv])
/-! ### What keeps the relation: a change of the ids, of what is stable, of the world -/
/-- Values that stand for something go on to stand for it, those aside that name an id of 'X'. -/
structure Ext (X : Nat → Prop) (ρ : Rho) (F : Nat → Prop) (w : World) (ρ' : Rho) (F' : Nat → Prop) (w' : World) : Prop where
  ids : ∀ id l, ¬ X id → ρ id = some l → ρ' id = some l
  stab : ∀ b, F b → F' b
  mem : ∀ b, F b → w'.heap[b]? = w.heap[b]?
theorem Ext.refl {X : Nat → Prop} {ρ : Rho} {F : Nat → Prop} {w : World} : Ext X ρ F w ρ F w := ⟨fun _ _ _ h => h, fun _ h => h, fun _ _ => rfl⟩
theorem Ext.trans {X : Nat → Prop} {ρ ρ' ρ'' : Rho} {F F' F'' : Nat → Prop} {w w' w'' : World} (h : Ext X ρ F w ρ' F' w') (k : Ext X ρ' F' w' ρ'' F'' w'') : Ext X ρ F w ρ'' F'' w'' :=
  ⟨fun id l hx hl => k.ids id l hx (h.ids id l hx hl), fun b hb => k.stab b (h.stab b hb), fun b hb => (k.mem b (h.stab b hb)).trans (h.mem b hb)⟩
/-- Names none of the ids of 'X'. -/
def AvC (X : Nat → Prop) : V → Prop
  | .own i => ¬ X i | .ownv i _ _ => ¬ X i | .lptr i _ => ¬ X i | .eptr i _ _ => ¬ X i
  | .fn _ cap => ∀ v ∈ cap, match v with | .own i => ¬ X i | .ownv i _ _ => ¬ X i | .lptr i _ => ¬ X i | .eptr i _ _ => ¬ X i | _ => True
  | _ => True
theorem RelB.ext {X : Nat → Prop} {ρ ρ' : Rho} {F F' : Nat → Prop} {w w' : World} (E : Ext X ρ F w ρ' F' w') {v : V} {c : Value}
    (ha : match v with | .own i => ¬ X i | .ownv i _ _ => ¬ X i | .lptr i _ => ¬ X i | .eptr i _ _ => ¬ X i | _ => True) (h : RelB ρ F w v c) : RelB ρ' F' w' v c := by
  cases v <;> simp only [RelB] at h ⊢ <;> try exact h
  case lst t l =>
    obtain ⟨a, cap, e, hl, h⟩ := h
    refine ⟨a, cap, e, hl, h.imp id ?_⟩
    rintro ⟨b, s, ha, hf, hat⟩
    exact ⟨b, s, ha, E.stab b hf, hat.of_block (E.mem b hf)⟩
  case own id =>
    obtain ⟨t, a, len, cap, h, e⟩ := h
    exact ⟨t, a, len, cap, E.ids _ _ ha h, e⟩
  case ownv id lo hi =>
    obtain ⟨t, a, len, cap, h, e⟩ := h
    exact ⟨t, a, len, cap, E.ids _ _ ha h, e⟩
  case sptr cs =>
    obtain ⟨b, s, e, hf, hp, hat⟩ := h
    exact ⟨b, s, e, E.stab b hf, hp, hat.of_block (E.mem b hf)⟩
  case lptr id off =>
    obtain ⟨b, n, h, e⟩ := h
    exact ⟨b, n, E.ids _ _ ha h, e⟩
  case eptr id row col =>
    obtain ⟨t, b, s, len, cap, h, e⟩ := h
    exact ⟨t, b, s, len, cap, E.ids _ _ ha h, e⟩
theorem RelC.ext {X : Nat → Prop} {ρ ρ' : Rho} {F F' : Nat → Prop} {w w' : World} (E : Ext X ρ F w ρ' F' w') {v : V} {c : Value}
    (ha : AvC X v) (h : RelC ρ F w v c) : RelC ρ' F' w' v c := by
  cases v <;> simp only [RelC] at h ⊢ <;> try exact RelB.ext E ha h
  case fn f cap =>
    obtain ⟨ca, e, hs, h⟩ := h
    refine ⟨ca, e, hs, fun i v hv => ?_⟩
    obtain ⟨c, hc, r⟩ := h i v hv
    exact ⟨c, hc, RelB.ext E (ha v (List.mem_of_getElem? hv)) r⟩
theorem avC_none (v : V) : AvC (fun _ => False) v := by
  cases v <;> simp [AvC]
  intro v _; cases v <;> simp
theorem RelC.ext0 {ρ ρ' : Rho} {F F' : Nat → Prop} {w w' : World} (E : Ext (fun _ => False) ρ F w ρ' F' w') {v : V} {c : Value} (h : RelC ρ F w v c) : RelC ρ' F' w' v c :=
  RelC.ext E (avC_none v) h
theorem RelA.ext0 {ρ ρ' : Rho} {F F' : Nat → Prop} {w w' : World} (E : Ext (fun _ => False) ρ F w ρ' F' w') {v : V} {c : Value} (h : RelA ρ F w v c) : RelA ρ' F' w' v c := by
  cases v <;> simp only [RelA] at h ⊢ <;> try exact RelC.ext0 E h
  case agg cs =>
    obtain ⟨ca, e, hs, h⟩ := h
    exact ⟨ca, e, hs, fun i v hv => let ⟨c, hc, r⟩ := h i v hv; ⟨c, hc, RelC.ext0 E r⟩⟩
theorem RelT.ext0 {ρ ρ' : Rho} {F F' : Nat → Prop} {w w' : World} (E : Ext (fun _ => False) ρ F w ρ' F' w') {v : V} {c : Value} (h : RelT ρ F w v c) : RelT ρ' F' w' v c := by
  cases v <;> simp only [RelT] at h ⊢ <;> try exact RelA.ext0 E h
  case tup vs =>
    obtain ⟨ca, e, hs, h⟩ := h
    exact ⟨ca, e, hs, fun i v hv => let ⟨c, hc, r⟩ := h i v hv; ⟨c, hc, RelA.ext0 E r⟩⟩
theorem RelC.undef {ρ : Rho} {F : Nat → Prop} {w : World} (c : Value) : RelC ρ F w .undef c := trivial
theorem RelT.undef {ρ : Rho} {F : Nat → Prop} {w : World} (c : Value) : RelT ρ F w .undef c := trivial
/-- A value becomes a weaker one. -/
def WkC (ρ : Rho) (F : Nat → Prop) (w : World) (ρ' : Rho) (F' : Nat → Prop) (w' : World) (g : V → V) : Prop := ∀ v c, RelC ρ F w v c → RelC ρ' F' w' (g v) c
theorem WkC.toA {ρ ρ' : Rho} {F F' : Nat → Prop} {w w' : World} {g gA : V → V} (hA : ∀ cs, gA (.agg cs) = .agg (cs.map g)) (hA' : ∀ v, (∀ cs, v ≠ .agg cs) → gA v = g v)
    (hg : ∀ v cs, g v = .agg cs → False)
    (h : WkC ρ F w ρ' F' w' g) {v : V} {c : Value} (r : RelA ρ F w v c) : RelA ρ' F' w' (gA v) c := by
  by_cases hv : ∃ cs, v = .agg cs
  · obtain ⟨cs, rfl⟩ := hv
    rw [hA]
    obtain ⟨ca, e, hs, r⟩ := r
    refine ⟨ca, e, by simpa using hs, fun i u hu => ?_⟩
    rw [List.getElem?_map] at hu
    cases hc : cs[i]? with
    | none => simp [hc] at hu
    | some x =>
      simp [hc] at hu
      obtain ⟨c, hc', r⟩ := r i x hc
      exact ⟨c, hc', hu ▸ h x c r⟩
  · have hv' : ∀ cs, v ≠ .agg cs := fun cs e => hv ⟨cs, e⟩
    rw [hA' v hv']
    have r' : RelC ρ F w v c := by cases v <;> first | exact r | exact absurd rfl (hv' _)
    have := h v c r'
    generalize hz : g v = z at this
    cases z <;> first | exact this | exact (hg v _ hz).elim
theorem WkC.toT {ρ ρ' : Rho} {F F' : Nat → Prop} {w w' : World} {g gA gT : V → V} (hA : ∀ cs, gA (.agg cs) = .agg (cs.map g)) (hA' : ∀ v, (∀ cs, v ≠ .agg cs) → gA v = g v)
    (hT : ∀ cs, gT (.tup cs) = .tup (cs.map gA)) (hT' : ∀ v, (∀ cs, v ≠ .tup cs) → gT v = gA v)
    (hg : ∀ v cs, g v = .agg cs → False) (hg' : ∀ v cs, g v = .tup cs → False)
    (h : WkC ρ F w ρ' F' w' g) {v : V} {c : Value} (r : RelT ρ F w v c) : RelT ρ' F' w' (gT v) c := by
  by_cases hv : ∃ cs, v = .tup cs
  · obtain ⟨cs, rfl⟩ := hv
    rw [hT]
    obtain ⟨ca, e, hs, r⟩ := r
    refine ⟨ca, e, by simpa using hs, fun i u hu => ?_⟩
    rw [List.getElem?_map] at hu
    cases hc : cs[i]? with
    | none => simp [hc] at hu
    | some x =>
      simp [hc] at hu
      obtain ⟨c, hc', r⟩ := r i x hc
      exact ⟨c, hc', hu ▸ h.toA hA hA' hg r⟩
  · have hv' : ∀ cs, v ≠ .tup cs := fun cs e => hv ⟨cs, e⟩
    rw [hT' v hv']
    have r' : RelA ρ F w v c := by cases v <;> first | exact r | exact absurd rfl (hv' _)
    have := h.toA hA hA' hg r'
    generalize hz : gA v = z at this
    cases z <;> try exact this
    exfalso
    by_cases ha : ∃ cs, v = .agg cs
    · obtain ⟨cs, rfl⟩ := ha; rw [hA] at hz; cases hz
    · rw [hA' v fun cs e => ha ⟨cs, e⟩] at hz; exact hg' v _ hz
theorem scrub_wk {ρ ρ' : Rho} {F F' : Nat → Prop} {w w' : World} {id : Nat} (E : Ext (fun i => i = id) ρ F w ρ' F' w') : WkC ρ F w ρ' F' w' (scrubC id) := by
  intro v c r
  cases v <;> try exact RelC.undef c
  case own i | ownv i _ _ | lptr i _ | eptr i _ _ =>
    simp only [scrubC]
    cases h : Nat.beq i id
    · exact RelC.ext E (show ¬ i = id from fun e => by subst e; simp at h) r
    · exact RelC.undef c
  all_goals exact RelC.ext E (X := fun i => i = id) trivial r
theorem scrubC_agg {id : Nat} {v : V} {cs : List V} (h : scrubC id v = .agg cs) : False := by
  cases v <;> simp only [scrubC] at h <;> try cases h
  all_goals (revert h; cases Nat.beq _ id <;> exact fun h => nomatch h)
theorem scrubC_tup {id : Nat} {v : V} {cs : List V} (h : scrubC id v = .tup cs) : False := by
  cases v <;> simp only [scrubC] at h <;> try cases h
  all_goals (revert h; cases Nat.beq _ id <;> exact fun h => nomatch h)
theorem scrubT_rel {ρ ρ' : Rho} {F F' : Nat → Prop} {w w' : World} {id : Nat} (E : Ext (fun i => i = id) ρ F w ρ' F' w') {v : V} {c : Value} (r : RelT ρ F w v c) : RelT ρ' F' w' (scrubT id v) c := by
  refine (scrub_wk E).toT (gA := scrubA id) (fun _ => rfl) ?_ (fun _ => rfl) ?_ (fun _ _ => scrubC_agg) (fun _ _ => scrubC_tup) r
  · intro v hv; cases v <;> first | rfl | exact absurd rfl (hv _)
  · intro v hv; cases v <;> first | rfl | exact absurd rfl (hv _)
end Ev
