/- Regions: their operations in order, or in whatever order is drawn. -/
import Derived.Test.YtmnahocockdpcaaCall5
import Derived.Orders
set_option linter.unusedVariables false
set_option linter.unusedSimpArgs false
namespace Ev
open Go

theorem evOp_sound {R : Type} {P : Program} {E : Env} {T : Tab} (hT : TabOK P T) (hE : EnvOK P E) {ann : Nat → Bool} {o : Oper} {s : St} {K : V → St → Option R} {r : R}
    (h : evOp E T ann (idOf o) o.op s K = some r) : ∃ v s', K v s' = some r ∧ OpOK P (calm E ann o = true) o s v s' := by
  by_cases hn : NoCall o.op
  · exact evOp_base hT rfl hn h
  · cases hop : o.op <;> rw [hop] at hn <;> simp only [NoCall] at hn <;> try (exact absurd trivial hn)
    rename_i c
    obtain ⟨callee, args, ts⟩ := c
    cases callee <;> simp only [NoCall] at hn <;> try (exact absurd trivial hn)
    rename_i fo
    rw [hop] at h
    simp only [evOp] at h
    split at h <;> try (cases h; done)
    rename_i g cap hfo
    rw [opds_map] at h
    exact callK_sound hE hop rfl hfo h

/-! ### Frames -/
theorem setK_some {R : Type} : ∀ {fr : List V} {d : Nat} {v : V} {K : List V → Option R} {r : R}, setK fr d v K = some r →
    ∃ fr', K fr' = some r ∧ d < fr.length ∧ fr'.length = fr.length ∧ get fr' d = v ∧ (∀ t, t ≠ d → get fr' t = get fr t) ∧ (get fr d = v → fr' = fr)
  | [], d, v, K, r, h => by simp [setK] at h
  | x :: xs, 0, v, K, r, h => ⟨_, h, by simp, by simp, rfl, fun t ht => by cases t <;> first | exact absurd rfl ht | rfl, fun e => by simp only [get] at e; rw [e]⟩
  | x :: xs, d + 1, v, K, r, h => by
    simp only [setK] at h
    obtain ⟨fr', hk, h1, h2, h3, h4, h5⟩ := setK_some h
    refine ⟨_, hk, by simpa using h1, by simp [h2], h3, fun t ht => ?_, fun e => by rw [h5 e]⟩
    cases t with
    | zero => rfl
    | succ t => exact h4 t (by omega)
theorem get_lt {fr : List V} {t : Nat} (h : get fr t ≠ .undef) : t < fr.length := by
  induction fr generalizing t with
  | nil => exact absurd rfl h
  | cons x xs ih =>
    cases t with
    | zero => simp
    | succ t => simpa using ih (t := t) h
/-- A value laid into the frame. -/
structure PutR (s : St) (dst : Option Nat) (v : V) (s' : St) : Prop where
  st : s'.st = s.st
  len : s'.fr.length = s.fr.length
  at_ : ∀ d, dst = some d → d < s.fr.length ∧ get s'.fr d = v
  oth : ∀ t, dst ≠ some t → get s'.fr t = get s.fr t
theorem putK_some {R : Type} {s : St} {dst : Option Nat} {v : V} {K : St → Option R} {r : R} (h : putK s dst v K = some r) : ∃ s', K s' = some r ∧ PutR s dst v s' := by
  unfold putK at h
  split at h
  · obtain ⟨fr', hk, h1, h2, h3, h4, _⟩ := setK_some h
    exact ⟨_, hk, rfl, h2, fun d hd => by cases hd; exact ⟨h1, h3⟩, fun t ht => h4 t fun e => ht (by rw [e])⟩
  · exact ⟨s, h, rfl, rfl, fun d hd => (by cases hd), fun _ _ => rfl⟩
/-- What the guard says. -/
def Wanted (ops : List Oper) (s : St) (o : Oper) : Prop := match o.guard with
  | none => True
  | some (j, want) => ∃ g, dstOf ops j = some g ∧ get s.fr g = .bool want
def Unwanted (ops : List Oper) (s : St) (o : Oper) : Prop := match o.guard with
  | none => False
  | some (j, want) => ∃ g, dstOf ops j = some g ∧ (get s.fr g = .bool (!want) ∨ get s.fr g = .tup [])
/-- One operation of a region. -/
def StepP (P : Program) (E : Env) (ann : Nat → Bool) (ops : List Oper) (o : Oper) (s : St) (v : V) (s' : St) : Prop :=
  (Wanted ops s o ∧ ∃ s1, OpOK P (calm E ann o = true) o s v s1 ∧ PutR s1 o.dst v s') ∨ (Unwanted ops s o ∧ v = .tup [] ∧ PutR s o.dst v s')
theorem evOps_trace {R : Type} {P : Program} {E : Env} {T : Tab} (hT : TabOK P T) (hE : EnvOK P E) {ann : Nat → Bool} {ops : List Oper} : ∀ {os : List Oper} {s : St} {K : St → Option R} {r : R}, evOps E T ann ops os s K = some r →
    ∃ (S : Nat → St) (v : Nat → V), S 0 = s ∧ K (S os.length) = some r ∧ ∀ (i : Nat) o, os[i]? = some o → StepP P E ann ops o (S i) (v i) (S (i + 1))
  | [], s, K, r, h => ⟨fun _ => s, fun _ => .undef, rfl, h, fun i o h => by simp at h⟩
  | o :: os, s, K, r, h => by
    have step : ∃ v s', StepP P E ann ops o s v s' ∧ evOps E T ann ops os s' K = some r := by
      unfold evOps at h
      split at h
      · rename_i hg
        obtain ⟨v, s1, h, ok⟩ := evOp_sound hT hE h
        obtain ⟨s', h, hp⟩ := putK_some h
        exact ⟨v, s', .inl ⟨by unfold Wanted; rw [hg]; trivial, s1, ok, hp⟩, h⟩
      · rename_i j want hg
        split at h <;> try (cases h; done)
        rename_i g hgd
        split at h <;> try (cases h; done)
        · rename_i b hb
          by_cases hbw : b = want
          · have hc : cond want b (!b) = true := by subst hbw; cases b <;> rfl
            rw [hc, cond_true] at h
            obtain ⟨fr', h, _, _, _, _, h5⟩ := setK_some h
            have e := h5 (by rw [hb, hbw])
            subst e
            obtain ⟨v, s1, h, ok⟩ := evOp_sound (s := ⟨s.fr, s.st⟩) hT hE h
            obtain ⟨s', h, hp⟩ := putK_some h
            exact ⟨v, s', .inl ⟨by unfold Wanted; rw [hg]; exact ⟨g, hgd, by rw [hb, hbw]⟩, s1, ok, hp⟩, h⟩
          · have hc : cond want b (!b) = false := by cases want <;> cases b <;> first | rfl | exact absurd rfl hbw
            have hbn : b = !want := by cases want <;> cases b <;> first | rfl | exact absurd rfl hbw
            rw [hc, cond_false] at h
            obtain ⟨fr', h, _, _, _, _, h5⟩ := setK_some h
            have e := h5 (by rw [hb, hbn])
            subst e
            obtain ⟨s', h, hp⟩ := putK_some h
            exact ⟨.tup [], s', .inr ⟨by unfold Unwanted; rw [hg]; exact ⟨g, hgd, .inl (by rw [hb, hbn])⟩, rfl, hp⟩, h⟩
        · rename_i hb
          obtain ⟨s', h, hp⟩ := putK_some h
          exact ⟨.tup [], s', .inr ⟨by unfold Unwanted; rw [hg]; exact ⟨g, hgd, .inr hb⟩, rfl, hp⟩, h⟩
    obtain ⟨v0, s1, st0, h⟩ := step
    obtain ⟨S, v, hS, hk, hst⟩ := evOps_trace hT hE h
    refine ⟨fun i => match i with | 0 => s | i + 1 => S i, fun i => match i with | 0 => v0 | i + 1 => v i, rfl, hk, fun i o' hi => ?_⟩
    cases i with
    | zero => simp at hi; subst hi; simp only [hS]; exact st0
    | succ i => exact hst i o' (by simpa using hi)

/-! ### The state -/
structure Ctx where
  W0 : World
  F0 : Nat → Prop
  ρ0 : Rho
structure Base (C : Ctx) (ρ : Rho) (F : Nat → Prop) (st : Store) (w : World) : Prop where
  chg : Chg C.ρ0.M C.W0 w
  mb : ∀ b, ρ.M b → b < C.W0.heap.size → C.ρ0.M b
  stb : ∀ b, F b → b < C.W0.heap.size → C.F0 b ∨ C.ρ0.M b
  par : ∀ j l, j < 100 → C.ρ0 j = some l → look st j ≠ none → ρ j = some l
structure SR (C : Ctx) (s : St) (a : Act) (w : World) : Prop where
  defers : a.defers = []
  len : s.fr.length ≤ a.tmps.size
  ex : ∃ ρ F, Core ρ F s.st w ∧ Dom ρ s.st ∧ Base C ρ F s.st w ∧ ∀ t, RelT ρ F w (get s.fr t) (a.tmps.getD t undef)
theorem core_lt {ρ : Rho} {F : Nat → Prop} {σ : Store} {w : World} (H : Core ρ F σ w) (D : Dom ρ σ) : ∀ b, ρ.M b → b < w.heap.size := by
  rintro b ⟨id, loc, h, hb⟩
  cases hl : look σ id with
  | none => exact absurd hl (D id loc h)
  | some blk => exact (H.heap id loc blk h hl).lt hb
theorem Base.step {C : Ctx} {ρ ρ' : Rho} {F F' : Nat → Prop} {st st' : Store} {w w' : World} (B : Base C ρ F st w) (S : Stp ρ F w ρ' F' w') (hM : ∀ b, ρ.M b → b < w.heap.size)
    (hp : ∀ j l, j < 100 → ρ j = some l → look st' j ≠ none → ρ' j = some l) (hn : ∀ j, j < 100 → look st' j ≠ none → look st j ≠ none) : Base C ρ' F' st' w' := by
  refine ⟨B.chg.trans S.chg (fun _ h => h) (fun x hx h => B.mb x h hx), fun b hb hlt => ?_, fun b hb hlt => ?_, fun j l hj hl hk => ?_⟩
  · rcases S.mb b hb with h | h
    · exact B.mb b h hlt
    · have := B.chg.size; omega
  · rcases S.stb b hb with h | h | h
    · exact B.stb b h hlt
    · exact .inr (B.mb b h hlt)
    · have := B.chg.size; omega
  · exact hp j l hj (B.par j l hj hl (hn j hj hk)) hk
theorem tmps_put {a : Act} {dst : Option Nat} {c : Value} : (∀ d, dst = some d → d < a.tmps.size → (a.put dst c).tmps.getD d undef = c) ∧ (∀ t, dst ≠ some t → (a.put dst c).tmps.getD t undef = a.tmps.getD t undef) ∧ (a.put dst c).tmps.size = a.tmps.size ∧ (a.put dst c).defers = a.defers := by
  cases dst with
  | none => exact ⟨fun d h => (by cases h), fun _ _ => rfl, rfl, rfl⟩
  | some d =>
    refine ⟨fun d' h hl => ?_, fun t ht => ?_, by simp [Act.put], rfl⟩
    · cases h; simp [Act.put, hl]
    · have : d ≠ t := fun e => ht (by rw [e])
      simp [Act.put, Array.getElem?_setIfInBounds_ne this]
theorem wanted_of {ops : Array Oper} {s : St} {a : Act} {o : Oper} {ρ : Rho} {F : Nat → Prop} {w : World} (hlen : s.fr.length ≤ a.tmps.size)
    (hr : ∀ j want g, o.guard = some (j, want) → dstOf ops.toList j = some g → RelT ρ F w (get s.fr g) (a.tmps.getD g undef)) :
    (Wanted ops.toList s o → Region.wanted o (yielded ops a.tmps) = true) ∧ (Unwanted ops.toList s o → Region.wanted o (yielded ops a.tmps) = false) := by
  have dst : ∀ j g, dstOf ops.toList j = some g → (ops[j]?).bind (·.dst) = some g := by
    intro j g h
    unfold dstOf at h
    rw [Array.getElem?_toList] at h
    cases hj : ops[j]? with
    | none => simp [hj] at h
    | some x => simp [hj] at h; simp [h]
  have cell : ∀ g, get s.fr g ≠ .undef → a.tmps[g]? = some (a.tmps.getD g undef) := by
    intro g h
    have := get_lt h
    simp [show g < a.tmps.size by omega]
  constructor
  · intro h
    unfold Wanted at h
    split at h
    · rename_i hg; simp [Region.wanted, hg]
    · rename_i j want hg
      obtain ⟨g, h1, h2⟩ := h
      have r := hr j want g hg h1
      rw [h2] at r
      have e : a.tmps.getD g undef = .bool want := r
      simp [Region.wanted, hg, yielded, dst j g h1, cell g (by rw [h2]; simp), e]
  · intro h
    unfold Unwanted at h
    split at h
    · exact h.elim
    · rename_i j want hg
      obtain ⟨g, h1, h2⟩ := h
      have r := hr j want g hg h1
      rcases h2 with h2 | h2
      · rw [h2] at r
        have e : a.tmps.getD g undef = .bool (!want) := r
        simp [Region.wanted, hg, yielded, dst j g h1, cell g (by rw [h2]; simp), e]
      · rw [h2] at r
        obtain ⟨ca, e, _⟩ := r
        simp [Region.wanted, hg, yielded, dst j g h1, cell g (by rw [h2]; simp), e]
theorem relT_skip {ρ : Rho} {F : Nat → Prop} {w : World} : RelT ρ F w (.tup []) undef := ⟨#[], rfl, rfl, fun i v h => by simp at h⟩
/-- Operations in order. -/
theorem seq_sound {P : Program} {E : Env} {ann : Nat → Bool} {ops : Array Oper} {C : Ctx} {Q : Exit → Act → World → Prop} : ∀ (os : List Oper) (S : Nat → St) (v : Nat → V), (∀ (i : Nat) o, os[i]? = some o → StepP P E ann ops.toList o (S i) (v i) (S (i + 1))) →
    (∀ a w, SR C (S os.length) a w → Q .normal a w) → ∀ a w, SR C (S 0) a w → wpList P ops Q os a w
  | [], S, v, _, hQ, a, w, h => hQ a w h
  | o :: os, S, v, hst, hQ, a, w, h => by
    have ih := seq_sound os (fun i => S (i + 1)) (fun i => v (i + 1)) (fun i o' hi => hst (i + 1) o' (by simpa using hi)) hQ
    obtain ⟨ρ, F, H, D, B, hf⟩ := h.ex
    have hM := core_lt H D
    obtain ⟨hw1, hw2⟩ := wanted_of (ops := ops) (s := S 0) (a := a) (o := o) (ρ := ρ) (F := F) (w := w) h.len (fun _ _ g _ _ => hf g)
    unfold wpList
    rcases hst 0 o rfl with ⟨hw, s1, ok, hp⟩ | ⟨hw, hv, hp⟩
    · rw [if_pos (hw1 hw)]
      left
      refine ok ρ F a w H hM (fun id hid _ => ?_) (fun t _ => hf t) _ _ fun c w' ρ' F' po => ih _ _ ?_
      · cases hx : ρ id with
        | none => rfl
        | some l => exact absurd hid (D id l hx)
      · obtain ⟨p1, p2, p3, p4⟩ := tmps_put (a := a) (dst := o.dst) (c := c)
        refine ⟨p4.trans h.defers, ?_, ρ', F', ?_, ?_, ?_, fun t => ?_⟩
        · rw [hp.len, po.len, p3]; exact h.len
        · rw [hp.st]; exact po.core
        · rw [hp.st]; exact po.dom D
        · rw [hp.st]
          exact B.step po.stp hM po.par po.low
        · by_cases ht : o.dst = some t
          · obtain ⟨g1, g2⟩ := hp.at_ t ht
            rw [g2, p1 t ht (by rw [po.len] at g1; have := h.len; omega)]; exact po.val
          · rw [hp.oth t ht, p2 t ht]; exact po.fr t _ (hf t)
    · rw [if_neg (by rw [hw2 hw]; simp)]
      refine ih _ _ ?_
      obtain ⟨p1, p2, p3, p4⟩ := tmps_put (a := a) (dst := o.dst) (c := undef)
      refine ⟨p4.trans h.defers, by rw [hp.len, p3]; exact h.len, ρ, F, by rw [hp.st]; exact H, by rw [hp.st]; exact D, by rw [hp.st]; exact B, fun t => ?_⟩
      by_cases ht : o.dst = some t
      · obtain ⟨g1, g2⟩ := hp.at_ t ht
        rw [g2, p1 t ht (by have := h.len; omega), hv]; exact relT_skip
      · rw [hp.oth t ht, p2 t ht]; exact hf t
end Ev
