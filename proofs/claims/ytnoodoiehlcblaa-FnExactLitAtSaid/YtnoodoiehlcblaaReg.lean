/- Regions: their operations in order, or in whatever order is drawn. -/
import Derived.Test.YtnoodoiehlcblaaCall5
import Derived.Orders
set_option linter.unusedVariables false
set_option linter.unusedSimpArgs false
namespace Ev
open Go

theorem evOp_sound {R : Type} {P : Program} {E : Env} {T : Tab} (hT : TabOK P T) (hE : EnvOK P E) {ann : Nat → Bool} {o : Oper} {s : St} {K : V → St → Option R} {r : R}
    (h : evOp E T ann (idOf o) o.op s K = some r) : ∃ v s', K v s' = some r ∧ OpOK P (calm E ann o = true) o s v s' := by
  by_cases hn : NoCall o.op
  · exact evOp_base hT rfl hn h
  · cases hop : o.op <;> rw [hop] at hn <;> simp only [NoCall] at hn <;> try (exact absurd trivial hn)
    rename_i c
    obtain ⟨callee, args, ts⟩ := c
    cases callee <;> simp only [NoCall] at hn <;> try (exact absurd trivial hn)
    rename_i fo
    rw [hop] at h
    simp only [evOp] at h
    split at h <;> try (cases h; done)
    rename_i g cap hfo
    rw [opds_map] at h
    exact callK_sound hE hop rfl hfo h

/-! ### Frames -/
theorem setK_some {R : Type} : ∀ {fr : List V} {d : Nat} {v : V} {K : List V → Option R} {r : R}, setK fr d v K = some r →
    ∃ fr', K fr' = some r ∧ d < fr.length ∧ fr'.length = fr.length ∧ get fr' d = v ∧ (∀ t, t ≠ d → get fr' t = get fr t) ∧ (get fr d = v → fr' = fr)
  | [], d, v, K, r, h => by simp [setK] at h
  | x :: xs, 0, v, K, r, h => ⟨_, h, by simp, by simp, rfl, fun t ht => by cases t <;> first | exact absurd rfl ht | rfl, fun e => by simp only [get] at e; rw [e]⟩
  | x :: xs, d + 1, v, K, r, h => by
    simp only [setK] at h
    obtain ⟨fr', hk, h1, h2, h3, h4, h5⟩ := setK_some h
    refine ⟨_, hk, by simpa using h1, by simp [h2], h3, fun t ht => ?_, fun e => by rw [h5 e]⟩
    cases t with
    | zero => rfl
    | succ t => exact h4 t (by omega)
theorem get_lt {fr : List V} {t : Nat} (h : get fr t ≠ .undef) : t < fr.length := by
  induction fr generalizing t with
  | nil => exact absurd rfl h
  | cons x xs ih =>
    cases t with
    | zero => simp
    | succ t => simpa using ih (t := t) h
/-- A value laid into the frame. -/
structure PutR (s : St) (dst : Option Nat) (v : V) (s' : St) : Prop where
  st : s'.st = s.st
  len : s'.fr.length = s.fr.length
  at_ : ∀ d, dst = some d → d < s.fr.length ∧ get s'.fr d = v
  oth : ∀ t, dst ≠ some t → get s'.fr t = get s.fr t
theorem putK_some {R : Type} {s : St} {dst : Option Nat} {v : V} {K : St → Option R} {r : R} (h : putK s dst v K = some r) : ∃ s', K s' = some r ∧ PutR s dst v s' := by
  unfold putK at h
  split at h
  · obtain ⟨fr', hk, h1, h2, h3, h4, _⟩ := setK_some h
    exact ⟨_, hk, rfl, h2, fun d hd => by cases hd; exact ⟨h1, h3⟩, fun t ht => h4 t fun e => ht (by rw [e])⟩
  · exact ⟨s, h, rfl, rfl, fun d hd => (by cases hd), fun _ _ => rfl⟩
/-- What the guard says. -/
def Wanted (ops : List Oper) (s : St) (o : Oper) : Prop := match o.guard with
  | none => True
  | some (j, want) => ∃ g, dstOf ops j = some g ∧ get s.fr g = .bool want
def Unwanted (ops : List Oper) (s : St) (o : Oper) : Prop := match o.guard with
  | none => False
  | some (j, want) => ∃ g, dstOf ops j = some g ∧ (get s.fr g = .bool (!want) ∨ get s.fr g = .tup [])
/-- One operation of a region. -/
def StepP (P : Program) (E : Env) (ann : Nat → Bool) (ops : List Oper) (o : Oper) (s : St) (v : V) (s' : St) : Prop :=
  (Wanted ops s o ∧ ∃ s1, OpOK P (calm E ann o = true) o s v s1 ∧ PutR s1 o.dst v s') ∨ (Unwanted ops s o ∧ v = .tup [] ∧ PutR s o.dst v s')
theorem evOps_trace {R : Type} {P : Program} {E : Env} {T : Tab} (hT : TabOK P T) (hE : EnvOK P E) {ann : Nat → Bool} {ops : List Oper} : ∀ {os : List Oper} {s : St} {K : St → Option R} {r : R}, evOps E T ann ops os s K = some r →
    ∃ (S : Nat → St) (v : Nat → V), S 0 = s ∧ K (S os.length) = some r ∧ ∀ (i : Nat) o, os[i]? = some o → StepP P E ann ops o (S i) (v i) (S (i + 1))
  | [], s, K, r, h => ⟨fun _ => s, fun _ => .undef, rfl, h, fun i o h => by simp at h⟩
  | o :: os, s, K, r, h => by
    have step : ∃ v s', StepP P E ann ops o s v s' ∧ evOps E T ann ops os s' K = some r := by
      unfold evOps at h
      split at h
      · rename_i hg
        obtain ⟨v, s1, h, ok⟩ := evOp_sound hT hE h
        obtain ⟨s', h, hp⟩ := putK_some h
        exact ⟨v, s', .inl ⟨by unfold Wanted; rw [hg]; trivial, s1, ok, hp⟩, h⟩
      · rename_i j want hg
        split at h <;> try (cases h; done)
        rename_i g hgd
        split at h <;> try (cases h; done)
        · rename_i b hb
          by_cases hbw : b = want
          · have hc : cond want b (!b) = true := by subst hbw; cases b <;> rfl
            rw [hc, cond_true] at h
            obtain ⟨fr', h, _, _, _, _, h5⟩ := setK_some h
            have e := h5 (by rw [hb, hbw])
            subst e
            obtain ⟨v, s1, h, ok⟩ := evOp_sound (s := ⟨s.fr, s.st⟩) hT hE h
            obtain ⟨s', h, hp⟩ := putK_some h
            exact ⟨v, s', .inl ⟨by unfold Wanted; rw [hg]; exact ⟨g, hgd, by rw [hb, hbw]⟩, s1, ok, hp⟩, h⟩
          · have hc : cond want b (!b) = false := by cases want <;> cases b <;> first | rfl | exact absurd rfl hbw
            have hbn : b = !want := by cases want <;> cases b <;> first | rfl | exact absurd rfl hbw
            rw [hc, cond_false] at h
            obtain ⟨fr', h, _, _, _, _, h5⟩ := setK_some h
            have e := h5 (by rw [hb, hbn])
            subst e
            obtain ⟨s', h, hp⟩ := putK_some h
            exact ⟨.tup [], s', .inr ⟨by unfold Unwanted; rw [hg]; exact ⟨g, hgd, .inl (by rw [hb, hbn])⟩, rfl, hp⟩, h⟩
        · rename_i hb
          obtain ⟨s', h, hp⟩ := putK_some h
          exact ⟨.tup [], s', .inr ⟨by unfold Unwanted; rw [hg]; exact ⟨g, hgd, .inr hb⟩, rfl, hp⟩, h⟩
    obtain ⟨v0, s1, st0, h⟩ := step
    obtain ⟨S, v, hS, hk, hst⟩ := evOps_trace hT hE h
    refine ⟨fun i => match i with | 0 => s | i + 1 => S i, fun i => match i with | 0 => v0 | i + 1 => v i, rfl, hk, fun i o' hi => ?_⟩
    cases i with
    | zero => simp at hi; subst hi; simp only [hS]; exact st0
    | succ i => exact hst i o' (by simpa using hi)

/-! ### The state -/
structure Ctx where
  W0 : World
  F0 : Nat → Prop
  ρ0 : Rho
structure Base (C : Ctx) (ρ : Rho) (F : Nat → Prop) (st : Store) (w : World) : Prop where
  chg : Chg C.ρ0.M C.W0 w
  mb : ∀ b, ρ.M b → b < C.W0.heap.size → C.ρ0.M b
  stb : ∀ b, F b → b < C.W0.heap.size → C.F0 b ∨ C.ρ0.M b
  par : ∀ j l, j < 100 → C.ρ0 j = some l → look st j ≠ none → ρ j = some l
structure SR (C : Ctx) (s : St) (a : Act) (w : World) : Prop where
  defers : a.defers = []
  len : s.fr.length ≤ a.tmps.size
  ex : ∃ ρ F, Core ρ F s.st w ∧ Dom ρ s.st ∧ Base C ρ F s.st w ∧ ∀ t, RelT ρ F w (get s.fr t) (a.tmps.getD t undef)
theorem core_lt {ρ : Rho} {F : Nat → Prop} {σ : Store} {w : World} (H : Core ρ F σ w) (D : Dom ρ σ) : ∀ b, ρ.M b → b < w.heap.size := by
  rintro b ⟨id, loc, h, hb⟩
  cases hl : look σ id with
  | none => exact absurd hl (D id loc h)
  | some blk => exact (H.heap id loc blk h hl).lt hb
theorem Base.step {C : Ctx} {ρ ρ' : Rho} {F F' : Nat → Prop} {st st' : Store} {w w' : World} (B : Base C ρ F st w) (S : Stp ρ F w ρ' F' w') (hM : ∀ b, ρ.M b → b < w.heap.size)
    (hp : ∀ j l, j < 100 → ρ j = some l → look st' j ≠ none → ρ' j = some l) (hn : ∀ j, j < 100 → look st' j ≠ none → look st j ≠ none) : Base C ρ' F' st' w' := by
  refine ⟨B.chg.trans S.chg (fun _ h => h) (fun x hx h => B.mb x h hx), fun b hb hlt => ?_, fun b hb hlt => ?_, fun j l hj hl hk => ?_⟩
  · rcases S.mb b hb with h | h
    · exact B.mb b h hlt
    · have := B.chg.size; omega
  · rcases S.stb b hb with h | h | h
    · exact B.stb b h hlt
    · exact .inr (B.mb b h hlt)
    · have := B.chg.size; omega
  · exact hp j l hj (B.par j l hj hl (hn j hj hk)) hk
theorem tmps_put {a : Act} {dst : Option Nat} {c : Value} : (∀ d, dst = some d → d < a.tmps.size → (a.put dst c).tmps.getD d undef = c) ∧ (∀ t, dst ≠ some t → (a.put dst c).tmps.getD t undef = a.tmps.getD t undef) ∧ (a.put dst c).tmps.size = a.tmps.size ∧ (a.put dst c).defers = a.defers := by
  cases dst with
  | none => exact ⟨fun d h => (by cases h), fun _ _ => rfl, rfl, rfl⟩
  | some d =>
    refine ⟨fun d' h hl => ?_, fun t ht => ?_, by simp [Act.put], rfl⟩
    · cases h; simp [Act.put, hl]
    · have : d ≠ t := fun e => ht (by rw [e])
      simp [Act.put, Array.getElem?_setIfInBounds_ne this]
theorem wanted_of {ops : Array Oper} {s : St} {a : Act} {o : Oper} {ρ : Rho} {F : Nat → Prop} {w : World} (hlen : s.fr.length ≤ a.tmps.size)
    (hr : ∀ j want g, o.guard = some (j, want) → dstOf ops.toList j = some g → RelT ρ F w (get s.fr g) (a.tmps.getD g undef)) :
    (Wanted ops.toList s o → Region.wanted o (yielded ops a.tmps) = true) ∧ (Unwanted ops.toList s o → Region.wanted o (yielded ops a.tmps) = false) := by
  have dst : ∀ j g, dstOf ops.toList j = some g → (ops[j]?).bind (·.dst) = some g := by
    intro j g h
    unfold dstOf at h
    rw [Array.getElem?_toList] at h
    cases hj : ops[j]? with
    | none => simp [hj] at h
    | some x => simp [hj] at h; simp [h]
  have cell : ∀ g, get s.fr g ≠ .undef → a.tmps[g]? = some (a.tmps.getD g undef) := by
    intro g h
    have := get_lt h
    simp [show g < a.tmps.size by omega]
  constructor
  · intro h
    unfold Wanted at h
    split at h
    · rename_i hg; simp [Region.wanted, hg]
    · rename_i j want hg
      obtain ⟨g, h1, h2⟩ := h
      have r := hr j want g hg h1
      rw [h2] at r
      have e : a.tmps.getD g undef = .bool want := r
      simp [Region.wanted, hg, yielded, dst j g h1, cell g (by rw [h2]; simp), e]
  · intro h
    unfold Unwanted at h
    split at h
    · exact h.elim
    · rename_i j want hg
      obtain ⟨g, h1, h2⟩ := h
      have r := hr j want g hg h1
      rcases h2 with h2 | h2
      · rw [h2] at r
        have e : a.tmps.getD g undef = .bool (!want) := r
        simp [Region.wanted, hg, yielded, dst j g h1, cell g (by rw [h2]; simp), e]
      · rw [h2] at r
        obtain ⟨ca, e, _⟩ := r
        simp [Region.wanted, hg, yielded, dst j g h1, cell g (by rw [h2]; simp), e]
theorem relT_skip {ρ : Rho} {F : Nat → Prop} {w : World} : RelT ρ F w (.tup []) undef := ⟨#[], rfl, rfl, fun i v h => by simp at h⟩
/-- One operation, in the order of the text. -/
theorem step_sound {P : Program} {E : Env} {ann : Nat → Bool} {ops : Array Oper} {C : Ctx} {Q : Exit → Act → World → Prop} {N : Act → World → Prop} {o : Oper} {s s' : St} {v : V} (st : StepP P E ann ops.toList o s v s')
    (hN : ∀ a w, SR C s' a w → N a w) {a : Act} {w : World} (h : SR C s a w) :
    if Region.wanted o (yielded ops a.tmps) then o.wp P a w N Q ∨ (o.asks P a w ∧ LetsOut Q) else N (a.put o.dst undef) w := by
  obtain ⟨ρ, F, H, D, B, hf⟩ := h.ex
  have hM := core_lt H D
  obtain ⟨hw1, hw2⟩ := wanted_of (ops := ops) (s := s) (a := a) (o := o) (ρ := ρ) (F := F) (w := w) h.len (fun _ _ g _ _ => hf g)
  rcases st with ⟨hw, s1, ok, hp⟩ | ⟨hw, hv, hp⟩
  · rw [if_pos (hw1 hw)]
    left
    refine ok ρ F a w H hM (fun id hid _ => ?_) (fun t _ => hf t) _ _ fun c w' ρ' F' po => hN _ _ ?_
    · cases hx : ρ id with
      | none => rfl
      | some l => exact absurd hid (D id l hx)
    · obtain ⟨p1, p2, p3, p4⟩ := tmps_put (a := a) (dst := o.dst) (c := c)
      refine ⟨p4.trans h.defers, ?_, ρ', F', ?_, ?_, ?_, fun t => ?_⟩
      · rw [hp.len, po.len, p3]; exact h.len
      · rw [hp.st]; exact po.core
      · rw [hp.st]; exact po.dom D
      · rw [hp.st]
        exact B.step po.stp hM po.par po.low
      · by_cases ht : o.dst = some t
        · obtain ⟨g1, g2⟩ := hp.at_ t ht
          rw [g2, p1 t ht (by rw [po.len] at g1; have := h.len; omega)]; exact po.val
        · rw [hp.oth t ht, p2 t ht]; exact po.fr t _ (hf t)
  · rw [if_neg (by rw [hw2 hw]; simp)]
    refine hN _ _ ?_
    obtain ⟨p1, p2, p3, p4⟩ := tmps_put (a := a) (dst := o.dst) (c := undef)
    refine ⟨p4.trans h.defers, by rw [hp.len, p3]; exact h.len, ρ, F, by rw [hp.st]; exact H, by rw [hp.st]; exact D, by rw [hp.st]; exact B, fun t => ?_⟩
    by_cases ht : o.dst = some t
    · obtain ⟨g1, g2⟩ := hp.at_ t ht
      rw [g2, p1 t ht (by have := h.len; omega), hv]; exact relT_skip
    · rw [hp.oth t ht, p2 t ht]; exact hf t
/-- A value laid into a slot. -/
theorem sr_put {C : Ctx} {s s' : St} {a : Act} {w : World} {d : Option Nat} {v : V} {c : Value} (h : SR C s a w) (hp : PutR s d v s') (hv : ∀ ρ F, RelT ρ F w v c) : SR C s' (a.put d c) w := by
  obtain ⟨ρ, F, H, D, B, hf⟩ := h.ex
  obtain ⟨p1, p2, p3, p4⟩ := tmps_put (a := a) (dst := d) (c := c)
  refine ⟨p4.trans h.defers, by rw [hp.len, p3]; exact h.len, ρ, F, by rw [hp.st]; exact H, by rw [hp.st]; exact D, by rw [hp.st]; exact B, fun t => ?_⟩
  by_cases ht : d = some t
  · obtain ⟨g1, g2⟩ := hp.at_ t ht
    rw [g2, p1 t ht (by have := h.len; omega)]; exact hv ρ F
  · rw [hp.oth t ht, p2 t ht]; exact hf t
theorem both_some {R : Type} {a b : Option R} {r : R} (h : both a b = some r) : a = some r ∧ b = some r := by
  unfold both at h
  split at h
  · rename_i e; exact ⟨h, e ▸ h⟩
  · cases h
theorem emptyK_some {R : Type} {l : Bool} {a b : Option R} {r : R} (h : emptyK l a b = some r) : b = some r ∧ (l = true → a = some r) := by
  unfold emptyK at h
  cases l with
  | true => rw [cond_true] at h; exact ⟨(both_some h).2, fun _ => (both_some h).1⟩
  | false => rw [cond_false] at h; exact ⟨h, fun e => by cases e⟩
theorem isNil_op {o : Oper} (h : isNil o = true) : ∃ op t x u, o.op = .binOp op t x (.const (.slice none 0 0)) u := by
  unfold isNil at h
  split at h
  · rename_i op t x u hop; exact ⟨op, t, x, u, hop⟩
  · cases h
/-- What a slice that a value stands for says of nil. -/
theorem nil_or {ρ : Rho} {F : Nat → Prop} {st : Store} {w : World} (H : Core ρ F st w) {v : V} {c : Value} (r : RelT ρ F w v c) :
    (v = .nils → c = .slice none 0 0) ∧ (∀ t l, v = .lst t l → ∃ a n k, c = .slice a n k ∧ (a = none → l = [])) ∧
    (∀ id t l, v = .own id → look st id = some (.rows t l) → ∃ a n k, c = .slice a n k ∧ (a = none → l = [])) := by
  refine ⟨fun e => by subst e; exact r, fun t l e => ?_, fun id t l e hl => ?_⟩
  · subst e
    obtain ⟨a, cap, e, _, h⟩ := r
    refine ⟨a, _, cap, e, fun ha => ?_⟩
    rcases h with h | ⟨b, s, hb, _⟩
    · exact h
    · rw [ha] at hb; cases hb
  · subst e
    obtain ⟨t0, a, len, cap, hρ, e⟩ := r
    refine ⟨a, len, cap, e, fun ha => ?_⟩
    obtain ⟨_, _, _, h⟩ := row_at H hρ hl
    rcases h with h | ⟨b, s, hb, _⟩
    · exact h
    · rw [ha] at hb; cases hb
theorem run_equal_nil {P : Program} {t e : Nat} (ht : P.underlying t = some (.slice e)) (a : Option Addr) (n k : Nat) (w : World) : (Op.equal t (.slice a n k) (.slice none 0 0)).run P w = .ok a.isNone w := by
  show (Op.equalIn (9999 + 1) t (.slice a n k) (.slice none 0 0)).run P w = _
  unfold Op.equalIn
  cases a <;> simp [run_underlying ht]
theorem run_nil {P : Program} {t e : Nat} (ht : P.underlying t = some (.slice e)) (x y : Operand) (a : Option Addr) (n k : Nat) (w : World) :
    (do eqGuard .eql t x y (.slice a n k) (.slice none 0 0); binOp .eql t (.slice a n k) (.slice none 0 0) : Sem Value).run P w = .ok (.bool a.isNone) w ∧
    (do eqGuard .neq t x y (.slice a n k) (.slice none 0 0); binOp .neq t (.slice a n k) (.slice none 0 0) : Sem Value).run P w = .ok (.bool (!a.isNone)) w := by
  constructor <;> simp [eqGuard, binOp, run_equal_nil ht]
theorem nil_sound {R : Type} {P : Program} {T : Tab} (hT : TabOK P T) {ops : Array Oper} {o : Oper} {s : St} {K : St → Option R} {r : R} (hi : isNil o = true) (h : nilK T o s K = some r) {C : Ctx} {Q : Exit → Act → World → Prop} {N : Act → World → Prop}
    (hN : ∀ s' a w, K s' = some r → SR C s' a w → N a w) {a : Act} {w : World} (hs : SR C s a w) :
    if Region.wanted o (yielded ops a.tmps) then o.wp P a w N Q ∨ (o.asks P a w ∧ LetsOut Q) else N (a.put o.dst undef) w := by
  obtain ⟨op, t, x, u, hop⟩ := isNil_op hi
  unfold nilK at h
  cases hg : o.guard with
  | some g => simp [hg] at h
  | none =>
    cases hd : o.dst with
    | none => simp [hg, hd] at h
    | some d =>
      simp only [hg, hd, hop] at h
      rw [if_pos (by simp [Region.wanted, hg])]
      left
      obtain ⟨ρ, F, H, D, B, hf⟩ := hs.ex
      have hx := opd_rel (ρ := ρ) (F := F) (w := w) (fr := s.fr) (a := a) x fun t _ => hf t
      obtain ⟨n1, n2, n3⟩ := nil_or H hx
      -- what the machine answers, and that the evaluator went on from it
      have fin : ∀ (b : Bool), (execOp a.eval o).run P w = .ok (.value (.bool b)) w → putK s (some d) (.bool b) K = some r → o.wp P a w N Q := by
        intro b hr hk
        unfold Oper.wp
        rw [hr]
        obtain ⟨s', hk, hp⟩ := putK_some hk
        show N (a.put o.dst (.bool b)) w
        rw [hd]
        exact hN s' _ w hk (sr_put hs hp fun ρ F => rfl)
      split at h
      · rename_i ti hti
        obtain ⟨dsc, hu, hk, _⟩ := (hT _ _ ‹_›).1.kind
        have hsl : ∃ e, P.underlying t = some (.slice e) := by
          cases dsc <;> simp only [KindOK] at hk <;> first | exact ⟨_, hu⟩ | exact hk.elim
        obtain ⟨e, hu⟩ := hsl
        have run : ∀ a0 n k, a.eval x = .slice a0 n k → (execOp a.eval o).run P w = .ok (.value (.bool a0.isNone)) w := by
          intro a0 n k he
          have h1 : (do eqGuard .eql t x (.const (.slice none 0 0)) (a.eval x) (a.eval (.const (.slice none 0 0))); binOp .eql t (a.eval x) (a.eval (.const (.slice none 0 0))) : Sem Value).run P w = .ok (.bool a0.isNone) w := by
            rw [he]; exact (run_nil hu x (.const (.slice none 0 0)) a0 n k w).1
          simp only [execOp, hop, Sem.run_bind, h1, Result.andThen_ok, Sem.run_pure]
        split at h <;> try (cases h; done)
        · rename_i hv
          exact fin true (run none 0 0 (n1 hv)) h
        · rename_i t' l hv
          obtain ⟨a0, n, k, he, hnil⟩ := n2 _ _ hv
          obtain ⟨e1, e2⟩ := emptyK_some h
          cases a0 with
          | none => exact fin true (run _ _ _ he) (e2 (by rw [hnil rfl]; rfl))
          | some x => exact fin false (run _ _ _ he) e1
        · rename_i id hv
          split at h <;> try (cases h; done)
          rename_i t' l hl
          obtain ⟨a0, n, k, he, hnil⟩ := n3 _ _ _ hv hl
          obtain ⟨e1, e2⟩ := emptyK_some h
          cases a0 with
          | none => exact fin true (run _ _ _ he) (e2 (by rw [hnil rfl]; rfl))
          | some x => exact fin false (run _ _ _ he) e1
      · rename_i ti hti
        obtain ⟨dsc, hu, hk, _⟩ := (hT _ _ ‹_›).1.kind
        have hsl : ∃ e, P.underlying t = some (.slice e) := by
          cases dsc <;> simp only [KindOK] at hk <;> first | exact ⟨_, hu⟩ | exact hk.elim
        obtain ⟨e, hu⟩ := hsl
        have run : ∀ a0 n k, a.eval x = .slice a0 n k → (execOp a.eval o).run P w = .ok (.value (.bool (!a0.isNone))) w := by
          intro a0 n k he
          have h1 : (do eqGuard .neq t x (.const (.slice none 0 0)) (a.eval x) (a.eval (.const (.slice none 0 0))); binOp .neq t (a.eval x) (a.eval (.const (.slice none 0 0))) : Sem Value).run P w = .ok (.bool (!a0.isNone)) w := by
            rw [he]; exact (run_nil hu x (.const (.slice none 0 0)) a0 n k w).2
          simp only [execOp, hop, Sem.run_bind, h1, Result.andThen_ok, Sem.run_pure]
        split at h <;> try (cases h; done)
        · rename_i hv
          exact fin false (run none 0 0 (n1 hv)) h
        · rename_i t' l hv
          obtain ⟨a0, n, k, he, hnil⟩ := n2 _ _ hv
          obtain ⟨e1, e2⟩ := emptyK_some h
          cases a0 with
          | none => exact fin false (run _ _ _ he) (e2 (by rw [hnil rfl]; rfl))
          | some x => exact fin true (run _ _ _ he) e1
        · rename_i id hv
          split at h <;> try (cases h; done)
          rename_i t' l hl
          obtain ⟨a0, n, k, he, hnil⟩ := n3 _ _ _ hv hl
          obtain ⟨e1, e2⟩ := emptyK_some h
          cases a0 with
          | none => exact fin false (run _ _ _ he) (e2 (by rw [hnil rfl]; rfl))
          | some x => exact fin true (run _ _ _ he) e1
      · cases h
/-- Operations in order. -/
theorem seq_sound {R : Type} {P : Program} {E : Env} {T : Tab} (hT : TabOK P T) (hE : EnvOK P E) {ann : Nat → Bool} {ops : Array Oper} {C : Ctx} {Q : Exit → Act → World → Prop} {K : St → Option R} {r : R} (hQ : ∀ s a w, K s = some r → SR C s a w → Q .normal a w) :
    ∀ (os : List Oper) (s : St), evSeq E T ann ops.toList os s K = some r → ∀ a w, SR C s a w → wpList P ops Q os a w
  | [], s, h, a, w, hs => hQ s a w h hs
  | o :: os, s, h, a, w, hs => by
    simp only [evSeq] at h
    unfold wpList
    cases hi : isNil o
    · rw [hi, cond_false] at h
      obtain ⟨S, v, h0, hk, hst⟩ := evOps_trace hT hE h
      refine step_sound (s := s) (s' := S 1) (v := v 0) (by have := hst 0 o rfl; rw [h0] at this; exact this) (fun a w hs' => seq_sound hT hE hQ os (S 1) hk a w hs') hs
    · rw [hi, cond_true] at h
      exact nil_sound hT hi h (fun s' a w hk hs' => seq_sound hT hE hQ os s' hk a w hs') hs
end Ev
