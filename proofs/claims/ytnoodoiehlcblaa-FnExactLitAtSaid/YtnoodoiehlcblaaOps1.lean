/- Operations that yield a value and leave all as it was: what the evaluator says they yield is what they yield. -/
import Derived.Test.YtnoodoiehlcblaaTab
import Derived.Laws.Cells
import Derived.Laws.Slices
import Derived.Laws.Unary
import Derived.Laws.Strings
set_option linter.unusedVariables false
set_option linter.unusedSimpArgs false
namespace Ev
open Go

theorem post_same {calm : Prop} {dst : Nat} {ρ : Rho} {F : Nat → Prop} {s : St} {w : World} {v : V} {c : Value} (H : Core ρ F s.st w) (r : RelT ρ F w v c) :
    Post calm dst ρ F s w v s ρ F w c where
  core := H
  stp := ⟨Chg.refl _ _, fun _ h => .inl h, fun _ h => .inl h⟩
  val := r
  fr _ _ h := h
  len := rfl
  dom h := h
  low _ _ h := h
  par _ _ _ h _ := h
  calm _ := ⟨rfl, fun _ _ h => h, fun _ _ h => .inl h, fun _ _ h => h, fun _ _ h => .inl h, fun _ _ => rfl, fun _ h => h⟩
theorem opok_val {P : Program} {calm : Prop} {o : Oper} {s : St} {v : V}
    (h : ∀ (ρ : Rho) (F : Nat → Prop) (a : Act) (w : World), Core ρ F s.st w → (∀ t, Reads o t → RelT ρ F w (get s.fr t) (a.tmps.getD t undef)) → ∃ c, (execOp a.eval o).run P w = .ok (.value c) w ∧ RelT ρ F w v c) : OpOK P calm o s v s := by
  intro ρ F a w H _ _ hr N Q hN
  obtain ⟨c, hc, r⟩ := h ρ F a w H hr
  unfold Oper.wp
  rw [hc]
  exact hN c w ρ F (post_same H r)

theorem ba_eta (s : ByteArray) : (⟨⟨s.data.toList⟩⟩ : ByteArray) = s := rfl
theorem relC_const {ρ : Rho} {F : Nat → Prop} {w : World} (c : Value) : RelC ρ F w (match c with
    | .int k n => .int k n
    | .bool b => .bool b
    | .string s => .str s.data.toList
    | .slice none 0 0 => .nils
    | _ => .undef) c := by
  split <;> first | rfl | trivial
theorem relT_const {ρ : Rho} {F : Nat → Prop} {w : World} (c : Value) : RelT ρ F w (ofConst c) c := by
  unfold ofConst
  split <;> try first | rfl | trivial
  rename_i cs
  refine ⟨cs, rfl, by simp, fun i v hv => ?_⟩
  rw [List.getElem?_map, Array.getElem?_toList] at hv
  cases hc : cs[i]? with
  | none => simp [hc] at hv
  | some x =>
    simp [hc] at hv
    subst hv
    exact ⟨x, rfl, relC_const x⟩
theorem opd_rel {ρ : Rho} {F : Nat → Prop} {w : World} {fr : List V} {a : Act} (x : Operand) (h : ∀ t, x = .tmp t → RelT ρ F w (get fr t) (a.tmps.getD t undef)) :
    RelT ρ F w (opd fr x) (a.eval x) := by
  cases x with
  | tmp t => exact h t rfl
  | const v => exact relT_const v
  | global g => trivial
  | func f => exact ⟨#[], rfl, rfl, fun i v hv => by simp at hv⟩
theorem opds_map {R : Type} {fr : List V} : ∀ {xs : List Operand} {K : List V → Option R}, opds fr xs K = K (xs.map (opd fr))
  | [], K => rfl
  | x :: xs, K => by simp only [opds, opds_map, List.map_cons]

/-! ### Arithmetic and comparisons -/
theorem intK_sound {R : Type} {P : Program} {op : BinOp} {k : IntKind} {a b : Int} {K : V → Option R} {r : R} (h : intK op k a b K = some r) :
    ∃ v, K v = some r ∧ v.plain = true ∧ ∀ w, (match op with
      | .add | .sub | .mul => Op.intArith op k a b
      | .quo | .rem => Op.intDiv op k a b
      | .and | .or | .xor | .andNot => Op.intBits op k a b
      | _ => Op.intCmp op a b).run P w = .ok (sv v) w ∧ op ≠ .shl ∧ op ≠ .shr := by
  cases op <;> simp only [intK] at h <;> try (cases h; done)
  case quo | rem =>
    by_cases h0 : b = 0
    · simp [h0] at h
    · simp only [h0, decide_false, cond_false] at h
      exact ⟨_, h, rfl, fun w => ⟨by simp [Op.intDiv, h0, sv], by simp, by simp⟩⟩
  all_goals exact ⟨_, h, rfl, fun w => ⟨by first | rfl | (simp only [Op.intCmp, sv, bitsOp, Op.intBits]; first | rfl | (congr 2; first | rfl | exact Bool.beq_eq_decide_eq _ _ | (simp only [bne]; congr 1; exact Bool.beq_eq_decide_eq _ _))), by simp, by simp⟩⟩

theorem relT_plain {ρ : Rho} {F : Nat → Prop} {w : World} {v : V} (h : v.plain = true) : RelT ρ F w v (sv v) := by
  rcases plain_not h with ⟨k, n, rfl⟩ | ⟨b, rfl⟩ | ⟨s, rfl⟩ <;> rfl
theorem eqK_eq {R : Type} (xs ys : List V) (K : Bool → Option R) : eqK xs ys K = (eqV xs ys).bind K := by
  fun_induction eqV xs ys generalizing K <;> simp_all [eqK, Option.bind_assoc]
theorem eqV_plain : ∀ {xs ys : List V} {b : Bool}, eqV xs ys = some b → (∀ v ∈ xs, v.plain = true) ∧ (∀ v ∈ ys, v.plain = true)
  | [], [], _, _ => by simp
  | x :: xs, y :: ys, b, h => by
    have : x.plain = true ∧ y.plain = true ∧ ∃ b', eqV xs ys = some b' := by
      cases x <;> cases y <;> simp only [eqV] at h <;> try (cases h; done)
      · rename_i k a k' b'
        cases hk : decide (k = k') <;> rw [hk] at h
        · cases h
        · simp only [cond_true, Option.bind_eq_some_iff] at h
          obtain ⟨t, ht, _⟩ := h
          exact ⟨rfl, rfl, t, ht⟩
      all_goals
        simp only [Option.bind_eq_some_iff] at h
        obtain ⟨t, ht, _⟩ := h
        exact ⟨rfl, rfl, t, ht⟩
    obtain ⟨h1, h2, b', h3⟩ := this
    have ih := eqV_plain h3
    exact ⟨fun v hv => by rcases List.mem_cons.mp hv with rfl | hv; exact h1; exact ih.1 v hv, fun v hv => by rcases List.mem_cons.mp hv with rfl | hv; exact h2; exact ih.2 v hv⟩
  | [], y :: ys, _, h => by cases y <;> simp [eqV] at h
  | x :: xs, [], _, h => by cases x <;> simp [eqV] at h
/-- The cells of a struct of plain cells. -/
theorem agg_plain {ρ : Rho} {F : Nat → Prop} {w : World} {cs : List V} {c : Value} (h : RelT ρ F w (.agg cs) c) (hp : ∀ v ∈ cs, v.plain = true) :
    ∃ ca : Array Value, c = .agg ca ∧ ca.toList = cs.map sv := by
  obtain ⟨ca, e, hs, h⟩ := h
  refine ⟨ca, e, List.ext_getElem? fun i => ?_⟩
  rw [List.getElem?_map, Array.getElem?_toList]
  cases hc : cs[i]? with
  | none =>
    have : cs.length ≤ i := by simpa using hc
    simp; omega
  | some v =>
    obtain ⟨c, hc', r⟩ := h i v hc
    have hv := hp v (List.mem_of_getElem? hc)
    have r' : RelB ρ F w v c := by rcases plain_not hv with ⟨k, n, rfl⟩ | ⟨b, rfl⟩ | ⟨s, rfl⟩ <;> exact r
    rw [hc', (RelB.plain hv).mp r']; rfl
theorem run_equal_bool {P : Program} {t : Nat} (hd : P.underlying t = some .bool) (a b : Bool) (w : World) : (Op.equal t (.bool a) (.bool b)).run P w = .ok (a == b) w := by
  show (Op.equalIn (9999 + 1) t (.bool a) (.bool b)).run P w = _
  unfold Op.equalIn
  simp [run_underlying hd]
theorem binK_sound {R : Type} {P : Program} {T : Tab} (hT : TabOK P T) {op : BinOp} {t : Nat} {x y : V} {K : V → Option R} {r : R} (h : binK T op t x y K = some r) :
    ∃ v, K v = some r ∧ ∀ ρ F w cx cy (ox oy : Operand), RelT ρ F w x cx → RelT ρ F w y cy →
      ∃ c, (do eqGuard op t ox oy cx cy; binOp op t cx cy : Sem Value).run P w = .ok c w ∧ RelT ρ F w v c := by
  unfold binK at h
  split at h
  · rename_i k a k' b
    have sh : ∀ op', (op = op') → (op' = .shl ∨ op' = .shr) → ∀ v : V, v.plain = true → (K v = some r) → (∀ w, (Op.shift op k a k' b).run P w = .ok (sv v) w) → _ := fun op' e ho v hp hk hrun =>
      (⟨v, hk, fun ρ F w cx cy ox oy (e1 : cx = _) (e2 : cy = _) => ⟨sv v, by
        subst e1; subst e2; rw [e] at hrun ⊢
        rcases ho with rfl | rfl <;> simp [eqGuard, binOp, hrun], relT_plain hp⟩⟩ :
      ∃ v, K v = some r ∧ ∀ ρ F w cx cy (ox oy : Operand), RelT ρ F w (.int k a) cx → RelT ρ F w (.int k' b) cy →
      ∃ c, (do eqGuard op t ox oy cx cy; binOp op t cx cy : Sem Value).run P w = .ok c w ∧ RelT ρ F w v c)
    split at h
    · by_cases hb : b < 0
      · simp [hb] at h
      · simp only [hb, decide_false, cond_false] at h
        exact sh _ rfl (.inl rfl) _ rfl h fun w => by simp [Op.shift, hb, sv, shlOp]
    · by_cases hb : b < 0
      · simp [hb] at h
      · simp only [hb, decide_false, cond_false] at h
        exact sh _ rfl (.inr rfl) _ rfl h fun w => by simp [Op.shift, hb, sv, shrOp]
    · rename_i op' hn1 hn2
      by_cases hk : k = k'
      · simp only [hk, decide_true, cond_true] at h
        subst hk
        obtain ⟨v, hv, hp, hrun⟩ := intK_sound (P := P) h
        refine ⟨v, hv, fun ρ F w cx cy ox oy (e1 : cx = _) (e2 : cy = _) => ⟨sv v, ?_, relT_plain hp⟩⟩
        subst e1; subst e2
        have := (hrun w).1
        cases op <;> first | exact absurd rfl hn1 | exact absurd rfl hn2 | (simp [eqGuard, binOp] at this ⊢; exact this)
      · simp [hk] at h
  · rename_i a b
    have go : ∀ v : V, v.plain = true → K v = some r → (∀ w, (Op.stringOp op ⟨⟨a⟩⟩ ⟨⟨b⟩⟩).run P w = .ok (sv v) w) → op ≠ .shl → op ≠ .shr → _ := fun v hp hk hrun h1 h2 =>
      (⟨v, hk, fun ρ F w cx cy ox oy (e1 : cx = _) (e2 : cy = _) => ⟨sv v, by
        subst e1; subst e2
        have := hrun w
        cases op <;> first | exact absurd rfl h1 | exact absurd rfl h2 | (simp [eqGuard, binOp] at this ⊢; exact this), relT_plain hp⟩⟩ :
      ∃ v, K v = some r ∧ ∀ ρ F w cx cy (ox oy : Operand), RelT ρ F w (.str a) cx → RelT ρ F w (.str b) cy →
      ∃ c, (do eqGuard op t ox oy cx cy; binOp op t cx cy : Sem Value).run P w = .ok c w ∧ RelT ρ F w v c)
    have ta : (⟨⟨a⟩⟩ : ByteArray).toList = a := by simp [Go.ByteArray.toList_eq]
    have tb : (⟨⟨b⟩⟩ : ByteArray).toList = b := by simp [Go.ByteArray.toList_eq]
    have eqd : (a == b) = decide (a = b) := Bool.beq_eq_decide_eq _ _
    split at h <;> try (cases h; done)
    · unfold capK at h
      split at h
      · rename_i hl
        refine go _ rfl h (fun w => ?_) (by simp) (by simp)
        have : ¬ ((((⟨⟨a⟩⟩ : ByteArray).size + (⟨⟨b⟩⟩ : ByteArray).size : Nat) : Int) > IntKind.i64.max) := by
          have e1 : (⟨⟨a⟩⟩ : ByteArray).size = a.length := rfl
          have e2 : (⟨⟨b⟩⟩ : ByteArray).size = b.length := rfl
          rw [e1, e2]
          have : IntKind.i64.max = 9223372036854775807 := rfl
          unfold lim at hl; omega
        simp only [Op.stringOp, if_neg this]
        show Result.ok _ w = _
        congr 1
      · cases h
    all_goals exact go _ rfl h (fun w => by simp only [Op.stringOp, ta, tb, eqd]; rfl) (by simp) (by simp)
  · rename_i a b
    split at h <;> try (cases h; done)
    rename_i ti hti
    obtain ⟨⟨d, hd, hk, _⟩, _⟩ := (hT _ _ hti).1.kind, (hT _ _ hti).2
    have hd' : P.underlying t = some .bool := by
      cases d <;> first | exact hd | exact hk.elim
    split at h <;> try (cases h; done)
    all_goals
      refine ⟨_, h, fun ρ F w cx cy ox oy (e1 : cx = _) (e2 : cy = _) => ⟨_, ?_, rfl⟩⟩
      subst e1; subst e2
      simp [eqGuard, binOp, run_equal_bool hd']
      cases a <;> cases b <;> rfl
  · rename_i xs ys
    split at h <;> try (cases h; done)
    rename_i ti hti
    cases hf : (ti.flat && (fits ti.zero xs && fits ti.zero ys)) <;> simp only [hf, cond_true, cond_false] at h
    · cases h
    rw [Bool.and_eq_true, Bool.and_eq_true] at hf
    have hfl := (hT _ _ hti).2 hf.1
    split at h <;> try (cases h; done)
    all_goals
      rw [eqK_eq, Option.bind_eq_some_iff] at h
      obtain ⟨b, hb, h⟩ := h
      obtain ⟨hp1, hp2⟩ := eqV_plain hb
      refine ⟨_, h, fun ρ F w cx cy ox oy r1 r2 => ⟨_, ?_, rfl⟩⟩
      obtain ⟨ca, rfl, e1⟩ := agg_plain r1 hp1
      obtain ⟨cb, rfl, e2⟩ := agg_plain r2 hp2
      have := hfl ca cb xs ys b w e1 e2 hf.2.1 hf.2.2 hb
      simp [this.2, binOp, this.1]
  · cases h
end Ev
