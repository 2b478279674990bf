/- Structs that are equal if their cells are. -/
import Derived.Test.YtnoodoiehlcblaaGen
import Derived.Laws.StructEq
set_option linter.unusedVariables false
set_option linter.unusedSimpArgs false
namespace Ev
open Go
def eqFs (P : Program) (rec : TypeId → Option (List V)) : Nat → List Field → Option (List V)
  | _, [] => some []
  | off, f :: fs => cond (decide (f.name = "_")) none (cond (Nat.beq f.offset off) ((rec f.type).bind fun z => cond (sizeB P f.type z.length) ((eqFs P rec (off + z.length) fs).map fun r => z ++ r) none) none)
/-- The cells of a type whose values are equal if their cells are, as zeros. -/
def eqZ (P : Program) : Nat → TypeId → Option (List V)
  | 0, _ => none
  | n + 1, t => match P.underlying t with
    | some (.int k) => some [.int k 0]
    | some .bool => some [.bool false]
    | some .string => some [.str []]
    | some (.struct fs) => cond (P.stoodInHeld t) none (eqFs P (eqZ P n) 0 fs.toList)
    | _ => none
/-- The value of a type that has these cells. -/
def Made (P : Program) (t : TypeId) (us : List V) (c : Value) : Prop := ∃ ag, IsAgg P t ag ∧ match ag with
  | true => ∃ xs : Array Value, c = .agg xs ∧ xs.toList = us.map sv
  | false => ∃ u, us = [u] ∧ c = sv u
theorem fits_len : ∀ {zs us : List V}, fits zs us = true → us.length = zs.length
  | [], [], _ => rfl
  | [], _ :: _, h => by simp [fits] at h
  | z :: zs, [], h => by cases z <;> simp [fits] at h
  | z :: zs, u :: us, h => by
    have : fits zs us = true := by
      cases z <;> cases u <;> simp only [fits, Bool.and_eq_true] at h <;> first | exact h.2 | exact h | cases h
    simp [fits_len this]
theorem fits_app : ∀ {z r us : List V}, fits (z ++ r) us = true → ∃ u1 u2, us = u1 ++ u2 ∧ fits z u1 = true ∧ fits r u2 = true
  | [], r, us, h => ⟨[], us, rfl, rfl, h⟩
  | x :: z, r, [], h => by cases x <;> simp [fits] at h
  | x :: z, r, u :: us, h => by
    have : fits (z ++ r) us = true := by
      cases x <;> cases u <;> simp only [List.cons_append, fits, Bool.and_eq_true] at h <;> first | exact h.2 | exact h | cases h
    obtain ⟨u1, u2, rfl, h1, h2⟩ := fits_app this
    refine ⟨u :: u1, u2, rfl, ?_, h2⟩
    cases x <;> cases u <;> simp only [List.cons_append, fits, Bool.and_eq_true] at h ⊢ <;> first | exact ⟨h.1, h1⟩ | exact h1 | cases h
theorem fits_trans : ∀ {a b c : List V}, fits a b = true → fits b c = true → fits a c = true
  | [], [], c, _, h => h
  | [], _ :: _, _, h, _ => by simp [fits] at h
  | x :: a, [], _, h, _ => by cases x <;> simp [fits] at h
  | x :: a, y :: b, [], _, h => by cases y <;> simp [fits] at h
  | x :: a, y :: b, z :: c, h, k => by
    cases x <;> cases y <;> simp only [fits, Bool.and_eq_true, decide_eq_true_eq] at h <;> try (cases h; done)
    all_goals
      cases z <;> simp only [fits, Bool.and_eq_true, decide_eq_true_eq] at k ⊢ <;> try (cases k; done)
    · exact ⟨h.1.trans k.1, fits_trans h.2 k.2⟩
    · exact fits_trans h k
    · exact fits_trans h k
theorem eqV_app : ∀ {u1 v1 u2 v2 : List V} {b : Bool}, u1.length = v1.length → eqV (u1 ++ u2) (v1 ++ v2) = some b → ∃ b1 b2, eqV u1 v1 = some b1 ∧ eqV u2 v2 = some b2 ∧ b = (b1 && b2)
  | [], [], u2, v2, b, _, h => ⟨true, b, rfl, h, by simp⟩
  | [], _ :: _, _, _, _, h, _ => by simp at h
  | _ :: _, [], _, _, _, h, _ => by simp at h
  | x :: u1, y :: v1, u2, v2, b, hl, h => by
    cases x <;> cases y <;> simp only [List.cons_append, eqV] at h ⊢ <;> try (cases h; done)
    · rename_i k a k' a'
      cases hk : decide (k = k') <;> simp only [hk, cond_true, cond_false] at h ⊢
      · cases h
      · simp only [Option.bind_eq_some_iff] at h
        obtain ⟨t, ht, h⟩ := h
        obtain ⟨b1, b2, h1, h2, rfl⟩ := eqV_app (by simpa using hl) ht
        cases h
        exact ⟨_, b2, by rw [h1]; rfl, h2, by rw [Bool.and_assoc]⟩
    all_goals
      simp only [Option.bind_eq_some_iff] at h
      obtain ⟨t, ht, h⟩ := h
      obtain ⟨b1, b2, h1, h2, rfl⟩ := eqV_app (by simpa using hl) ht
      cases h
      exact ⟨_, b2, by rw [h1]; rfl, h2, by rw [Bool.and_assoc]⟩
section
variable {P : Program}
theorem eqZ_one {n : Nat} {t : TypeId} {z : List V} (h : eqZ P n t = some z) : ∃ ag, IsAgg P t ag ∧ (ag = false → z.length = 1) := by
  cases n with
  | zero => simp [eqZ] at h
  | succ n =>
    unfold eqZ at h
    split at h <;> try (cases h; done)
    · rename_i k hu; cases h; exact ⟨false, ⟨_, hu, rfl⟩, fun _ => rfl⟩
    · rename_i hu; cases h; exact ⟨false, ⟨_, hu, rfl⟩, fun _ => rfl⟩
    · rename_i hu; cases h; exact ⟨false, ⟨_, hu, rfl⟩, fun _ => rfl⟩
    · rename_i fs hu; exact ⟨true, ⟨_, hu, rfl⟩, fun h => by cases h⟩
theorem made_part {t : TypeId} {z : List V} {n : Nat} (hz : eqZ P n t = some z) (hs : SizeOf P t z.length) {xs : Array Value} {off : Nat} {u1 u2 : List V} (hx : xs.toList.drop off = (u1 ++ u2).map sv) (hl : u1.length = z.length) (w : World) :
    ∃ c, (part t xs off).run P w = .ok c w ∧ Made P t u1 c := by
  obtain ⟨ag, ha, h1⟩ := eqZ_one hz
  cases ag with
  | true =>
    refine ⟨.agg (xs.extract off (off + z.length)), by simp only [part, Sem.run_bind, run_isAgg ha, Result.andThen_ok, if_true, run_sizeOf hs, Sem.run_pure], true, ha, _, rfl, ?_⟩
    rw [Array.toList_extract]
    simp only [List.extract_eq_take_drop, hx]
    rw [← hl]
    simp
  | false =>
    have := h1 rfl
    rw [this] at hl
    obtain ⟨u, rfl⟩ := List.length_eq_one_iff.mp hl
    have hc : xs[off]? = some (sv u) := by
      have := congrArg (fun l => l[0]?) hx
      simpa using this
    exact ⟨sv u, by simp [part, Sem.run_bind, run_isAgg ha, hc], false, ha, u, rfl, rfl⟩
theorem eqFs_sound {n d : Nat} (ih : ∀ (t : TypeId) (z : List V), eqZ P n t = some z → ∀ (c c' : Value) (us vs : List V) (b : Bool) (w : World), Made P t us c → Made P t vs c' → fits z us = true → fits z vs = true → eqV us vs = some b → (Op.equalIn d t c c').run P w = .ok b w)
    {xs ys : Array Value} (w : World) : ∀ (fs : List Field) (off : Nat) (z us vs : List V) (b : Bool), eqFs P (eqZ P n) off fs = some z → xs.toList.drop off = us.map sv → ys.toList.drop off = vs.map sv → fits z us = true → fits z vs = true → eqV us vs = some b →
      (Op.eqFields d xs ys fs).run P w = .ok b w
  | [], off, z, us, vs, b, h, hx, hy, f1, f2, he => by
    simp [eqFs] at h; subst h
    cases us <;> cases vs <;> simp [fits] at f1 f2
    simp [eqV] at he; subst he
    simp [Op.eqFields]
  | f :: fs, off, z, us, vs, b, h, hx, hy, f1, f2, he => by
    simp only [eqFs] at h
    cases hn : decide (f.name = "_") <;> simp only [hn, cond_true, cond_false] at h
    rotate_left
    · cases h
    cases ho : Nat.beq f.offset off <;> simp only [ho, cond_true, cond_false] at h
    · cases h
    simp only [Option.bind_eq_some_iff] at h
    obtain ⟨z1, hz1, h⟩ := h
    cases hs : sizeB P f.type z1.length <;> simp only [hs, cond_true, cond_false] at h
    · cases h
    simp only [Option.map_eq_some_iff] at h
    obtain ⟨z2, hz2, rfl⟩ := h
    obtain ⟨u1, u2, rfl, g1, g2⟩ := fits_app f1
    obtain ⟨v1, v2, rfl, k1, k2⟩ := fits_app f2
    have l1 := fits_len g1
    have l2 := fits_len k1
    obtain ⟨b1, b2, e1, e2, rfl⟩ := eqV_app (by omega) he
    have hoff := Nat.eq_of_beq_eq_true ho
    obtain ⟨c, hc, mc⟩ := made_part hz1 (sizeB_ok hs) hx l1 w
    obtain ⟨c', hc', mc'⟩ := made_part hz1 (sizeB_ok hs) hy l2 w
    have main := ih f.type z1 hz1 c c' u1 v1 b1 w mc mc' g1 k1 e1
    have rest := eqFs_sound ih w fs (off + z1.length) z2 u2 v2 b2 hz2 (by rw [← List.drop_drop, hx, ← l1]; simp) (by rw [← List.drop_drop, hy, ← l2]; simp) g2 k2 e2
    have hne : f.name ≠ "_" := of_decide_eq_false hn
    simp only [Op.eqFields, hne, ne_eq, not_false_eq_true, if_true, Sem.run_bind, hoff, hc, hc', Result.andThen_ok, main]
    cases b1 with
    | true => simpa using rest
    | false => simp
theorem eqZ_sound : ∀ (n : Nat) (t : TypeId) (z : List V), eqZ P n t = some z → ∀ (d : Nat), n ≤ d → ∀ (c c' : Value) (us vs : List V) (b : Bool) (w : World), Made P t us c → Made P t vs c' → fits z us = true → fits z vs = true → eqV us vs = some b → (Op.equalIn d t c c').run P w = .ok b w
  | 0, t, z, h, _, _, _, _, _, _, _, _, _, _, _, _, _ => by simp [eqZ] at h
  | n + 1, t, z, h, d, hd, c, c', us, vs, b, w, m1, m2, f1, f2, he => by
    obtain ⟨d, rfl⟩ : ∃ k, d = k + 1 := ⟨d - 1, by omega⟩
    have one : ∀ {desc : TypeDesc} {us : List V} {c : Value}, P.underlying t = some desc → aggD desc = false → Made P t us c → ∃ u, us = [u] ∧ c = sv u := by
      intro desc us c hu ha ⟨ag, ⟨d', hu', e⟩, m⟩
      rw [hu] at hu'; cases hu'
      rw [ha] at e; subst e; exact m
    have agg : ∀ {desc : TypeDesc} {us : List V} {c : Value}, P.underlying t = some desc → aggD desc = true → Made P t us c → ∃ xs : Array Value, c = .agg xs ∧ xs.toList = us.map sv := by
      intro desc us c hu ha ⟨ag, ⟨d', hu', e⟩, m⟩
      rw [hu] at hu'; cases hu'
      rw [ha] at e; subst e; exact m
    unfold eqZ at h
    split at h <;> try (cases h; done)
    · rename_i k hu
      cases h
      obtain ⟨u, rfl, rfl⟩ := one hu rfl m1
      obtain ⟨v, rfl, rfl⟩ := one hu rfl m2
      cases u <;> simp [fits] at f1
      cases v <;> simp [fits] at f2
      subst f1; subst f2
      simp [eqV] at he; subst he
      simp only [sv]
      rw [run_equalIn_int (k' := k) (h := hu)]
      rfl
    · rename_i hu
      cases h
      obtain ⟨u, rfl, rfl⟩ := one hu rfl m1
      obtain ⟨v, rfl, rfl⟩ := one hu rfl m2
      cases u <;> simp [fits] at f1
      cases v <;> simp [fits] at f2
      simp [eqV] at he; subst he
      simp only [sv]
      rw [run_equalIn_bool' (h := hu)]
      rename_i x y; cases x <;> cases y <;> rfl
    · rename_i hu
      cases h
      obtain ⟨u, rfl, rfl⟩ := one hu rfl m1
      obtain ⟨v, rfl, rfl⟩ := one hu rfl m2
      cases u <;> simp [fits] at f1
      cases v <;> simp [fits] at f2
      simp [eqV] at he; subst he
      simp only [sv]
      rw [run_equalIn_string (h := hu), ByteArray.toList_eq, ByteArray.toList_eq]
      rename_i x y
      by_cases hxy : x = y <;> simp [hxy]
    · rename_i fs hu
      cases hp : P.stoodInHeld t <;> simp only [hp, cond_true, cond_false] at h
      rotate_left
      · cases h
      obtain ⟨xs, rfl, hx⟩ := agg hu rfl m1
      obtain ⟨ys, rfl, hy⟩ := agg hu rfl m2
      have hf : P.fieldsOf t = fs := by simp [Program.fieldsOf, hu]
      rw [run_equalIn_struct w d t xs ys (by rw [hf]; exact hu) hp, hf]
      exact eqFs_sound (fun t z hz c c' us vs b w => eqZ_sound n t z hz d (by omega) c c' us vs b w) w fs.toList 0 z us vs b h (by simpa using hx) (by simpa using hy) f1 f2 he
theorem flat_ok {t : TypeId} {z zs : List V} (h : eqZ P 8 t = some z) (hz : fits z zs = true) (ha : IsAgg P t true) (hg : P.eqGuardType P.depth t = false) : FlatOK P t zs := by
  intro xs ys us vs b w hx hy f1 f2 he
  exact ⟨eqZ_sound 8 t z h Op.maxDepth (by simp [Op.maxDepth]) _ _ us vs b w ⟨true, ha, xs, rfl, hx⟩ ⟨true, ha, ys, rfl, hy⟩ (fits_trans hz f1) (fits_trans hz f2) he, fun op x y => run_eqGuard_agg w op t x y xs ys hg⟩
def flatB (P : Program) (t : TypeId) (zs : List V) : Bool := match eqZ P 8 t with
  | some z => fits z zs && aggB P t true && !P.eqGuardType P.depth t
  | none => false
def flatsB (P : Program) : Tab → Bool
  | [] => true
  | (t, ti) :: r => cond ti.flat (flatB P t ti.zero) true && flatsB P r
theorem flatsB_at : ∀ {T : Tab}, flatsB P T = true → ∀ t ti, T.get t = some ti → ti.flat = true → FlatOK P t ti.zero
  | [], _, t, ti, h, _ => by simp [Tab.get] at h
  | (i, x) :: r, hb, t, ti, h, hf => by
    simp only [flatsB, Bool.and_eq_true] at hb
    simp only [Tab.get] at h
    cases he : Nat.beq i t <;> simp [he] at h
    · exact flatsB_at hb.2 t ti h hf
    · subst h
      have := Nat.eq_of_beq_eq_true he
      subst this
      have h1 := hb.1
      rw [hf, cond_true] at h1
      unfold flatB at h1
      split at h1
      · rename_i z hz
        simp only [Bool.and_eq_true, Bool.not_eq_true'] at h1
        exact flat_ok hz h1.1.1 (aggB_ok h1.1.2) h1.2
      · cases h1
theorem tab_of2 {T : Tab} (h : tabB P T = true) (k : flatsB P T = true) : TabOK P T := fun t ti ht => ⟨tabB_ok h t ti ht, flatsB_at k t ti ht⟩
end
end Ev
