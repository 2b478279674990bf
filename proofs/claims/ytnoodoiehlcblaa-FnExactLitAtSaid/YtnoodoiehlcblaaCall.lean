/- Calls of the program's functions, by what each is taken for. -/
import Derived.Test.YtnoodoiehlcblaaOps12
set_option linter.unusedVariables false
set_option linter.unusedSimpArgs false
namespace Ev
open Go

/-- What it is for a function to be what it is taken for. -/
def Ends (P : Program) (f : Nat) (av : List V) (bs : List Blk) (res : V) (out : List Blk) : Prop :=
  ∀ (w : World) (F0 : Nat → Prop) (ρ0 : Rho) (ca : Array Value), Core ρ0 F0 (enterSt 0 bs) w → (∀ id l, ρ0 id = some l → id < bs.length) → ca.size = av.length →
    (∀ (i : Nat) v, av[i]? = some v → ∃ c, ca[i]? = some c ∧ RelA ρ0 F0 w v c) →
    Calls P f ca w fun en w' => ∃ c ρ1 F1, en = .returned c ∧ Core ρ1 F1 (enterSt 0 out) w' ∧ (∀ id l, ρ0 id = some l → ρ1 id = some l) ∧ (∀ id l, ρ1 id = some l → id < out.length) ∧
      RelT ρ1 F1 w' res c ∧ Chg ρ0.M w w' ∧ (∀ b, ρ1.M b → ρ0.M b ∨ w.heap.size ≤ b) ∧ (∀ b, F1 b → F0 b ∨ w.heap.size ≤ b)
def EntOK (P : Program) (f : Nat) (e : Entry) : Prop :=
  ∀ (R : Type) (av : List V) (bs : List Blk) (K : V → List Blk → Option R) (r : R), e.sem R av bs K = some r → ∃ res out, K res out = some r ∧ Ends P f av bs res out
structure EnvOK (P : Program) (E : Env) : Prop where
  ent : ∀ f e, E f = some e → EntOK P f e
  fn : ∀ f e, E f = some e → ∃ fn, P.funcs[f]? = some fn ∧ fn.body.isNone = false ∧ fn.name ≠ "runtime.NumGoroutine"

/-! ### What is handed in -/
/-- 'ρ0', 'F0' are what the callee is told of 'ρ', 'F': the ids 'ids' under new numbers, and the blocks of 'frz' as stable ones. -/
structure Told (ρ : Rho) (F : Nat → Prop) (ids frz : List Nat) (ρ0 : Rho) (F0 : Nat → Prop) : Prop where
  ids : ∀ j id, ids[j]? = some id → ρ0 j = ρ id
  stab : ∀ b, F b → F0 b
  frz : ∀ id ∈ frz, ∀ loc b, ρ id = some loc → loc.block = some b → F0 b
theorem capC_sound {R : Type} {st : Store} : ∀ {cap : List V} {frz : List Nat} {K : List V → List Nat → Option R} {r : R}, capC st frz cap K = some r →
    ∃ cap' frz', K cap' frz' = some r ∧ (∀ id ∈ frz, id ∈ frz') ∧ cap'.length = cap.length ∧ ∀ ρ F w ids ρ0 F0, Core ρ F st w → Told ρ F ids frz' ρ0 F0 → ∀ (i : Nat) v c, cap[i]? = some v → RelB ρ F w v c → ∃ v', cap'[i]? = some v' ∧ RelB ρ0 F0 w v' c
  | [], frz, K, r, h => ⟨[], frz, h, fun _ h => h, rfl, fun ρ F w ids ρ0 F0 _ _ i v c h => by simp at h⟩
  | x :: cap, frz, K, r, h => by
    by_cases hx : ∃ id off, x = .lptr id off
    · obtain ⟨id, off, rfl⟩ := hx
      simp only [capC] at h
      split at h <;> try (cases h; done)
      rename_i cs hl
      obtain ⟨hle, h⟩ := dropK_some h
      cases hp : allB V.plain (cs.drop off) <;> simp only [hp, cond_true, cond_false] at h
      · cases h
      obtain ⟨cap', frz', hk, h1, h2, h3⟩ := capC_sound h
      refine ⟨_, _, hk, fun i hi => h1 i (by simp [hi]), by simp [h2], fun ρ F w ids ρ0 F0 H T i v c hv r => ?_⟩
      cases i with
      | succ i => simpa using h3 ρ F w ids ρ0 F0 H T i v c (by simpa using hv) r
      | zero =>
        simp at hv; subst hv
        obtain ⟨b, n, hρ, e⟩ := r
        refine ⟨_, rfl, b, off, e, T.frz id (h1 id (by simp)) _ b hρ rfl, hp, fun j u hu => ?_⟩
        have hc := (box_cells H hρ hl).drop (n := off)
        rw [List.getElem?_map] at hu
        cases hj : (cs.drop off)[j]? with
        | none => simp [hj] at hu
        | some y =>
          simp [hj] at hu; subst hu
          obtain ⟨c', h5, r5⟩ := hc j y hj
          have hy := allB_get hp y (List.mem_of_getElem? hj)
          have r' : RelB ρ F w y c' := by rcases plain_not hy with ⟨k, n, rfl⟩ | ⟨b, rfl⟩ | ⟨s, rfl⟩ <;> exact r5
          rw [(RelB.plain hy).mp r', Nat.zero_add] at h5
          exact h5
    · have h' : cond x.plain (capC st frz cap fun ys f => K (x :: ys) f) none = some r := by
        cases x <;> first | exact h | exact absurd ⟨_, _, rfl⟩ hx
      cases hp : x.plain <;> simp only [hp, cond_true, cond_false] at h'
      · cases h'
      obtain ⟨cap', frz', hk, h1, h2, h3⟩ := capC_sound h'
      refine ⟨_, _, hk, h1, by simp [h2], fun ρ F w ids ρ0 F0 H T i v c hv r => ?_⟩
      cases i with
      | succ i => simpa using h3 ρ F w ids ρ0 F0 H T i v c (by simpa using hv) r
      | zero => simp at hv; subst hv; exact ⟨_, rfl, (RelB.plain hp).mpr ((RelB.plain hp).mp r)⟩
/-- How the lists of ids grow. -/
structure Grow (ids frz ids' frz' : List Nat) : Prop where
  pre : ∃ l, ids' = ids ++ l
  sub : ∀ id ∈ frz, id ∈ frz'
theorem Grow.refl (ids frz : List Nat) : Grow ids frz ids frz := ⟨⟨[], by simp⟩, fun _ h => h⟩
theorem Grow.trans {a b c d e f : List Nat} (h : Grow a b c d) (k : Grow c d e f) : Grow a b e f := by
  obtain ⟨⟨l, rfl⟩, h2⟩ := h
  obtain ⟨⟨m, rfl⟩, k2⟩ := k
  exact ⟨⟨l ++ m, by simp⟩, fun id hid => k2 id (h2 id hid)⟩
theorem Told.mono {ρ : Rho} {F : Nat → Prop} {ids frz ids' frz' : List Nat} {ρ0 : Rho} {F0 : Nat → Prop} (g : Grow ids frz ids' frz') (T : Told ρ F ids' frz' ρ0 F0) : Told ρ F ids frz ρ0 F0 := by
  obtain ⟨⟨l, rfl⟩, h2⟩ := g
  refine ⟨fun j id hj => T.ids j id ?_, T.stab, fun id hid => T.frz id (h2 id hid)⟩
  rw [List.getElem?_append_left (List.getElem?_eq_some_iff.mp hj).1]; exact hj
/-- The ids that are handed over are of the kind that the store has. -/
def HasIds (st : Store) (ids : List Nat) : Prop := ∀ id ∈ ids, ∃ b, look st id = some b ∧ ∀ cs, b = .box cs → allB V.idfree cs = true
theorem argC_sound {R : Type} {st : Store} {ids frz : List Nat} {lf : Lf} {v : V} {K : V → List Nat → List Nat → Option R} {r : R} (h : argC st ids frz lf v K = some r) :
    ∃ v' ids' frz', K v' ids' frz' = some r ∧ Grow ids frz ids' frz' ∧ (HasIds st ids → HasIds st ids') ∧
      ∀ ρ F w ρ0 F0 c, Core ρ F st w → Told ρ F ids' frz' ρ0 F0 → RelC ρ F w v c → RelC ρ0 F0 w v' c := by
  cases lf with
  | c =>
    simp only [argC] at h
    cases v <;> simp only at h <;> try (cases h; done)
    all_goals exact ⟨_, _, _, h, Grow.refl _ _, id, fun ρ F w ρ0 F0 c _ _ r => r⟩
  | r t =>
    simp only [argC] at h
    cases v <;> simp only at h <;> try (cases h; done)
    case undef => exact ⟨_, _, _, h, Grow.refl _ _, id, fun ρ F w ρ0 F0 c _ _ r => r⟩
    case nils => exact ⟨_, _, _, h, Grow.refl _ _, id, fun ρ F w ρ0 F0 c _ _ (r : c = _) => ⟨none, 0, r, Nat.le_refl _, .inl rfl⟩⟩
    case lst t' l =>
      split at h <;> try (cases h; done)
      rename_i l' hc
      obtain ⟨rfl, rfl⟩ := castL_eq hc
      exact ⟨_, _, _, h, Grow.refl _ _, id, fun ρ F w ρ0 F0 c _ T ⟨a, cap, e, h1, h2⟩ => ⟨a, cap, e, h1, h2.imp id fun ⟨b, s, e, hF, hat⟩ => ⟨b, s, e, T.stab b hF, hat⟩⟩⟩
    case own i =>
      split at h <;> try (cases h; done)
      rename_i t' l hl
      split at h <;> try (cases h; done)
      rename_i l' hc
      obtain ⟨rfl, rfl⟩ := castL_eq hc
      refine ⟨_, _, _, h, ⟨⟨[], by simp⟩, fun id hid => by simp [hid]⟩, id, fun ρ F w ρ0 F0 c H T ⟨t0, a, len, cap, hρ, e⟩ => ?_⟩
      obtain ⟨rfl, h1, h2, h3⟩ := row_at H hρ hl
      refine ⟨a, cap, by rw [e, ← h1], by simp; omega, ?_⟩
      by_cases hn : l = []
      · exact .inl hn
      rcases h3 with h3 | ⟨b, s, rfl, hat⟩
      · exact .inl h3
      · have : 0 < l.length := List.length_pos_iff.mpr hn
        exact .inr ⟨b, s, rfl, T.frz i (by simp) _ b hρ (by simp [Loc.block]; omega), hat⟩
    case ownv i lo hi =>
      split at h <;> try (cases h; done)
      rename_i t' l hl
      split at h <;> try (cases h; done)
      rename_i l' hc
      obtain ⟨rfl, rfl⟩ := castL_eq hc
      refine ⟨_, _, _, h, ⟨⟨[], by simp⟩, fun id hid => by simp [hid]⟩, id, fun ρ F w ρ0 F0 c H T ⟨t0, a, len, cap, hρ, g1, g2, g3, e⟩ => ?_⟩
      obtain ⟨rfl, h1, h2, h3⟩ := row_at H hρ hl
      obtain ⟨a', cap', e', k1, k2⟩ := src_win (l := l) (cap := cap) g1 (by omega) (by omega) h3
      refine ⟨a', cap', by rw [e]; exact e', k1, ?_⟩
      rcases k2 with k2 | ⟨b, s, rfl, hat⟩
      · exact .inl k2
      · by_cases hn : (l.take hi).drop lo = []
        · exact .inl hn
        · right
          refine ⟨b, s, rfl, ?_, hat⟩
          have hpos : 0 < ((l.take hi).drop lo).length := List.length_pos_iff.mpr hn
          simp at hpos
          rcases h3 with rfl | ⟨b0, s0, rfl, _⟩
          · simp at hpos
          · simp only [Value.slice.injEq] at e'
            rw [if_neg (by omega)] at e'
            have := e'.1
            simp only [Option.map_some, addr_add, Option.some.injEq, Addr.mk.injEq] at this
            rw [← this.1]
            exact T.frz i (by simp) _ b0 hρ (by simp [Loc.block]; omega)
  | m t =>
    simp only [argC] at h
    cases v <;> simp only at h <;> try (cases h; done)
    rename_i i
    split at h <;> try (cases h; done)
    rename_i t' l hl
    split at h <;> try (cases h; done)
    refine ⟨_, _, _, h, ⟨⟨[i], rfl⟩, fun _ h => h⟩, fun hh id hid => ?_, fun ρ F w ρ0 F0 c H T ⟨t0, a, len, cap, hρ, e⟩ => ⟨t0, a, len, cap, by rw [T.ids ids.length i (by simp)]; exact hρ, e⟩⟩
    rcases List.mem_append.mp hid with hid | hid
    · exact hh id hid
    · simp at hid; subst hid; exact ⟨_, hl, fun cs e => by cases e⟩
  | p =>
    simp only [argC] at h
    split at h <;> try (cases h; done)
    rename_i i
    split at h <;> try (cases h; done)
    rename_i cs hl
    cases hp : allB V.idfree cs <;> simp only [hp, cond_true, cond_false] at h
    · cases h
    refine ⟨_, _, _, h, ⟨⟨[i], rfl⟩, fun _ h => h⟩, fun hh id hid => ?_, fun ρ F w ρ0 F0 c H T ⟨b, n, hρ, e⟩ => ⟨b, n, by rw [T.ids ids.length i (by simp)]; exact hρ, e⟩⟩
    rcases List.mem_append.mp hid with hid | hid
    · exact hh id hid
    · simp at hid; subst hid; exact ⟨_, hl, fun cs' e => by cases e; exact hp⟩
  | f =>
    simp only [argC] at h
    cases v <;> simp only at h <;> try (cases h; done)
    rename_i g cap
    obtain ⟨cap', frz', hk, h1, h2, h3⟩ := capC_sound h
    refine ⟨_, _, _, hk, ⟨⟨[], by simp⟩, h1⟩, id, fun ρ F w ρ0 F0 c H T ⟨ca, e, hs, hr⟩ => ⟨ca, e, by rw [hs, h2], fun i v' hv' => ?_⟩⟩
    have hi : i < cap.length := by have := (List.getElem?_eq_some_iff.mp hv').1; omega
    obtain ⟨c, hc, r⟩ := hr i _ (List.getElem?_eq_getElem hi)
    obtain ⟨v2, e2, r2⟩ := h3 ρ F w ids ρ0 F0 H T i _ c (List.getElem?_eq_getElem hi) r
    rw [hv'] at e2; cases e2
    exact ⟨c, hc, r2⟩
  | s =>
    simp only [argC] at h
    cases v <;> simp only at h <;> try (cases h; done)
    exact ⟨_, _, _, h, Grow.refl _ _, id, fun ρ F w ρ0 F0 c _ T ⟨b, s, e, hF, hp, hat⟩ => ⟨b, s, e, T.stab b hF, hp, hat⟩⟩
theorem argCs_sound {R : Type} {st : Store} : ∀ {ls : List Lf} {vs : List V} {ids frz : List Nat} {K : List V → List Nat → List Nat → Option R} {r : R}, argCs st ls vs ids frz K = some r →
    ∃ vs' ids' frz', K vs' ids' frz' = some r ∧ Grow ids frz ids' frz' ∧ (HasIds st ids → HasIds st ids') ∧ vs'.length = vs.length ∧
      ∀ ρ F w ρ0 F0, Core ρ F st w → Told ρ F ids' frz' ρ0 F0 → ∀ (i : Nat) v' c, vs'[i]? = some v' → (∀ v, vs[i]? = some v → RelC ρ F w v c) → RelC ρ0 F0 w v' c
  | [], [], ids, frz, K, r, h => ⟨[], ids, frz, h, Grow.refl _ _, id, rfl, fun ρ F w ρ0 F0 _ _ i v' c h => by simp at h⟩
  | l :: ls, v :: vs, ids, frz, K, r, h => by
    simp only [argCs] at h
    obtain ⟨v1, ids1, frz1, h, g1, k1, s1⟩ := argC_sound h
    obtain ⟨vs2, ids2, frz2, h, g2, k2, l2, s2⟩ := argCs_sound h
    refine ⟨_, _, _, h, g1.trans g2, fun hh => k2 (k1 hh), by simp [l2], fun ρ F w ρ0 F0 H T i v' c hv' hr => ?_⟩
    cases i with
    | zero => simp at hv'; subst hv'; exact s1 ρ F w ρ0 F0 c H (T.mono g2) (hr v rfl)
    | succ i => exact s2 ρ F w ρ0 F0 H T i v' c (by simpa using hv') (fun u hu => hr u (by simpa using hu))
  | [], _ :: _, _, _, _, _, h => by simp [argCs] at h
  | _ :: _, [], _, _, _, _, h => by simp [argCs] at h
theorem argA_sound {R : Type} {st : Store} {ids frz : List Nat} {sh : Sh} {v : V} {K : V → List Nat → List Nat → Option R} {r : R} (h : argA st ids frz sh v K = some r) :
    ∃ v' ids' frz', K v' ids' frz' = some r ∧ Grow ids frz ids' frz' ∧ (HasIds st ids → HasIds st ids') ∧
      ∀ ρ F w ρ0 F0 c, Core ρ F st w → Told ρ F ids' frz' ρ0 F0 → RelT ρ F w v c → RelA ρ0 F0 w v' c := by
  cases sh with
  | one l =>
    simp only [argA] at h
    obtain ⟨v', ids', frz', hk, g, k, s⟩ := argC_sound h
    refine ⟨v', ids', frz', hk, g, k, fun ρ F w ρ0 F0 c H T r => ?_⟩
    have hc : (∃ vs, v = .tup vs) ∨ (∃ cs, v = .agg cs) ∨ RelC ρ F w v c := by
      cases v <;> first | exact .inl ⟨_, rfl⟩ | exact .inr (.inl ⟨_, rfl⟩) | exact .inr (.inr r)
    rcases hc with ⟨vs, rfl⟩ | ⟨cs, rfl⟩ | hc
    · cases l <;> simp [argC] at h
    · cases l <;> simp [argC] at h
    · have := s ρ F w ρ0 F0 c H T hc
      cases v' <;> first | exact this | exact this.elim
  | agg ls =>
    cases v <;> simp only [argA] at h <;> try (cases h; done)
    rename_i cs
    obtain ⟨cs', ids', frz', hk, g, k, l, s⟩ := argCs_sound h
    refine ⟨_, ids', frz', hk, g, k, fun ρ F w ρ0 F0 c H T ⟨ca, e, hs, hr⟩ => ⟨ca, e, by rw [hs, l], fun i v' hv' => ?_⟩⟩
    have hi : i < cs.length := by have := (List.getElem?_eq_some_iff.mp hv').1; omega
    obtain ⟨c, hc, r⟩ := hr i _ (List.getElem?_eq_getElem hi)
    exact ⟨c, hc, s ρ F w ρ0 F0 H T i v' c hv' fun v hv => by rw [List.getElem?_eq_getElem hi] at hv; cases hv; exact r⟩
theorem argAs_sound {R : Type} {st : Store} : ∀ {ss : List Sh} {vs : List V} {ids frz : List Nat} {K : List V → List Nat → List Nat → Option R} {r : R}, argAs st ss vs ids frz K = some r →
    ∃ vs' ids' frz', K vs' ids' frz' = some r ∧ Grow ids frz ids' frz' ∧ (HasIds st ids → HasIds st ids') ∧ vs'.length = vs.length ∧
      ∀ ρ F w ρ0 F0, Core ρ F st w → Told ρ F ids' frz' ρ0 F0 → ∀ (i : Nat) v' c, vs'[i]? = some v' → (∀ v, vs[i]? = some v → RelT ρ F w v c) → RelA ρ0 F0 w v' c
  | [], [], ids, frz, K, r, h => ⟨[], ids, frz, h, Grow.refl _ _, id, rfl, fun ρ F w ρ0 F0 _ _ i v' c h => by simp at h⟩
  | l :: ls, v :: vs, ids, frz, K, r, h => by
    simp only [argAs] at h
    obtain ⟨v1, ids1, frz1, h, g1, k1, s1⟩ := argA_sound h
    obtain ⟨vs2, ids2, frz2, h, g2, k2, l2, s2⟩ := argAs_sound h
    refine ⟨_, _, _, h, g1.trans g2, fun hh => k2 (k1 hh), by simp [l2], fun ρ F w ρ0 F0 H T i v' c hv' hr => ?_⟩
    cases i with
    | zero => simp at hv'; subst hv'; exact s1 ρ F w ρ0 F0 c H (T.mono g2) (hr v rfl)
    | succ i => exact s2 ρ F w ρ0 F0 H T i v' c (by simpa using hv') (fun u hu => hr u (by simpa using hu))
  | [], _ :: _, _, _, _, _, h => by simp [argAs] at h
  | _ :: _, [], _, _, _, _, h => by simp [argAs] at h
end Ev
