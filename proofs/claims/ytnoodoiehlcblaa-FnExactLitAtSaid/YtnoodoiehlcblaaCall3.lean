/- What a call hands back, and calls as a whole. -/
import Derived.Test.YtnoodoiehlcblaaCall2
set_option linter.unusedVariables false
set_option linter.unusedSimpArgs false
namespace Ev
open Go

theorem blksK_some {R : Type} {st : Store} : ∀ {ids : List Nat} {K : List Blk → Option R} {r : R}, blksK st ids K = some r →
    ∃ bs, K bs = some r ∧ bs.length = ids.length ∧ ∀ (j id : Nat), ids[j]? = some id → ∃ b, bs[j]? = some b ∧ look st id = some b
  | [], K, r, h => ⟨[], h, rfl, fun j id h => by simp at h⟩
  | id :: ids, K, r, h => by
    simp only [blksK] at h
    split at h <;> try (cases h; done)
    rename_i b hb
    obtain ⟨bs, hk, h1, h2⟩ := blksK_some h
    refine ⟨_, hk, by simp [h1], fun j i hj => ?_⟩
    cases j with
    | zero => simp at hj; subst hj; exact ⟨b, rfl, hb⟩
    | succ j => simpa using h2 j i (by simpa using hj)
theorem look_enter : ∀ (bs : List Blk) (n i : Nat), look (enterSt n bs) i = if n ≤ i then bs[i - n]? else none
  | [], n, i => by simp [enterSt, look]
  | b :: bs, n, i => by
    simp only [enterSt, look]
    by_cases h : n = i
    · subst h; simp
    · rw [beq_ne h, cond_false, look_enter bs (n + 1) i]
      by_cases h2 : n + 1 ≤ i
      · rw [if_pos h2, if_pos (by omega), show i - n = (i - (n + 1)) + 1 by omega, List.getElem?_cons_succ]
      · rw [if_neg h2, if_neg (by omega)]
theorem look_enter0 (bs : List Blk) (i : Nat) : look (enterSt 0 bs) i = bs[i]? := by rw [look_enter]; simp
theorem mem_of_memN {n : Nat} : ∀ {l : List Nat}, memN n l = false → n ∉ l
  | [], _ => by simp
  | m :: l, h => by
    simp only [memN] at h
    cases hb : Nat.beq m n <;> simp only [hb, cond_true, cond_false] at h
    · intro hm
      rcases List.mem_cons.mp hm with rfl | hm
      · simp at hb
      · exact mem_of_memN h hm
    · cases h
theorem okIds_some {frz : List Nat} : ∀ {ids : List Nat}, okIds frz ids = true → ids.Nodup ∧ ∀ id ∈ ids, id ∉ frz
  | [], _ => ⟨List.nodup_nil, by simp⟩
  | n :: ids, h => by
    simp only [okIds] at h
    cases h1 : memN n ids <;> simp only [h1, cond_true, cond_false] at h
    · cases h2 : memN n frz <;> simp only [h2, cond_true, cond_false] at h
      · obtain ⟨h3, h4⟩ := okIds_some h
        refine ⟨List.nodup_cons.mpr ⟨mem_of_memN h1, h3⟩, fun id hid => ?_⟩
        rcases List.mem_cons.mp hid with rfl | hid
        · exact mem_of_memN h2
        · exact h4 id hid
      · cases h
    · cases h
theorem impB_new {R : Type} {sh : Bool} {dst : Nat} : ∀ {bs : List Blk} {j : Nat} {st : Store} {K : Store → Option R} {r : R}, impB sh dst [] j bs st K = some r →
    ∃ st', K st' = some r ∧ (∀ b ∈ bs, b.okB sh = true) ∧ (∀ i, i < bs.length → look st (dst + 10000 * (j + i)) = none ∧ look st' (dst + 10000 * (j + i)) = bs[i]?) ∧
      ∀ id, (∀ i, i < bs.length → id ≠ dst + 10000 * (j + i)) → look st' id = look st id
  | [], j, st, K, r, h => ⟨st, by simpa [impB] using h, by simp, fun i h => by simp at h, fun id _ => rfl⟩
  | b :: bs, j, st, K, r, h => by
    simp only [impB] at h
    cases hc : b.okB sh <;> simp only [hc, cond_true, cond_false] at h
    · cases h
    obtain ⟨hl, h⟩ := newK_some h
    obtain ⟨st', hk, h1, h2, h3⟩ := impB_new h
    have hne : ∀ i, dst + 10000 * (j + (i + 1)) ≠ dst + 10000 * j := fun i => by omega
    refine ⟨st', hk, ?_, ?_, ?_⟩
    · intro b' hb'
      rcases List.mem_cons.mp hb' with rfl | hb'
      · exact hc
      · exact h1 b' hb'
    · intro i hi
      cases i with
      | zero =>
        refine ⟨hl, ?_⟩
        rw [Nat.add_zero, h3 _ (fun i _ => by omega), look_new]; rfl
      | succ i =>
        have := h2 i (by simpa using hi)
        rw [show j + 1 + i = j + (i + 1) by omega] at this
        rw [look_old (hne i)] at this
        simpa using this
    · intro id hid
      rw [h3 id (fun i hi => by have := hid (i + 1) (by simpa using hi); rwa [show j + 1 + i = j + (i + 1) by omega])]
      exact look_old (by have := hid 0 (by simp); simpa using this)
theorem impB_some {R : Type} {sh : Bool} {dst : Nat} : ∀ {ids : List Nat} {bs : List Blk} {st : Store} {K : Store → Option R} {r : R}, ids.Nodup → impB sh dst ids 0 bs st K = some r →
    ∃ st', K st' = some r ∧ ids.length ≤ bs.length ∧ (∀ b ∈ bs, b.okB sh = true) ∧ (∀ (j id : Nat), ids[j]? = some id → look st' id = bs[j]? ∧ look st id ≠ none) ∧
      (∀ i, ids.length + i < bs.length → look st (dst + 10000 * i) = none ∧ look st' (dst + 10000 * i) = bs[ids.length + i]?) ∧
      ∀ id, id ∉ ids → (∀ i, ids.length + i < bs.length → id ≠ dst + 10000 * i) → look st' id = look st id
  | [], bs, st, K, r, _, h => by
    obtain ⟨st', hk, h1, h2, h3⟩ := impB_new h
    refine ⟨st', hk, by simp, h1, fun j id h => by simp at h, fun i hi => ?_, fun id _ hid => h3 id fun i hi => ?_⟩
    · have := h2 i (by simpa using hi); simpa using this
    · have := hid i (by simpa using hi); simpa using this
  | id :: ids, [], st, K, r, _, h => by simp [impB] at h
  | id :: ids, b :: bs, st, K, r, hn, h => by
    simp only [impB] at h
    cases hc : b.okB sh <;> simp only [hc, cond_true, cond_false] at h
    · cases h
    obtain ⟨st1, h, g1, ⟨b0, g2⟩, g3⟩ := updK_some h
    obtain ⟨hni, hn'⟩ := List.nodup_cons.mp hn
    obtain ⟨st', hk, k1, k2, k3, k4, k5⟩ := impB_some hn' h
    have hid : ∀ i, ids.length + i < bs.length → id ≠ dst + 10000 * i := fun i hi e => by
      have := (k4 i hi).1
      rw [← e, g1] at this; cases this
    refine ⟨st', hk, by simpa using k1, ?_, ?_, ?_, ?_⟩
    · intro b' hb'
      rcases List.mem_cons.mp hb' with rfl | hb'
      · exact hc
      · exact k2 b' hb'
    · intro j i hj
      cases j with
      | zero =>
        simp at hj; subst hj
        rw [k5 id hni hid, g1, g2]; simp
      | succ j =>
        have hj' : ids[j]? = some i := by simpa using hj
        obtain ⟨e1, e2⟩ := k3 j i hj'
        have hne : i ≠ id := fun e => hni (e ▸ List.mem_of_getElem? hj')
        rw [g3 i hne] at e2
        exact ⟨by simpa using e1, e2⟩
    · intro i hi
      have hi' : ids.length + i < bs.length := by simp at hi; omega
      obtain ⟨e1, e2⟩ := k4 i hi'
      rw [g3 _ (Ne.symm (hid i hi'))] at e1
      refine ⟨e1, ?_⟩
      rw [e2, show (id :: ids).length + i = (ids.length + i) + 1 by simp; omega, List.getElem?_cons_succ]
    · intro i hi hi2
      simp only [List.mem_cons, not_or] at hi
      rw [k5 i hi.2 (fun k hk => hi2 k (by simp; omega)), g3 i hi.1]

/-! ### Renaming what comes back -/
theorem mapId_old {dst : Nat} : ∀ {ids : List Nat} {j id : Nat}, ids[j]? = some id → mapId dst ids j = id
  | [], j, id, h => by simp at h
  | x :: ids, 0, id, h => by simpa [mapId] using h
  | x :: ids, j + 1, id, h => by simp only [mapId]; exact mapId_old (by simpa using h)
theorem mapId_new {dst : Nat} : ∀ {ids : List Nat} {j : Nat}, mapId dst ids (ids.length + j) = dst + 10000 * j
  | [], j => by simp [mapId]
  | x :: ids, j => by
    rw [show (x :: ids).length + j = (ids.length + j) + 1 by simp; omega]
    simp only [mapId]; exact mapId_new
/-- 'ρ' tells of the renamed ids what 'ρ1' tells of the callee's. -/
structure Back (sh : Bool) (dst : Nat) (ids : List Nat) (ρ1 : Rho) (F1 : Nat → Prop) (w1 : World) (ρ : Rho) (F : Nat → Prop) : Prop where
  ids : ∀ j l, ρ1 j = some l → ρ (mapId dst ids j) = some l
  stab : sh = true → ∀ b, F1 b → F b
theorem renC_sound {R : Type} {sh : Bool} {dst : Nat} {ids : List Nat} {v : V} {K : V → Option R} {r : R} (h : renC sh dst ids v K = some r) :
    ∃ v', K v' = some r ∧ ∀ ρ1 F1 w ρ F c, Back sh dst ids ρ1 F1 w ρ F → RelC ρ1 F1 w v c → RelC ρ F w v' c := by
  unfold renC at h
  split at h
  · exact ⟨_, h, fun ρ1 F1 w ρ F c _ r => r⟩
  · exact ⟨_, h, fun ρ1 F1 w ρ F c _ r => r⟩
  · exact ⟨_, h, fun ρ1 F1 w ρ F c _ r => r⟩
  · exact ⟨_, h, fun ρ1 F1 w ρ F c B ⟨t, a, len, cap, hρ, e⟩ => ⟨t, a, len, cap, B.ids _ _ hρ, e⟩⟩
  · exact ⟨_, h, fun ρ1 F1 w ρ F c B ⟨b, n, hρ, e⟩ => ⟨b, n, B.ids _ _ hρ, e⟩⟩
  · cases sh <;> simp only [cond_true, cond_false] at h
    · cases h
    · exact ⟨_, h, fun ρ1 F1 w ρ F c B ⟨a, cap, e, h1, h2⟩ => ⟨a, cap, e, h1, h2.imp id fun ⟨b, s, e, hF, hat⟩ => ⟨b, s, e, B.stab rfl b hF, hat⟩⟩⟩
  · cases h
theorem renCs_sound {R : Type} {sh : Bool} {dst : Nat} {ids : List Nat} : ∀ {vs : List V} {K : List V → Option R} {r : R}, renCs sh dst ids vs K = some r →
    ∃ vs', K vs' = some r ∧ vs'.length = vs.length ∧ ∀ ρ1 F1 w ρ F, Back sh dst ids ρ1 F1 w ρ F → ∀ (i : Nat) v' c, vs'[i]? = some v' → (∀ v, vs[i]? = some v → RelC ρ1 F1 w v c) → RelC ρ F w v' c
  | [], K, r, h => ⟨[], h, rfl, fun ρ1 F1 w ρ F _ i v' c h => by simp at h⟩
  | v :: vs, K, r, h => by
    simp only [renCs] at h
    obtain ⟨v1, h, s1⟩ := renC_sound h
    obtain ⟨vs2, h, l2, s2⟩ := renCs_sound h
    refine ⟨_, h, by simp [l2], fun ρ1 F1 w ρ F B i v' c hv' hr => ?_⟩
    cases i with
    | zero => simp at hv'; subst hv'; exact s1 ρ1 F1 w ρ F c B (hr v rfl)
    | succ i => exact s2 ρ1 F1 w ρ F B i v' c (by simpa using hv') (fun u hu => hr u (by simpa using hu))
theorem relC_A {ρ : Rho} {F : Nat → Prop} {w : World} {v : V} {c : Value} (h : RelC ρ F w v c) : RelA ρ F w v c := by
  cases v <;> first | exact h | exact h.elim
theorem renA_sound {R : Type} {sh : Bool} {dst : Nat} {ids : List Nat} {v : V} {K : V → Option R} {r : R} (h : renA sh dst ids v K = some r) :
    ∃ v', K v' = some r ∧ ∀ ρ1 F1 w ρ F c, Back sh dst ids ρ1 F1 w ρ F → RelA ρ1 F1 w v c → RelA ρ F w v' c := by
  by_cases hv : ∃ cs, v = .agg cs
  · obtain ⟨cs, rfl⟩ := hv
    simp only [renA] at h
    obtain ⟨cs', hk, l, s⟩ := renCs_sound h
    refine ⟨_, hk, fun ρ1 F1 w ρ F c B ⟨ca, e, hs, hr⟩ => ⟨ca, e, by rw [hs, l], fun i v' hv' => ?_⟩⟩
    have hi : i < cs.length := by have := (List.getElem?_eq_some_iff.mp hv').1; omega
    obtain ⟨c, hc, r⟩ := hr i _ (List.getElem?_eq_getElem hi)
    exact ⟨c, hc, s ρ1 F1 w ρ F B i v' c hv' fun v hv => by rw [List.getElem?_eq_getElem hi] at hv; cases hv; exact r⟩
  · have h' : renC sh dst ids v K = some r := by cases v <;> first | exact h | exact absurd ⟨_, rfl⟩ hv
    obtain ⟨v', hk, s⟩ := renC_sound h'
    refine ⟨v', hk, fun ρ1 F1 w ρ F c B r => relC_A (s ρ1 F1 w ρ F c B ?_)⟩
    cases v <;> first | exact r | exact absurd ⟨_, rfl⟩ hv
theorem renAs_sound {R : Type} {sh : Bool} {dst : Nat} {ids : List Nat} : ∀ {vs : List V} {K : List V → Option R} {r : R}, renAs sh dst ids vs K = some r →
    ∃ vs', K vs' = some r ∧ vs'.length = vs.length ∧ ∀ ρ1 F1 w ρ F, Back sh dst ids ρ1 F1 w ρ F → ∀ (i : Nat) v' c, vs'[i]? = some v' → (∀ v, vs[i]? = some v → RelA ρ1 F1 w v c) → RelA ρ F w v' c
  | [], K, r, h => ⟨[], h, rfl, fun ρ1 F1 w ρ F _ i v' c h => by simp at h⟩
  | v :: vs, K, r, h => by
    simp only [renAs] at h
    obtain ⟨v1, h, s1⟩ := renA_sound h
    obtain ⟨vs2, h, l2, s2⟩ := renAs_sound h
    refine ⟨_, h, by simp [l2], fun ρ1 F1 w ρ F B i v' c hv' hr => ?_⟩
    cases i with
    | zero => simp at hv'; subst hv'; exact s1 ρ1 F1 w ρ F c B (hr v rfl)
    | succ i => exact s2 ρ1 F1 w ρ F B i v' c (by simpa using hv') (fun u hu => hr u (by simpa using hu))
theorem renT_sound {R : Type} {sh : Bool} {dst : Nat} {ids : List Nat} {v : V} {K : V → Option R} {r : R} (h : renT sh dst ids v K = some r) :
    ∃ v', K v' = some r ∧ ∀ ρ1 F1 w ρ F c, Back sh dst ids ρ1 F1 w ρ F → RelT ρ1 F1 w v c → RelT ρ F w v' c := by
  by_cases hv : ∃ cs, v = .tup cs
  · obtain ⟨cs, rfl⟩ := hv
    simp only [renT] at h
    obtain ⟨cs', hk, l, s⟩ := renAs_sound h
    refine ⟨_, hk, fun ρ1 F1 w ρ F c B ⟨ca, e, hs, hr⟩ => ⟨ca, e, by rw [hs, l], fun i v' hv' => ?_⟩⟩
    have hi : i < cs.length := by have := (List.getElem?_eq_some_iff.mp hv').1; omega
    obtain ⟨c, hc, r⟩ := hr i _ (List.getElem?_eq_getElem hi)
    exact ⟨c, hc, s ρ1 F1 w ρ F B i v' c hv' fun v hv => by rw [List.getElem?_eq_getElem hi] at hv; cases hv; exact r⟩
  · have h' : renA sh dst ids v K = some r := by cases v <;> first | exact h | exact absurd ⟨_, rfl⟩ hv
    obtain ⟨v', hk, s⟩ := renA_sound h'
    refine ⟨v', hk, fun ρ1 F1 w ρ F c B r => relA_T (s ρ1 F1 w ρ F c B ?_)⟩
    cases v <;> first | exact r | exact absurd ⟨_, rfl⟩ hv
end Ev
