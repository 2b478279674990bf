/- Calls as a whole. -/
import Derived.Test.YtnoodoiehlcblaaCall3
set_option linter.unusedVariables false
set_option linter.unusedSimpArgs false
namespace Ev
open Go

theorem mem_dedup {x : Nat} : ∀ {l : List Nat}, x ∈ l → x ∈ dedup l
  | [], h => by simp at h
  | n :: l, h => by
    simp only [dedup]
    cases hm : memN n l <;> simp only [cond_true, cond_false]
    · rcases List.mem_cons.mp h with rfl | h
      · simp
      · simp [mem_dedup h]
    · rcases List.mem_cons.mp h with rfl | h
      · have : x ∈ l := by
          by_cases hx : x ∈ l
          · exact hx
          · exfalso
            have : ∀ {l : List Nat}, x ∉ l → memN x l = false := by
              intro l
              induction l with
              | nil => intro _; rfl
              | cons m l ih =>
                intro h
                simp only [List.mem_cons, not_or] at h
                simp only [memN, beq_ne (Ne.symm h.1), cond_false]
                exact ih h.2
            rw [this hx] at hm; cases hm
        exact mem_dedup this
      · exact mem_dedup h
theorem dedup_mem {x : Nat} : ∀ {l : List Nat}, x ∈ dedup l → x ∈ l
  | [], h => by simp [dedup] at h
  | n :: l, h => by
    simp only [dedup] at h
    cases hm : memN n l <;> simp only [hm, cond_true, cond_false] at h
    · rcases List.mem_cons.mp h with rfl | h
      · simp
      · simp [dedup_mem h]
    · simp [dedup_mem h]
/-- The callee's ids, as the caller's. -/
noncomputable def backRho (ρf ρ1 : Rho) (dst n : Nat) (ids : List Nat) : Rho := fun id =>
  open Classical in if h : ∃ k, k < n ∧ mapId dst ids k = id then ρ1 h.choose else ρf id
theorem backRho_in {ρf ρ1 : Rho} {dst n : Nat} {ids : List Nat} (hinj : ∀ j k, j < n → k < n → mapId dst ids j = mapId dst ids k → j = k) {k : Nat} (hk : k < n) : backRho ρf ρ1 dst n ids (mapId dst ids k) = ρ1 k := by
  unfold backRho
  have h : ∃ j, j < n ∧ mapId dst ids j = mapId dst ids k := ⟨k, hk, rfl⟩
  rw [dif_pos h]
  congr 1
  exact hinj _ _ h.choose_spec.1 hk h.choose_spec.2
theorem backRho_out {ρf ρ1 : Rho} {dst n : Nat} {ids : List Nat} {id : Nat} (h : ¬ ∃ k, k < n ∧ mapId dst ids k = id) : backRho ρf ρ1 dst n ids id = ρf id := by
  unfold backRho; rw [dif_neg h]
/-- What holds when a call has come back. -/
theorem call_back {sh : Bool} {dst : Nat} {ids : List Nat} {ρf : Rho} {Ff : Nat → Prop} {σ σ' : Store} {w w' : World} {ρ0 ρ1 : Rho} {F0 F1 : Nat → Prop} {out : List Blk}
    (H : Core ρf Ff σ w) (hM : ∀ b, ρf.M b → b < w.heap.size) (hlen : ids.length ≤ out.length) (hok : ∀ b ∈ out, b.okB sh = true)
    (hinj : ∀ j k, j < out.length → k < out.length → mapId dst ids j = mapId dst ids k → j = k)
    (h0 : ∀ j, ρ0 j = (ids[j]?).bind ρf) (hσ : ∀ k, k < out.length → look σ' (mapId dst ids k) = out[k]?) (hσo : ∀ id, (¬ ∃ k, k < out.length ∧ mapId dst ids k = id) → look σ' id = look σ id)
    (hnew : ∀ k, ids.length ≤ k → k < out.length → ρf (mapId dst ids k) = none)
    (hF0 : ∀ b, F0 b → sh = true → Ff b)
    (C1 : Core ρ1 F1 (enterSt 0 out) w') (h01 : ∀ id l, ρ0 id = some l → ρ1 id = some l) (hd1 : ∀ id l, ρ1 id = some l → id < out.length)
    (hchg : Chg ρ0.M w w') (hmb : ∀ b, ρ1.M b → ρ0.M b ∨ w.heap.size ≤ b) (hstb : ∀ b, F1 b → F0 b ∨ w.heap.size ≤ b) :
    Core (backRho ρf ρ1 dst out.length ids) (fun b => Ff b ∨ (sh = true ∧ F1 b)) σ' w' ∧
      Ext (fun _ => False) ρf Ff w (backRho ρf ρ1 dst out.length ids) (fun b => Ff b ∨ (sh = true ∧ F1 b)) w' ∧
      Back sh dst ids ρ1 F1 w' (backRho ρf ρ1 dst out.length ids) (fun b => Ff b ∨ (sh = true ∧ F1 b)) ∧
      (∀ b, (backRho ρf ρ1 dst out.length ids).M b → ρf.M b ∨ w.heap.size ≤ b) ∧ (∀ b, ρ0.M b → ρf.M b) := by
  have m0 : ∀ b, ρ0.M b → ∃ j id loc, ids[j]? = some id ∧ ρ0 j = some loc ∧ ρf id = some loc ∧ loc.block = some b := by
    rintro b ⟨j, loc, hj, hb⟩
    have hj' := hj
    rw [h0] at hj
    cases hi : ids[j]? with
    | none => simp [hi] at hj
    | some id => simp [hi] at hj; exact ⟨j, id, loc, hi, hj', hj, hb⟩
  have hM0 : ∀ b, ρ0.M b → ρf.M b := fun b h => let ⟨j, id, loc, _, _, h2, h3⟩ := m0 b h; ⟨id, loc, h2, h3⟩
  have hin : ∀ k, k < out.length → backRho ρf ρ1 dst out.length ids (mapId dst ids k) = ρ1 k := fun k hk => backRho_in hinj hk
  have memF : ∀ b, Ff b → w'.heap[b]? = w.heap[b]? := fun b hb => hchg.block b (H.stable b hb).1 fun e => (H.stable b hb).2 (hM0 b e)
  have E : Ext (fun _ => False) ρf Ff w (backRho ρf ρ1 dst out.length ids) (fun b => Ff b ∨ (sh = true ∧ F1 b)) w' := by
    refine ⟨fun id l _ h => ?_, fun b h => .inl h, memF⟩
    by_cases hx : ∃ k, k < out.length ∧ mapId dst ids k = id
    · obtain ⟨k, hk, rfl⟩ := hx
      rw [hin k hk]
      by_cases hkm : k < ids.length
      · refine h01 k l ?_
        rw [h0, List.getElem?_eq_getElem hkm]
        rw [mapId_old (List.getElem?_eq_getElem hkm)] at h
        exact h
      · rw [hnew k (by omega) hk] at h; cases h
    · rw [backRho_out hx]; exact h
  have hmb' : ∀ k loc b, ρ1 k = some loc → loc.block = some b → (k < ids.length ∧ ∃ id, ids[k]? = some id ∧ ρf id = some loc) ∨ w.heap.size ≤ b := by
    intro k loc b hk hb
    rcases hmb b ⟨k, loc, hk, hb⟩ with h | h
    · left
      obtain ⟨j, id, loc', h1, h2, h3, h4⟩ := m0 b h
      have := C1.inj k j loc loc' b hk (h01 j loc' h2) hb h4
      subst this
      have hl := (List.getElem?_eq_some_iff.mp h1).1
      rw [h01 k loc' h2] at hk; cases hk
      exact ⟨hl, id, h1, h3⟩
    · exact .inr h
  have hMB : ∀ b, (backRho ρf ρ1 dst out.length ids).M b → ρf.M b ∨ w.heap.size ≤ b := by
    rintro b ⟨id, loc, hid, hb⟩
    by_cases hx : ∃ k, k < out.length ∧ mapId dst ids k = id
    · obtain ⟨k, hk, rfl⟩ := hx
      rw [hin k hk] at hid
      exact (hmb' k loc b hid hb).imp (fun ⟨_, id, _, h⟩ => ⟨id, loc, h, hb⟩) fun h => h
    · rw [backRho_out hx] at hid; exact .inl ⟨id, loc, hid, hb⟩
  refine ⟨core_step (fun id => ∃ k, k < out.length ∧ mapId dst ids k = id) H ?_ ?_ ?_ ?_ ?_ ?_, E, ⟨fun j l hj => by rw [hin j (hd1 j l hj)]; exact hj, fun hs b hb => .inr ⟨hs, hb⟩⟩, hMB, hM0⟩
  · intro id loc b hx h1 h2
    rw [backRho_out hx] at h1
    refine hchg.block b (hM b ⟨id, loc, h1, h2⟩) fun e => ?_
    obtain ⟨j, id', loc', g1, _, g3, g4⟩ := m0 b e
    have := H.inj id id' loc loc' b h1 g3 h2 g4
    subst this
    have hl := (List.getElem?_eq_some_iff.mp g1).1
    exact hx ⟨j, by omega, mapId_old g1⟩
  · intro id loc hx h1; rwa [backRho_out hx] at h1
  · intro id blk hx h1
    rw [hσo id hx] at h1
    refine ⟨blk, h1, ?_⟩
    cases blk with
    | rows t l => rfl
    | box cs =>
      refine ⟨rfl, fun i v v' h1 h2 c r => ?_⟩
      rw [h1] at h2; cases h2
      exact RelC.ext0 E r
  · rintro id loc blk ⟨k, hk, rfl⟩ h1 h2
    rw [hin k hk] at h1
    rw [hσ k hk] at h2
    have := C1.heap k loc blk h1 (by rw [look_enter0]; exact h2)
    have hb := hok blk (List.mem_of_getElem? h2)
    refine this.weaken (fun _ _ => rfl) ?_
    cases blk with
    | rows t l => rfl
    | box cs =>
      refine ⟨rfl, fun i v v' g1 g2 c r => ?_⟩
      rw [g1] at g2; cases g2
      have hv := allB_get hb v (List.mem_of_getElem? g1)
      cases v <;> simp only [okV, V.idfree] at hv <;> try (cases hv; done)
      all_goals first
        | exact r
        | (obtain ⟨a, cap, e, g3, g4⟩ := r
           exact ⟨a, cap, e, g3, g4.imp id fun ⟨b, s, e, hF, hat⟩ => ⟨b, s, e, .inr ⟨hv, hF⟩, hat⟩⟩)
  · rintro i j li lj b ⟨k, hk, rfl⟩ h1 h2 h3 h4
    rw [hin k hk] at h1
    by_cases hx : ∃ k, k < out.length ∧ mapId dst ids k = j
    · obtain ⟨k', hk', rfl⟩ := hx
      rw [hin k' hk'] at h2
      rw [C1.inj k k' li lj b h1 h2 h3 h4]
    · exfalso
      rw [backRho_out hx] at h2
      have hlt := hM b ⟨j, lj, h2, h4⟩
      rcases hmb' k li b h1 h3 with ⟨hkl, id, g1, g2⟩ | h
      · have := H.inj j id lj li b h2 g2 h4 h3
        subst this
        exact hx ⟨k, hk, mapId_old g1⟩
      · omega
  · rintro b (hb | ⟨hs, hb⟩)
    · have := H.stable b hb
      exact ⟨Nat.lt_of_lt_of_le this.1 hchg.size, fun h => (hMB b h).elim this.2 fun h => by omega⟩
    · have := C1.stable b hb
      refine ⟨this.1, ?_⟩
      rintro ⟨id, loc, hid, hbl⟩
      by_cases hx : ∃ k, k < out.length ∧ mapId dst ids k = id
      · obtain ⟨k, hk, rfl⟩ := hx
        rw [hin k hk] at hid
        exact this.2 ⟨k, loc, hid, hbl⟩
      · rw [backRho_out hx] at hid
        have hlt := hM b ⟨id, loc, hid, hbl⟩
        rcases hstb b hb with h | h
        · exact (H.stable b (hF0 b h hs)).2 ⟨id, loc, hid, hbl⟩
        · omega
end Ev
