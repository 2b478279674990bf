/- Operations that write: what they leave, and appends. -/
import Derived.Test.YtnoodoiehlcblaaOps7
set_option linter.unusedVariables false
set_option linter.unusedSimpArgs false
namespace Ev
open Go

theorem beq_ne {i j : Nat} (h : i ≠ j) : Nat.beq i j = false := by
  cases hb : Nat.beq i j
  · rfl
  · exact absurd (Nat.eq_of_beq_eq_true hb) h
theorem beq_self' (i : Nat) : Nat.beq i i = true := Nat.beq_refl i
theorem updK_some {R : Type} : ∀ {st : Store} {id : Nat} {b : Blk} {K : Store → Option R} {r : R}, updK st id b K = some r →
    ∃ st', K st' = some r ∧ look st' id = some b ∧ (∃ b0, look st id = some b0) ∧ ∀ i, i ≠ id → look st' i = look st i
  | [], id, b, K, r, h => by simp [updK] at h
  | (i, c) :: st, id, b, K, r, h => by
    simp only [updK] at h
    cases hb : Nat.beq i id <;> simp only [hb, cond_true, cond_false] at h
    · obtain ⟨st', hk, h1, ⟨b0, h2⟩, h3⟩ := updK_some h
      refine ⟨_, hk, by simp [look, hb, h1], ⟨b0, by simp [look, hb, h2]⟩, fun j hj => ?_⟩
      simp only [look]
      cases hij : Nat.beq i j <;> simp [h3 j hj]
    · have e := Nat.eq_of_beq_eq_true hb
      subst e
      refine ⟨_, h, by simp [look], ⟨c, by simp [look]⟩, fun j hj => ?_⟩
      simp [look, beq_ne (Ne.symm hj)]
def scrubBlk (id : Nat) : Blk → Blk
  | .box cs => .box (cs.map (scrubC id))
  | b => b
theorem look_scrub (id : Nat) : ∀ (σ : Store) (j : Nat), look (σ.map (scrubB id)) j = (look σ j).map (scrubBlk id)
  | [], j => rfl
  | (i, b) :: σ, j => by
    rw [List.map_cons]
    cases b <;> simp only [scrubB, look] <;> cases Nat.beq i j <;> simp [look_scrub id σ j, scrubBlk]
theorem get_map (f : V → V) (hf : f .undef = .undef) : ∀ (fr : List V) (t : Nat), get (fr.map f) t = f (get fr t)
  | [], t => by simp [get, hf]
  | x :: xs, 0 => rfl
  | x :: xs, t + 1 => by simp only [List.map_cons, get, get_map f hf xs t]
/-- A block of the call's own takes another's place, or is written; what named it is struck. -/
theorem post_upd {calm : Prop} {dst : Nat} {ρ : Rho} {F : Nat → Prop} {s : St} {w w' : World} {id : Nat} {blk : Blk} {loc loc' : Loc} {c : Value} {st' : Store} {b0 : Blk} {v : V}
    (hcalm : ¬ calm) (hge : 100 ≤ id) (H : Core ρ F s.st w) (hM : ∀ b, ρ.M b → b < w.heap.size) (hρ : ρ id = some loc) (h0 : look s.st id = some b0)
    (hl : look st' id = some blk) (hlo : ∀ i, i ≠ id → look st' i = look s.st i) (hnb : ∀ cs, blk ≠ .box cs)
    (hw : Chg (fun b => loc.block = some b) w w') (hb : ∀ b, loc'.block = some b → loc.block = some b ∨ (w.heap.size ≤ b ∧ b < w'.heap.size))
    (hat : HeapAt (ρ.set id loc') F w' loc' blk) (hv : RelT (ρ.set id loc') F w' v c) :
    Post calm dst ρ F s w v (St.scrub ⟨s.fr, st'⟩ id) (ρ.set id loc') F w' c := by
  have memF : ∀ b, F b → w'.heap[b]? = w.heap[b]? := fun b hF => hw.block b (H.stable b hF).1 fun e => (H.stable b hF).2 ⟨id, loc, hρ, e⟩
  have E : Ext (fun i => i = id) ρ F w (ρ.set id loc') F w' := ⟨fun i l hx h => by rw [Rho.set_other _ _ hx]; exact h, fun _ h => h, memF⟩
  have hM' : ∀ b, (ρ.set id loc').M b → ρ.M b ∨ w.heap.size ≤ b := by
    rintro b ⟨i, l, hi, hbl⟩
    by_cases e : i = id
    · subst e; rw [Rho.set_same] at hi; cases hi
      exact (hb b hbl).imp (fun h => ⟨i, loc, hρ, h⟩) (·.1)
    · rw [Rho.set_other _ _ e] at hi; exact .inl ⟨i, l, hi, hbl⟩
  refine ⟨core_step (fun i => i = id) H ?_ ?_ ?_ ?_ ?_ ?_, ⟨hw.mono fun b h => ⟨id, loc, hρ, h⟩, hM', fun _ h => .inl h⟩, hv, fun t x r => ?_, by simp [St.scrub], ?_, ?_, ?_, fun h => absurd h hcalm⟩
  · intro i l b hi h1 h2
    rw [Rho.set_other _ _ hi] at h1
    exact hw.block b (hM b ⟨i, l, h1, h2⟩) fun e => hi (H.inj i id l loc b h1 hρ h2 e)
  · intro i l hi h1; rwa [Rho.set_other _ _ hi] at h1
  · intro i b' hi h1
    simp only [St.scrub] at h1
    rw [look_scrub, hlo i hi] at h1
    cases hx : look s.st i with
    | none => simp [hx] at h1
    | some b1 =>
      simp [hx] at h1
      subst h1
      refine ⟨b1, rfl, ?_⟩
      cases b1 with
      | rows t l => rfl
      | box cs =>
        refine ⟨by simp, fun j v v' g1 g2 c r => ?_⟩
        rw [List.getElem?_map, g1] at g2
        simp at g2; subst g2
        exact scrub_wk E v c r
  · intro i l b' hi h1 h2
    subst hi
    rw [Rho.set_same] at h1; cases h1
    simp only [St.scrub] at h2
    rw [look_scrub, hl] at h2
    have : scrubBlk i blk = blk := by cases blk with
      | box cs => exact absurd rfl (hnb cs)
      | rows t l => rfl
    simp [this] at h2; subst h2
    exact hat
  · intro i j li lj b hi h1 h2 h3 h4
    subst hi
    rw [Rho.set_same] at h1; cases h1
    by_cases e : j = i
    · exact e.symm
    · rw [Rho.set_other _ _ e] at h2
      rcases hb b h3 with h5 | h5
      · exact (H.inj j i lj loc b h2 hρ h4 h5).symm
      · have := hM b ⟨j, lj, h2, h4⟩; omega
  · intro b hF
    have := H.stable b hF
    exact ⟨Nat.lt_of_lt_of_le this.1 hw.size, fun h => (hM' b h).elim this.2 fun h => by omega⟩
  · simp only [St.scrub]
    rw [get_map _ rfl]
    exact scrubT_rel E r
  · intro hd i l h1
    simp only [St.scrub]
    rw [look_scrub]
    by_cases e : i = id
    · subst e; simp [hl]
    · rw [Rho.set_other _ _ e] at h1
      rw [hlo i e]
      have := hd i l h1
      cases hx : look s.st i with
      | none => exact absurd hx this
      | some b => simp
  · intro i hi h2
    have e : i ≠ id := by omega
    simp only [St.scrub] at h2
    rw [look_scrub, hlo i e] at h2
    exact fun hx => h2 (by rw [hx]; rfl)
  · intro i l hi h1 h2
    have e : i ≠ id := by omega
    rw [Rho.set_other _ _ e]; exact h1
/-- A block of the call's own is written in place. -/
theorem post_set {calm : Prop} {dst : Nat} {ρ : Rho} {F : Nat → Prop} {s : St} {w w' : World} {id : Nat} {blk : Blk} {loc : Loc} {c : Value} {st' : Store} {b0 : Blk} {v : V}
    (hcalm : ¬ calm) (H : Core ρ F s.st w) (hM : ∀ b, ρ.M b → b < w.heap.size) (hρ : ρ id = some loc) (h0 : look s.st id = some b0)
    (hl : look st' id = some blk) (hlo : ∀ i, i ≠ id → look st' i = look s.st i) (hw : Chg (fun b => loc.block = some b) w w')
    (hat : HeapAt ρ F w' loc blk) (hv : RelT ρ F w' v c) : Post calm dst ρ F s w v ⟨s.fr, st'⟩ ρ F w' c := by
  have memF : ∀ b, F b → w'.heap[b]? = w.heap[b]? := fun b hF => hw.block b (H.stable b hF).1 fun e => (H.stable b hF).2 ⟨id, loc, hρ, e⟩
  have E : Ext (fun _ => False) ρ F w ρ F w' := ⟨fun i l _ h => h, fun _ h => h, memF⟩
  refine ⟨core_step (fun i => i = id) H ?_ (fun _ _ _ h => h) ?_ ?_ (fun i j li lj b _ h1 h2 h3 h4 => H.inj i j li lj b h1 h2 h3 h4) ?_, ⟨hw.mono fun b h => ⟨id, loc, hρ, h⟩, fun _ h => .inl h, fun _ h => .inl h⟩, hv, fun t x r => RelT.ext0 E r, rfl, ?_, ?_, fun _ _ _ h _ => h, fun h => absurd h hcalm⟩
  · intro i l b hi h1 h2
    exact hw.block b (hM b ⟨i, l, h1, h2⟩) fun e => hi (H.inj i id l loc b h1 hρ h2 e)
  · intro i b' hi h1
    rw [hlo i hi] at h1
    refine ⟨b', h1, ?_⟩
    cases b' with
    | rows t l => rfl
    | box cs =>
      refine ⟨rfl, fun i v v' h1 h2 c r => ?_⟩
      rw [h1] at h2; cases h2
      exact RelC.ext0 E r
  · intro i l b' hi h1 h2
    subst hi
    rw [hρ] at h1; cases h1
    rw [hl] at h2; cases h2
    exact hat
  · intro b hF
    have := H.stable b hF
    exact ⟨Nat.lt_of_lt_of_le this.1 hw.size, this.2⟩
  · intro hd i l h1
    by_cases e : i = id
    · subst e; simp [hl]
    · simp only; rw [hlo i e]; exact hd i l h1
  · intro i hi h2
    by_cases e : i = id
    · subst e; rw [h0]; simp
    · simp only at h2; rw [hlo i e] at h2; exact h2

/-! ### Stores into a row of cells -/
theorem rowB_set {w : World} {b : Nat} {arr : Array Value} (h : RowB w b arr) (i : Nat) (v : Value) : RowB (w.setCell ⟨b, i, none⟩ v) b (arr.setIfInBounds i v) := by
  obtain ⟨e, lo, hi, hb, hf⟩ := h
  refine ⟨e, lo, hi, ?_, fun j hj => hf j (by simpa using hj)⟩
  simp [World.setCell, Array.getElem?_modify, hb]
theorem chg_set (w : World) (b i : Nat) (v : Value) : Chg (fun x => x = b) w (w.setCell ⟨b, i, none⟩ v) :=
  ⟨rfl, rfl, rfl, by simp, fun x hx hne => heap_setCell_other w _ x v hne⟩
theorem run_storeCells_row {P : Program} {b : Nat} : ∀ (vs : List Value) (w : World) (arr : Array Value) (off i : Nat), RowB w b arr → off + i + vs.length ≤ arr.size → (∀ u ∈ vs, u.oneCell' = true) →
    ∃ w' arr', (storeCells ⟨b, off, none⟩ vs i).run P w = .ok () w' ∧ Chg (fun x => x = b) w w' ∧ w'.heap.size = w.heap.size ∧ RowB w' b arr' ∧ arr'.size = arr.size ∧
      ∀ j : Nat, arr'[j]? = if off + i ≤ j ∧ j < off + i + vs.length then vs[j - (off + i)]? else arr[j]?
  | [], w, arr, off, i, hr, hl, h1 => ⟨w, arr, by simp [storeCells], Chg.refl _ _, rfl, hr, rfl, fun j => by simp; omega⟩
  | v :: vs, w, arr, off, i, hr, hl, h1 => by
    simp only [List.length_cons] at hl
    obtain ⟨w', arr', g1, g2, g3, g4, g5, g6⟩ := run_storeCells_row (P := P) vs (w.setCell ⟨b, off + i, none⟩ v) (arr.setIfInBounds (off + i) v) off (i + 1) (rowB_set hr _ _) (by simp; omega) (fun u hu => h1 u (by simp [hu]))
    refine ⟨w', arr', ?_, (chg_set w b (off + i) v).trans g2 (fun x h => h) (fun x _ h => h), by rw [g3]; simp, g4, by rw [g5]; simp, fun j => ?_⟩
    · have hc : w.cell? ⟨b, off + i, none⟩ = some arr[off + i] := by rw [cell_row hr]; exact Array.getElem?_eq_getElem (by omega)
      have hf : w.frozen? ⟨b, off + i, none⟩ = false := by
        obtain ⟨e, lo, hi, hb, hfz⟩ := hr
        have := hfz (off + i) (by omega)
        simp only [World.frozen?, hb]
        simp only [Bool.and_eq_false_iff, decide_eq_false_iff_not]
        omega
      simp only [storeCells, Sem.run_bind, addr_add, run_store _ _ _ _ _ (h1 v (by simp)), hc, hf, Bool.false_eq_true, if_false, Result.andThen_ok]
      exact g1
    · rw [g6]
      simp only [List.length_cons]
      by_cases h2 : j = off + i
      · subst h2
        rw [if_neg (by omega), if_pos (by omega), Nat.sub_self, Array.getElem?_setIfInBounds_self_of_lt (by omega)]; rfl
      · by_cases h3 : off + (i + 1) ≤ j ∧ j < off + (i + 1) + vs.length
        · rw [if_pos h3, if_pos (by omega), show j - (off + i) = (j - (off + (i + 1))) + 1 by omega, List.getElem?_cons_succ]
        · rw [if_neg h3, if_neg (by omega), Array.getElem?_setIfInBounds_ne (by omega)]
end Ev
