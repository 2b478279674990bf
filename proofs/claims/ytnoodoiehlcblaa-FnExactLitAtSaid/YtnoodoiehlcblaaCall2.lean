/- What a call leaves: what is frozen, what comes back. -/
import Derived.Test.YtnoodoiehlcblaaCall
set_option linter.unusedVariables false
set_option linter.unusedSimpArgs false
namespace Ev
open Go

/-! ### Freezing -/
theorem delK_some {R : Type} : ∀ {st : Store} {id : Nat} {K : Store → Option R} {r : R}, delK st id K = some r → ∃ st', K st' = some r ∧ look st' id = none ∧ (∀ i, i ≠ id → look st' i = look st i)
  | [], id, K, r, h => ⟨[], h, rfl, fun _ _ => rfl⟩
  | (i, b) :: st, id, K, r, h => by
    simp only [delK] at h
    cases hb : Nat.beq i id <;> simp only [hb, cond_true, cond_false] at h
    · obtain ⟨st', hk, h0, h1⟩ := delK_some h
      exact ⟨_, hk, by simp only [look, hb, cond_false, h0], fun j hj => by simp only [look, h1 j hj]⟩
    · have e := Nat.eq_of_beq_eq_true hb
      subst e
      obtain ⟨st', hk, h0, h1⟩ := delK_some h
      exact ⟨_, hk, h0, fun j hj => by rw [h1 j hj]; simp [look, beq_ne (Ne.symm hj)]⟩
/-- The ids of 'S' go; their blocks are stable ones. -/
def Rho.del (ρ : Rho) (id : Nat) : Rho := fun i => if i = id then none else ρ i
def frzF (ρ : Rho) (F : Nat → Prop) (id : Nat) : Nat → Prop := fun b => F b ∨ ∃ loc, ρ id = some loc ∧ loc.block = some b
theorem frz_wk {ρ : Rho} {F : Nat → Prop} {w : World} {st : Store} {id : Nat} {t : Ty} {l : List t.den} (H : Core ρ F st w) (hl : look st id = some (.rows t l)) :
    WkC ρ F w (ρ.del id) (frzF ρ F id) w (frzC id t l) := by
  have E : Ext (fun i => i = id) ρ F w (ρ.del id) (frzF ρ F id) w := ⟨fun i l hx h => by simp only [Rho.del, if_neg hx]; exact h, fun b h => .inl h, fun _ _ => rfl⟩
  intro v c r
  have go : ∀ v, frzC id t l v = scrubC id v → RelC ρ F w v c → RelC (ρ.del id) (frzF ρ F id) w (frzC id t l v) c := fun v e r => by rw [e]; exact scrub_wk E v c r
  cases v <;> try exact go _ rfl r
  case own i =>
    simp only [frzC]
    cases hb : Nat.beq i id
    · exact RelC.ext E (show ¬ i = id from fun e => by subst e; simp at hb) r
    · have e := Nat.eq_of_beq_eq_true hb
      subst e
      obtain ⟨t0, a, len, cap, hρ, e⟩ := r
      obtain ⟨rfl, h1, h2, h3⟩ := row_at H hρ hl
      refine ⟨a, cap, by rw [e, ← h1], by omega, ?_⟩
      by_cases hn : l = []
      · exact .inl hn
      rcases h3 with h3 | ⟨b, s, rfl, hat⟩
      · exact .inl h3
      · have : 0 < l.length := List.length_pos_iff.mpr hn
        exact .inr ⟨b, s, rfl, .inr ⟨_, hρ, by simp [Loc.block]; omega⟩, hat⟩
  case ownv i lo hi =>
    simp only [frzC]
    cases hb : Nat.beq i id
    · exact RelC.ext E (show ¬ i = id from fun e => by subst e; simp at hb) r
    · have e := Nat.eq_of_beq_eq_true hb
      subst e
      obtain ⟨t0, a, len, cap, hρ, g1, g2, g3, e⟩ := r
      obtain ⟨rfl, h1, h2, h3⟩ := row_at H hρ hl
      obtain ⟨a', cap', e', k1, k2⟩ := src_win (l := l) (cap := cap) g1 (by omega) (by omega) h3
      refine ⟨a', cap', by rw [e]; exact e', k1, ?_⟩
      rcases k2 with k2 | ⟨b, s, rfl, hat⟩
      · exact .inl k2
      · by_cases hn : (l.take hi).drop lo = []
        · exact .inl hn
        · right
          refine ⟨b, s, rfl, ?_, hat⟩
          have hpos : 0 < ((l.take hi).drop lo).length := List.length_pos_iff.mpr hn
          simp at hpos
          rcases h3 with rfl | ⟨b0, s0, rfl, _⟩
          · simp at hpos
          · simp only [Value.slice.injEq] at e'
            rw [if_neg (by omega)] at e'
            have := e'.1
            simp only [Option.map_some, addr_add, Option.some.injEq, Addr.mk.injEq] at this
            rw [← this.1]
            exact .inr ⟨_, hρ, by simp [Loc.block]; omega⟩
theorem frzC_agg {id : Nat} {t : Ty} {l : List t.den} {v : V} {cs : List V} (h : frzC id t l v = .agg cs) : False := by
  cases v <;> simp only [frzC] at h <;> try exact scrubC_agg h
  all_goals (revert h; cases Nat.beq _ id <;> exact fun h => nomatch h)
theorem frzC_tup {id : Nat} {t : Ty} {l : List t.den} {v : V} {cs : List V} (h : frzC id t l v = .tup cs) : False := by
  cases v <;> simp only [frzC] at h <;> try exact scrubC_tup h
  all_goals (revert h; cases Nat.beq _ id <;> exact fun h => nomatch h)
theorem frzT_rel {ρ : Rho} {F : Nat → Prop} {w : World} {st : Store} {id : Nat} {t : Ty} {l : List t.den} (H : Core ρ F st w) (hl : look st id = some (.rows t l)) {v : V} {c : Value} (r : RelT ρ F w v c) :
    RelT (ρ.del id) (frzF ρ F id) w (frzT id t l v) c := by
  refine (frz_wk H hl).toT (gA := frzA id t l) (fun _ => rfl) ?_ (fun _ => rfl) ?_ (fun _ _ => frzC_agg) (fun _ _ => frzC_tup) r
  · intro v hv; cases v <;> first | rfl | exact absurd rfl (hv _)
  · intro v hv; cases v <;> first | rfl | exact absurd rfl (hv _)
def frzBlk (id : Nat) (t : Ty) (l : List t.den) : Blk → Blk
  | .box cs => .box (cs.map (frzC id t l))
  | b => b
theorem look_frz (id : Nat) (t : Ty) (l : List t.den) : ∀ (σ : Store) (j : Nat), look (σ.map (frzB id t l)) j = (look σ j).map (frzBlk id t l)
  | [], j => rfl
  | (i, b) :: σ, j => by
    rw [List.map_cons]
    cases b <;> simp only [frzB, look] <;> cases Nat.beq i j <;> simp [look_frz id t l σ j, frzBlk]
/-- What freezing keeps. -/
structure Frozen (ρ : Rho) (F : Nat → Prop) (s : St) (w : World) (frz : List Nat) (ρ' : Rho) (F' : Nat → Prop) (s' : St) : Prop where
  core : Core ρ' F' s'.st w
  fr : ∀ t x, RelT ρ F w (get s.fr t) x → RelT ρ' F' w (get s'.fr t) x
  len : s'.fr.length = s.fr.length
  ids : ∀ id l, ρ' id = some l → ρ id = some l
  keep : ∀ id, id ∉ frz → ρ' id = ρ id
  stab : ∀ b, F b → F' b
  stab' : ∀ b, F' b → F b ∨ ρ.M b
  blk : ∀ id ∈ frz, ∀ loc b, ρ id = some loc → loc.block = some b → F' b
  gone : ∀ id ∈ frz, ρ' id = none
  dom : Dom ρ s.st → Dom ρ' s'.st
theorem frzC_idfree {id : Nat} {t : Ty} {l : List t.den} {v : V} (h : v.idfree = true) : frzC id t l v = v := by
  cases v <;> first | rfl | cases h
theorem frzAll_sound {R : Type} : ∀ {frz : List Nat} {s : St} {K : St → Option R} {r : R}, frzAll frz s K = some r →
    ∃ s', K s' = some r ∧ (∀ id, look s'.st id = none ↔ look s.st id = none ∨ id ∈ frz) ∧
      (∀ id cs', id ∉ frz → look s'.st id = some (.box cs') → ∃ cs, look s.st id = some (.box cs) ∧ (allB V.idfree cs = true → allB V.idfree cs' = true)) ∧ ∀ ρ F w, Core ρ F s.st w → (∀ b, ρ.M b → b < w.heap.size) → ∃ ρ' F', Frozen ρ F s w frz ρ' F' s' ∧ (frz = [] → ρ' = ρ ∧ F' = F ∧ s' = s)
  | [], s, K, r, h => ⟨s, h, fun _ => ⟨fun h => .inl h, fun h => by simpa using h⟩, fun _ cs _ h => ⟨cs, h, fun h => h⟩, fun ρ F w H _ => ⟨ρ, F, ⟨H, fun _ _ h => h, rfl, fun _ _ h => h, fun _ _ => rfl, fun _ h => h, fun _ h => .inl h, fun id hid => by simp at hid, fun id hid => by simp at hid, fun h => h⟩, fun _ => ⟨rfl, rfl, rfl⟩⟩⟩
  | id :: frz, s, K, r, h => by
    simp only [frzAll] at h
    split at h <;> try (cases h; done)
    · rename_i t l hl
      obtain ⟨st1, h, h0, h1⟩ := delK_some h
      obtain ⟨s', hk, i1, i2, ih⟩ := frzAll_sound h
      refine ⟨s', hk, fun i => ?_, fun i cs' hni hi => ?_, fun ρ F w H hM => ?_⟩
      · rw [i1 i, look_frz]
        by_cases e : i = id
        · subst e; simp [h0]
        · rw [h1 i e]
          cases hx : look s.st i <;> simp [e]
      · simp only [List.mem_cons, not_or] at hni
        obtain ⟨cs1, g1, g2⟩ := i2 i cs' hni.2 hi
        rw [look_frz] at g1
        cases hx : look st1 i with
        | none => simp [hx] at g1
        | some b1 =>
          simp [hx] at g1
          cases b1 with
          | rows t' l' => simp [frzBlk] at g1
          | box cs =>
            rw [h1 i hni.1] at hx
            simp [frzBlk] at g1
            refine ⟨cs, hx, fun hcs => g2 ?_⟩
            rw [← g1]
            refine allB_of fun v hv => ?_
            obtain ⟨u, hu, rfl⟩ := List.mem_map.mp hv
            rw [frzC_idfree (allB_get hcs u hu)]
            exact allB_get hcs u hu
      have hM1 : ∀ b, (ρ.del id).M b → ρ.M b := by
        rintro b ⟨i, l, hi, hb⟩
        unfold Rho.del at hi
        split at hi
        · cases hi
        · exact ⟨i, l, hi, hb⟩
      have old : ∀ i loc, ρ.del id i = some loc → ρ i = some loc ∧ i ≠ id := by
        intro i loc h
        unfold Rho.del at h
        split at h
        · cases h
        · exact ⟨h, by assumption⟩
      have H1 : Core (ρ.del id) (frzF ρ F id) (st1.map (frzB id t l)) w := by
        refine core_step (fun i => i = id) H (fun i loc b _ h1 h2 => rfl) (fun i loc _ h => (old i loc h).1) ?_ ?_ ?_ ?_
        · intro i b' hi g
          rw [look_frz, h1 i hi] at g
          cases hx : look s.st i with
          | none => simp [hx] at g
          | some b1 =>
            simp [hx] at g
            subst g
            refine ⟨b1, rfl, ?_⟩
            cases b1 with
            | rows t l => rfl
            | box cs =>
              refine ⟨by simp, fun j v v' g1 g2 c r => ?_⟩
              rw [List.getElem?_map, g1] at g2
              simp at g2; subst g2
              exact frz_wk H hl v c r
        · intro i loc blk hi g; subst hi; simp [Rho.del] at g
        · intro i j li lj b hi g; subst hi; simp [Rho.del] at g
        · rintro b (hb | ⟨loc, hρ, hb⟩)
          · exact ⟨(H.stable b hb).1, fun h => (H.stable b hb).2 (hM1 b h)⟩
          · refine ⟨hM b ⟨id, loc, hρ, hb⟩, ?_⟩
            rintro ⟨i, l', hi, hbi⟩
            obtain ⟨g1, g2⟩ := old i l' hi
            exact g2 (H.inj i id l' loc b g1 hρ hbi hb)
      obtain ⟨ρ', F', Z, _⟩ := ih (ρ.del id) (frzF ρ F id) w H1 (fun b h => hM b (hM1 b h))
      refine ⟨ρ', F', ⟨Z.core, fun t' x r => Z.fr t' x ?_, by rw [Z.len]; simp, fun i loc h => (old i loc (Z.ids i loc h)).1, ?_, fun b h => Z.stab b (.inl h), ?_, ?_, ?_, ?_⟩, fun e => by cases e⟩
      · simp only
        rw [get_map _ rfl]
        exact frzT_rel H hl r
      · intro i hi
        simp only [List.mem_cons, not_or] at hi
        rw [Z.keep i hi.2]
        simp [Rho.del, hi.1]
      · intro b hb
        rcases Z.stab' b hb with (hb | ⟨loc, hρ, hb⟩) | hb
        · exact .inl hb
        · exact .inr ⟨id, loc, hρ, hb⟩
        · exact .inr (hM1 b hb)
      · intro i hi loc b hρ hb
        by_cases e : i = id
        · subst e; exact Z.stab b (.inr ⟨loc, hρ, hb⟩)
        · have hi' : i ∈ frz := by simpa [e] using hi
          exact Z.blk i hi' loc b (by simp [Rho.del, e]; exact hρ) hb
      · intro i hi
        by_cases e : i = id
        · subst e
          cases hx : ρ' i with
          | none => rfl
          | some l => have := Z.ids i l hx; simp [Rho.del] at this
        · have hi' : i ∈ frz := by simpa [e] using hi
          exact Z.gone i hi'
      · intro hd
        refine Z.dom fun i loc h => ?_
        obtain ⟨g1, g2⟩ := old i loc h
        simp only
        rw [look_frz, h1 i g2]
        have := hd i loc g1
        cases hx : look s.st i with
        | none => exact absurd hx this
        | some b1 => simp
end Ev
