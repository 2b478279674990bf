/- Winds that fit a rose; dry shows. -/
import Derived.Test.YtpnlcamcnhpbhaaGreatBasin
set_option linter.unusedVariables false
set_option linter.unusedSimpArgs false
set_option maxRecDepth 100000
namespace Ev
open Go
theorem showI_true2 {s : ShowT} (h : ShowV s) : G12 (s, ()) = some (true, ()) := by rw [showI_is s h.ok, showB_of h]
theorem dry_is {s : ShowT} (h : ShowV s) (c : Box) (hc : isBx c = true) : G18 (s, c, ()) = some (dryB c (landL s), ()) := by
  have hl : (landL s).length ≤ 512 := by rw [landL_len]; exact throwsL_len h
  have g3 : G19 (s, c, ()) = some (wetL c (landL s), ()) := by
    unfold G19 F19
    simp only [es_show, boxI_is, hc, Option.bind_some, Bool.not_true, cond_false, landI_is h]
    exact wetI_loop c (landL s) (by omega) hc
  unfold G18 F18
  simp only [es_show, showI_true2 h, Option.bind_some, cond_true, boxI_is, hc, g3]
  unfold wetL
  rw [if_pos hc]
  have hw := wet_nil c (landL s) []
  have : decide ((Int.ofNat ((landL s).foldl (wetF c) []).length) = 0) = dryB c (landL s) := by
    unfold dryB
    rw [Bool.eq_iff_iff, decide_eq_true_eq]
    simp only [true_and] at hw
    rw [← hw]; simp
  rw [this]
theorem fit_at {r : List Place} {w : List Gust} (h : FitW r w) {t : Int} (ht : 0 ≤ t) : drL w t ∈ r := by
  obtain ⟨g, hg, h0⟩ := h.first
  cases w with
  | nil => simp at hg
  | cons a l =>
    simp at hg
    subst hg
    unfold drL
    rw [List.foldl_cons]
    have e : drF t ⟨0, 0⟩ a = a.Drift := by unfold drF; rw [if_pos (by omega)]
    rw [e]
    rcases drL_mem l t a.Drift with h1 | ⟨g, hg, _, h1⟩
    · rw [h1]; exact h.mem a (by simp)
    · rw [h1]; exact h.mem g (by simp [hg])
theorem scale_succ (n : Nat) (p : Place) : scale ((n + 1 : Nat) : Int) p = add (scale (n : Int) p) p := by
  unfold scale add
  exact place_ext (by simp only; rw [Int.natCast_add, Int.add_mul]; omega) (by simp only; rw [Int.natCast_add, Int.add_mul]; omega)
theorem dS_in {r : List Place} {C : Box} (hC : BoxP r C) {w : List Gust} (hf : ∀ t : Int, 0 ≤ t → drL w t ∈ r) {a : Int} (ha : 0 ≤ a) : ∀ n : Nat, ((scale (n : Int) C.Low).X ≤ (dS w a n).X ∧ (dS w a n).X ≤ (scale (n : Int) C.High).X) ∧ (scale (n : Int) C.Low).Y ≤ (dS w a n).Y ∧ (dS w a n).Y ≤ (scale (n : Int) C.High).Y
  | 0 => by simp [scale, dS]
  | n + 1 => by
    have ih := dS_in hC hf ha n
    have hm := hC.inn _ (hf (a + (n : Int)) (by omega))
    rw [scale_succ, scale_succ]
    unfold dS
    simp only [add]
    omega
theorem land_memW {w : List Gust} {d : Drop} : ∀ (l : List Throw) (a : List Drop), d ∈ l.foldl (allF w) a → d ∈ a ∨ ∃ x ∈ l, d = dropV w x (fl x.jet).toNat
  | [], a, h => .inl h
  | y :: l, a, h => by
    rw [List.foldl_cons] at h
    rcases land_memW l _ h with h | ⟨x, hx, e⟩
    · unfold allF at h
      rcases List.mem_append.mp h with h | h
      · exact .inl h
      · rw [List.mem_singleton] at h
        exact .inr ⟨y, by simp, h⟩
    · exact .inr ⟨x, by simp [hx], e⟩
theorem id_keeps : Keeps (fun d => d) := ⟨fun _ => rfl, fun _ => rfl, fun _ => rfl, fun _ => rfl⟩
def wS (w : List Gust) (s : ShowT) : ShowT := (s.1, s.2.1, w, s.2.2.2.1, ())
theorem wS_throws {s : ShowT} (h : ShowV s) (w : List Gust) : throwsL (wS w s) = throwsL s := by
  have := throws_map h id_keeps w (fun j => j) (fun d hd hk x => rfl)
  rw [List.map_id'] at this
  refine this.trans ?_
  have e : mvT (fun j => j) = fun x => x := by funext x; rfl
  rw [e, List.map_id']
theorem wS_valid {s : ShowT} (h : ShowV s) {w : List Gust} (hw : WindP w) : ShowV (wS w s) := show_valid h.rig (score_p h) hw h.tick
theorem safe_dry' {s : ShowT} (h : ShowV s) {r : List Place} {C : Box} (hC1 : BoxP r C) {w : List Gust} (hf : FitW r w) {c : Box} (hc : isBx c = true) (hs : SafeP C s c) : dryB c (landL (wS w s)) = true := by
  unfold dryB
  rw [List.all_eq_true]
  intro d hd
  rcases land_memW (throwsL (wS w s)) [] hd with h0 | ⟨x, hx, e⟩
  · cases h0
  · rw [wS_throws h] at hx
    have hfl := throws_fly h hx
    have hb := fl_bound x.jet
    have hn : (((fl x.jet).toNat : Nat) : Int) = fl x.jet := by omega
    have e : d = dropV w x (fl x.jet).toNat := e
    have ed := (drop_at (wind_sm hf.wind) hfl (n := (fl x.jet).toNat) (by omega)).1
    have hin := dS_in hC1 (fun t ht => fit_at hf ht) hfl.born.1 (fl x.jet).toNat
    obtain ⟨s1, s2⟩ := hs x hx
    rw [inBx_iff hc, e, ed]
    unfold InP lbE at *
    rw [hn] at hin
    simp only [add] at *
    rw [hn]
    omega
theorem land_ofW {w : List Gust} {x : Throw} : ∀ (l : List Throw) (a : List Drop), (dropV w x (fl x.jet).toNat ∈ a ∨ x ∈ l) → dropV w x (fl x.jet).toNat ∈ l.foldl (allF w) a
  | [], a, h => by
    rcases h with h | h
    · exact h
    · cases h
  | y :: l, a, h => by
    rw [List.foldl_cons]
    refine land_ofW l _ ?_
    unfold allF
    rcases h with h | h
    · exact .inl (List.mem_append_left _ h)
    · rcases List.mem_cons.mp h with rfl | h
      · exact .inl (by simp)
      · exact .inr h
end Ev
