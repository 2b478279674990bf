/- What is drawn for dry shows. -/
import Derived.Test.YtpnlcamcnhpbhaaGreatFit
import Derived.Test.YtpnlcamcnhpbhaaGreatAnyShow
set_option linter.unusedVariables false
set_option linter.unusedSimpArgs false
set_option maxRecDepth 100000
namespace Ev
open Go
theorem boxS_w (l : List Place) (hl : l.length ≤ 1048576) : wp (G46 (l, ())) fun _ => True := by
  unfold G46 F46
  refine wp_iter l.length (fun j t => ∃ (k : Nat) (b : Box), t = (l, (⟨⟨0, 0⟩, ⟨0, 0⟩⟩ : Box), b, l, Int.ofNat l.length, (k : Int), ()) ∧ k + j = l.length) (by omega) ⟨0, _, rfl, by omega⟩ ?_
  rintro j _ ⟨k, b, rfl, hkj⟩ rec hrec
  simp only [s46_0]
  by_cases hk : k < l.length
  · have hx : l[k]? = some l[k] := by simp
    have hx' := fun (K : Place → Option (Box × Bool × Unit)) => rdL_at (K := K) hx
    have e1 : w64 ((k : Int) + 1) = ((k + 1 : Nat) : Int) := w64_id (by omega) (by omega)
    rw [cond_true_dec (by simp; omega)]
    simp only [hx', hx, Int.toNat_natCast, placeS, min_is, max_is, Option.bind_some, e1]
    refine wp_cond (fun _ => wp_some trivial) fun _ => ?_
    exact wp_cond (fun _ => hrec (j - 1) _ (by omega) ⟨k + 1, _, rfl, by omega⟩) fun _ => hrec (j - 1) _ (by omega) ⟨k + 1, _, rfl, by omega⟩
  · rw [cond_false_dec (by simp; omega)]
    exact wp_some trivial
theorem drawDry_w {b : List Int} (hb : b.length ≤ 4096) : wp (G15 (b, ())) (fun r => ShowOK r.1) := by
  have hb' : b.length ≤ 1099511627776 := by omega
  unfold G15 F15
  refine wp_bind (new_w hb) ?_
  rintro _ ⟨h, rfl⟩
  refine wp_cur (any9_w hb' (Int.le_refl 0)) fun i1 h1 s p1 q1 => ?_
  have q1 : ShowOK s := q1
  obtain ⟨L, l1, _, l3⟩ := land_ok s q1
  simp only [es_show, l1, Option.bind_some]
  refine wp_loop L.length (fun j t => ∃ (k : Nat) (ps : List Place), t = (([], [], [], 0, ()), (⟨⟨0, 0⟩, ⟨0, 0⟩⟩ : Box), (b, i1, h1, ()), s, ps, L, Int.ofNat L.length, (k : Int), ()) ∧ k + j = L.length ∧ ps.length = k)
    (fun t => ∃ (k : Int) (ps : List Place), t = (([], [], [], 0, ()), (⟨⟨0, 0⟩, ⟨0, 0⟩⟩ : Box), (b, i1, h1, ()), s, ps, L, Int.ofNat L.length, k, ()) ∧ ps.length ≤ 512) (by omega) ⟨0, [], rfl, by omega, rfl⟩ ?_ ?_
  · rintro j _ ⟨k, ps, rfl, hkj, hps⟩ rec K hrec hK
    simp only [s15_0, es_show]
    by_cases hk : k < L.length
    · have hx : L[k]? = some L[k] := by simp
      have hx' := fun (K : Drop → Option (ShowT × Box × Unit)) => rdL_at (K := K) hx
      have e1 : w64 ((k : Int) + 1) = ((k + 1 : Nat) : Int) := w64_id (by omega) (by omega)
      rw [cond_true_dec (by simp; omega)]
      simp only [hx', hx, Int.toNat_natCast, Option.bind_some, e1]
      exact wp_cap (by simp; omega) (hrec (j - 1) _ (by omega) ⟨k + 1, _, rfl, by omega, by simp; omega⟩)
    · rw [cond_false_dec (by simp; omega)]
      exact hK _ ⟨_, ps, rfl, by omega⟩
  · rintro _ ⟨k, ps, rfl, hps⟩
    obtain ⟨⟨B, v, u⟩, e, _⟩ := boxS_w ps (by omega)
    simp only [es_show, e, Option.bind_some]
    refine wp_cond (fun _ => ?_) fun _ => ?_
    · refine wp_cur (once_w hb' p1 (by omega)) fun i2 h2 x2 p2 q2 => ?_
      refine wp_cond (fun _ => ?_) fun _ => ?_
      · refine wp_cur (basin_w hb' p2) fun i3 h3 x3 p3 q3 => ?_
        refine wp_cur (once_w hb' p3 (by omega)) fun i4 h4 x4 p4 q4 => ?_
        exact wp_cond (fun _ => wp_some q1) fun _ => wp_some q1
      · refine wp_cur (once_w hb' p2 (by omega)) fun i4 h4 x4 p4 q4 => ?_
        exact wp_cond (fun _ => wp_some q1) fun _ => wp_some q1
    · refine wp_cur (basin_w hb' p1) fun i3 h3 x3 p3 q3 => ?_
      refine wp_cur (once_w hb' p3 (by omega)) fun i4 h4 x4 p4 q4 => ?_
      exact wp_cond (fun _ => wp_some q1) fun _ => wp_some q1
theorem wetD_is {s : ShowT} (h : ShowV s) {c : Box} (hc : isBx c = true) : G19 (s, c, ()) = some (wetL c (landL s), ()) := by
  have hl : (landL s).length ≤ 512 := by rw [landL_len]; exact throwsL_len h
  unfold G19 F19
  simp only [es_show, boxI_is, hc, Option.bind_some, Bool.not_true, cond_false, landI_is h]
  exact wetI_loop c (landL s) (by omega) hc
theorem wet_mem (c : Box) : ∀ (l a : List Drop), (∀ d ∈ a, inBx c d.At = false) → ∀ d ∈ l.foldl (wetF c) a, inBx c d.At = false
  | [], a, h => h
  | x :: l, a, h => by
    rw [List.foldl_cons]
    refine wet_mem c l _ ?_
    unfold wetF
    cases hx : inBx c x.At
    · simp only [Bool.false_eq_true, if_false]
      intro d hd
      rcases List.mem_append.mp hd with hd | hd
      · exact h d hd
      · rw [List.mem_singleton] at hd
        rw [hd]; exact hx
    · simp only [if_true]
      exact h
end Ev
