/- Shows of any kind that are drawn. -/
import Derived.Test.YtpnlcamcnhpbhaaGreatDoorDrawA
set_option linter.unusedVariables false
set_option linter.unusedSimpArgs false
set_option maxRecDepth 100000
namespace Ev
open Go
theorem any2_v {b : List Int} (hb : b.length ≤ 1099511627776) {i h : Int} (hi : 0 ≤ i) : wp (G192 ((b, i, h, ()), ())) (CurP b fun _ => True) := by
  unfold G192 F192
  refine wp_cur (place2_w hb hi) fun i1 h1 x1 p1 q1 => ?_
  refine wp_cur (once_w hb p1 (by omega)) fun i2 h2 x2 p2 q2 => ?_
  refine wp_cond (fun _ => ?_) fun _ => ?_
  · refine wp_cur (odd_w hb p2) fun i3 h3 x3 p3 q3 => ?_
    refine wp_cur (once_w hb p3 (by omega)) fun i4 h4 x4 p4 q4 => ?_
    refine wp_cond (fun _ => ?_) fun _ => wp_ret p4 trivial
    exact wp_cur (int_w hb p4 (by simp)) fun i5 h5 x5 p5 q5 => wp_ret p5 trivial
  · refine wp_cur (once_w hb p2 (by omega)) fun i4 h4 x4 p4 q4 => ?_
    refine wp_cond (fun _ => ?_) fun _ => wp_ret p4 trivial
    exact wp_cur (int_w hb p4 (by simp)) fun i5 h5 x5 p5 q5 => wp_ret p5 trivial
theorem any3_v {b : List Int} (hb : b.length ≤ 1099511627776) {i h : Int} (hi : 0 ≤ i) : wp (G194 ((b, i, h, ()), ())) (CurP b fun _ => True) := by
  unfold G194 F194
  refine wp_cur (jet_w hb hi) fun i1 h1 x1 p1 q1 => ?_
  repeat' first
    | (with_reducible refine wp_cond (fun _ => ?_) (fun _ => ?_))
    | with_reducible exact wp_ret (by assumption) trivial
    | (with_reducible refine wp_cur (below_w (by assumption) (by assumption) (by omega)) ?_; intro i h v hi hv)
    | (with_reducible refine wp_cur (odd_w (by assumption) (by assumption)) ?_; intro i h v hi hv)
    | (with_reducible refine wp_cur (any2_v (by assumption) (by assumption)) ?_; intro i h v hi hv)
    | (with_reducible refine wp_cur (int_w (by assumption) (by assumption) (by simp)) ?_; intro i h v hi hv)
theorem any6_v {b : List Int} (hb : b.length ≤ 1099511627776) {i h : Int} (hi : 0 ≤ i) : wp (G155 ((b, i, h, ()), ())) (CurP b fun d => d.Name.length ≤ 9 ∧ d.Line.length ≤ 9) := by
  unfold G155 F155
  refine wp_cur (name6_w hb hi) fun i1 h1 x1 p1 q1 => ?_
  refine wp_cur (name6_w hb p1) fun i2 h2 x2 p2 q2 => ?_
  refine wp_cur (nozzle_w hb p2) fun i3 h3 x3 p3 q3 => ?_
  have r1 : x3.Name.length ≤ 9 := by rw [q3.1]; exact q1
  have r2 : x3.Line.length ≤ 9 := by rw [q3.2.2.1]; exact q2
  repeat' first
    | (with_reducible refine wp_cond (fun _ => ?_) (fun _ => ?_))
    | (with_reducible refine wp_cur (name6_w (by assumption) (by assumption)) ?_; intro i h v hi hv)
    | (with_reducible refine wp_cur (word_w (by assumption) (by assumption)) ?_; intro i h v hi hv)
    | (with_reducible refine wp_cur (below_w (by assumption) (by assumption) (by omega)) ?_; intro i h v hi hv)
    | (with_reducible refine wp_cur (odd_w (by assumption) (by assumption)) ?_; intro i h v hi hv)
    | (with_reducible refine wp_cur (any2_v (by assumption) (by assumption)) ?_; intro i h v hi hv)
    | (with_reducible refine wp_cur (any3_v (by assumption) (by assumption)) ?_; intro i h v hi hv)
    | (with_reducible refine wp_cur (int_w (by assumption) (by assumption) (by simp)) ?_; intro i h v hi hv)
    | exact wp_ret (by assumption) ⟨by first | assumption | exact Nat.zero_le _, by first | assumption | exact Nat.zero_le _⟩
def DevsA (l : List Device) : Prop := l.length ≤ 20 ∧ DevsOK l
def CuesA (l : List Cue) : Prop := l.length ≤ 20 ∧ NamesOK l
theorem list6_w {b : List Int} (hb : b.length ≤ 1099511627776) {i h : Int} (hi : 0 ≤ i) : wp (G118 ((b, i, h, ()), ())) (CurP b DevsA) := by
  unfold G118 F118
  refine wp_cur (rig_w hb hi) fun i1 h1 l p1 q1 => ?_
  have hl := q1.1.len
  have hd := rig_devs q1.1
  refine wp_cur (below_w hb p1 (by omega)) fun i2 h2 x2 p2 q2 => ?_
  refine wp_cond (fun _ => ?_) fun _ => ?_
  · refine wp_cur (any6_v hb p2) fun i3 h3 d p3 q3 => ?_
    refine wp_cap (by simp; omega) (wp_ret p3 ⟨by simp; omega, fun e he => ?_⟩)
    rcases List.mem_append.mp he with he | he
    · exact hd e he
    · rw [List.mem_singleton] at he
      have q3a : d.Name.length ≤ 9 := q3.1
      have q3b : d.Line.length ≤ 9 := q3.2
      rw [he]
      exact ⟨by show d.Name.length ≤ _; omega, by show d.Line.length ≤ _; omega⟩
  refine wp_cond (fun _ => ?_) fun _ => ?_
  · refine wp_okIf ⟨by omega, by have := q1.2.1; show (1 : Int) ≤ (l.length : Int); omega⟩ (wp_ret p2 ⟨by simp; omega, fun e he => hd e (List.mem_of_mem_drop he)⟩)
  refine wp_cond (fun _ => ?_) fun _ => wp_ret p2 ⟨by show l.length ≤ 20; omega, hd⟩
  generalize hss : ([[115], [116], [117], [118], [119], [120]] : List Str) = ss
  have hsl : ss.length = 6 := by rw [← hss]; rfl
  have hsm : ∀ x ∈ ss, x.length ≤ 9 := fun x hx => by
    have := List.all_eq_true.mp (show List.all ([[115], [116], [117], [118], [119], [120]] : List Str) (fun x : Str => decide (x.length ≤ 9)) = true from by decide) x (by rw [hss]; exact hx)
    simpa using this
  refine wp_iter ss.length (fun j t => ∃ (k : Nat) (l : List Device), t = ((b, i2, h2, ()), l, ss, Int.ofNat ss.length, (k : Int), ()) ∧ k + j = ss.length ∧ l.length ≤ 8 + k ∧ DevsOK l) (by omega) ⟨0, l, rfl, by omega, by omega, hd⟩ ?_
  rintro j _ ⟨k, l, rfl, hkj, hlk, hdl⟩ rec hrec
  simp only [s118_1]
  by_cases hk : k < ss.length
  · have hx : ss[k]? = some ss[k] := by simp
    have hx' := fun (K : Str → Option (Cur × List Device × Unit)) => rdL_at (K := K) hx
    have e1 : w64 ((k : Int) + 1) = ((k + 1 : Nat) : Int) := w64_id (by omega) (by omega)
    have hsk := hsm ss[k] (by simp)
    rw [cond_true_dec (by simp; omega)]
    simp only [hx', hx, Int.toNat_natCast, Option.bind_some, e1]
    refine wp_cap (by simp; omega) (hrec (j - 1) _ (by omega) ⟨k + 1, _, rfl, by omega, by simp; omega, fun e he => ?_⟩)
    rcases List.mem_append.mp he with he | he
    · exact hdl e he
    · rw [List.mem_singleton] at he
      rw [he]
      exact ⟨by show ss[k].length ≤ _; omega, by show ([] : Str).length ≤ _; simp⟩
  · rw [cond_false_dec (by simp; omega)]
    exact wp_ret p2 ⟨by show l.length ≤ 20; omega, hdl⟩
theorem any7_w {b : List Int} (hb : b.length ≤ 1099511627776) {i h : Int} (hi : 0 ≤ i) : wp (G157 ((b, i, h, ()), ())) (CurP b fun c => c.Name.length ≤ 9) := by
  unfold G157 F157
  refine wp_cur (cue_w hb hi) fun i1 h1 x1 p1 q1 => ?_
  have hx1 : x1.Name.length ≤ 9 := q1.2.1
  refine wp_cur (below_w hb p1 (by omega)) fun i2 h2 x2 p2 q2 => ?_
  refine wp_cond (fun _ => wp_cur (odd_w hb p2) fun i3 h3 x3 p3 q3 => wp_ret p3 hx1) fun _ => ?_
  refine wp_cond (fun _ => wp_cur (word_w hb p2) fun i3 h3 x3 p3 q3 => wp_ret p3 q3) fun _ => ?_
  refine wp_cond (fun _ => wp_cur (int_w hb p2 (by simp)) fun i3 h3 x3 p3 q3 => wp_ret p3 hx1) fun _ => ?_
  exact wp_cond (fun _ => wp_cur (odd_w hb p2) fun i3 h3 x3 p3 q3 => wp_ret p3 hx1) fun _ => wp_ret p2 hx1
theorem list7_w {b : List Int} (hb : b.length ≤ 1099511627776) {i h : Int} (hi : 0 ≤ i) : wp (G119 ((b, i, h, ()), ())) (CurP b CuesA) := by
  unfold G119 F119
  refine wp_cur (score_w hb hi (by omega)) fun i1 h1 l p1 q1 => ?_
  have hl := q1.1.len
  have hd := score_names q1.1
  refine wp_cur (below_w hb p1 (by omega)) fun i2 h2 x2 p2 q2 => ?_
  refine wp_cond (fun _ => ?_) fun _ => ?_
  · refine wp_cur (any7_w hb p2) fun i3 h3 d p3 q3 => ?_
    have q3 : d.Name.length ≤ 9 := q3
    refine wp_cap (by simp; omega) (wp_ret p3 ⟨by simp; omega, fun e he => ?_⟩)
    rcases List.mem_append.mp he with he | he
    · exact hd e he
    · rw [List.mem_singleton] at he
      rw [he]
      show d.Name.length ≤ _
      omega
  refine wp_cond (fun _ => ?_) fun _ => wp_ret p2 ⟨by show l.length ≤ 20; omega, hd⟩
  refine wp_loop 20 (fun j t => ∃ (k : Nat) (l : List Cue), t = ((b, i2, h2, ()), l, (k : Int), ()) ∧ k + j = 20 ∧ l.length ≤ 13 ∧ k ≤ l.length ∧ NamesOK l) (fun t => ∃ (k : Int) (l : List Cue), t = ((b, i2, h2, ()), l, k, ()) ∧ l.length = 13 ∧ NamesOK l) (by omega) ⟨0, l, rfl, by omega, by omega, by omega, hd⟩ ?_ ?_
  · rintro j _ ⟨k, l, rfl, hkj, hlk, hkl, hdl⟩ rec K hrec hK
    simp only [s119_1]
    by_cases hk : l.length < 13
    · have e1 : w64 ((k : Int) + 1) = ((k + 1 : Nat) : Int) := w64_id (by omega) (by omega)
      rw [cond_true_dec (by simp only [Int.ofNat_eq_natCast]; omega), e1]
      refine wp_cap (by simp; omega) (hrec (j - 1) _ (by omega) ⟨k + 1, _, rfl, by omega, by simp; omega, by simp; omega, fun e he => ?_⟩)
      rcases List.mem_append.mp he with he | he
      · exact hdl e he
      · rw [List.mem_singleton] at he
        rw [he]
        show ([97] : Str).length ≤ _
        simp
    · rw [cond_false_dec (by simp only [Int.ofNat_eq_natCast]; omega)]
      exact hK _ ⟨_, l, rfl, by omega, hdl⟩
  · rintro _ ⟨k, l, rfl, hl13, hdl⟩
    refine wp_cur (int_w hb p2 (by simp)) fun i3 h3 x3 p3 q3 => ?_
    have q3 : x3 = 12 ∨ x3 = 13 := by simpa using q3
    refine wp_okIf ⟨by show (0 : Int) ≤ x3; omega, by show x3 ≤ (l.length : Int); omega⟩ (wp_ret p3 ⟨by simp; omega, fun e he => hdl e (List.mem_of_mem_take he)⟩)
theorem any4_w {b : List Int} (hb : b.length ≤ 1099511627776) {i h : Int} (hi : 0 ≤ i) : wp (G120 ((b, i, h, ()), ())) (CurP b fun l => l.length ≤ 20) := by
  unfold G120 F120
  refine wp_cur (wind_w hb hi) fun i1 h1 l p1 q1 => ?_
  have hl := q1.len
  refine wp_cur (below_w hb p1 (by omega)) fun i2 h2 x2 p2 q2 => ?_
  refine wp_cond (fun _ => ?_) fun _ => ?_
  · refine wp_cur (odd_w hb p2) fun i3 h3 d p3 q3 => ?_
    exact wp_cur (drift_w hb p3) fun i4 h4 x4 p4 q4 => wp_cap (by simp; omega) (wp_ret p4 (by simp; omega))
  refine wp_cond (fun _ => ?_) fun _ => ?_
  · exact wp_cur (int_w hb p2 (by simp)) fun i4 h4 x4 p4 q4 => wp_cap (by simp; omega) (wp_ret p4 (by simp; omega))
  refine wp_cond (fun _ => ?_) fun _ => wp_ret p2 (by show l.length ≤ 20; omega)
  refine wp_loop 20 (fun j t => ∃ (c : Cur) (l : List Gust), t = (c, l, Int.ofNat l.length, ()) ∧ curOK b c ∧ l.length + j ≤ 28 ∧ l.length ≤ 9 ∧ 9 ≤ l.length + j) (fun t => ∃ (c : Cur) (k : Int) (l : List Gust), t = (c, l, k, ()) ∧ curOK b c ∧ l.length = 9) (by omega) ⟨_, l, rfl, ⟨i2, h2, rfl, p2⟩, by omega, by omega, by omega⟩ ?_ ?_
  · rintro j _ ⟨_, l, rfl, ⟨i3, h3, rfl, p3⟩, hj1, hj2, hj3⟩ rec K hrec hK
    simp only [s120_1]
    by_cases hk : l.length < 9
    · rw [cond_true_dec (by simp only [Int.ofNat_eq_natCast]; omega)]
      refine wp_cur (drift_w hb p3) fun i4 h4 x4 p4 q4 => ?_
      refine wp_cap (by simp; omega) ?_
      have e1 : w64 (Int.ofNat l.length + 1) = ((l.length + 1 : Nat) : Int) := w64_id (by simp only [Int.ofNat_eq_natCast]; omega) (by simp only [Int.ofNat_eq_natCast]; omega)
      simp only [e1]
      generalize (⟨w64 (50 + Int.ofNat l.length), ⟨x4.X, x4.Y⟩⟩ : Gust) = g
      refine hrec (j - 1) _ (by omega) ⟨_, l ++ [g], ?_, ⟨i4, h4, rfl, p4⟩, by simp; omega, by simp; omega, by simp; omega⟩
      rw [List.length_append]
      rfl
    · rw [cond_false_dec (by simp only [Int.ofNat_eq_natCast]; omega)]
      exact hK _ ⟨_, _, l, rfl, ⟨i3, h3, rfl, p3⟩, by omega⟩
  · rintro _ ⟨_, k, l, rfl, ⟨i3, h3, rfl, p3⟩, hl9⟩
    refine wp_cur (int_w hb p3 (by simp)) fun i4 h4 x4 p4 q4 => ?_
    have q4 : x4 = 8 ∨ x4 = 9 := by simpa using q4
    exact wp_okIf ⟨by show (0 : Int) ≤ x4; omega, by show x4 ≤ (l.length : Int); omega⟩ (wp_ret p4 (by simp; omega))
theorem showA {l : List Device} {sc : List Cue} {w : List Gust} {T : Int} (h1 : DevsA l) (h2 : CuesA sc) (h3 : w.length ≤ 20) : ShowOK (l, sc, w, T, ()) := by
  obtain ⟨a1, a2⟩ := h1
  obtain ⟨b1, b2⟩ := h2
  constructor
  all_goals first
    | exact a2
    | exact b2
    | (show l.length ≤ 1048576; omega)
    | (show sc.length ≤ 1048576; omega)
    | (show w.length ≤ 1048576; omega)
theorem any9_w {b : List Int} (hb : b.length ≤ 1099511627776) {i h : Int} (hi : 0 ≤ i) : wp (G86 ((b, i, h, ()), ())) (CurP b fun s : ShowT => ShowOK s) := by
  have tail : ∀ (i h : Int), 0 ≤ i → ∀ (L : List Device) (S : List Cue) (W : List Gust) (T : Int), DevsA L → CuesA S → W.length ≤ 20 →
      wp (cond (decide (T > 20)) ((G121 ((b, i, h, ()), ([20, 64, 65] : List Int), ())).bind fun x4 => (G122 (2, (Int.ofNat (List.length S)), ())).bind fun x5 => okIf (0 ≤ x5.1 ∧ x5.1 ≤ List.length S) (some ((x4.1.1, x4.1.2.1, x4.1.2.2.1, ()), (L, (List.take (Int.toNat x5.1) S), W, x4.2.1, ()), ()))) (some ((b, i, h, ()), (L, S, W, T, ()), ()))) (CurP b fun s : ShowT => ShowOK s) := fun i h hi L S W T h1 h2 h3 => by
    refine wp_cond (fun _ => ?_) fun _ => wp_ret hi (showA h1 h2 h3)
    refine wp_cur (int_w hb hi (by simp)) fun i4 h4 x4 p4 q4 => ?_
    have hm : G122 (2, (Int.ofNat (List.length S)), ()) = some (mn 2 (Int.ofNat S.length), ()) := min_is _ _
    have hle := mn_le 2 (Int.ofNat S.length)
    simp only [hm, Option.bind_some]
    simp only [Int.ofNat_eq_natCast] at hle ⊢
    refine wp_okIf ⟨by omega, by omega⟩ (wp_ret p4 (showA h1 ⟨by have := h2.1; simp; omega, fun e he => h2.2 e (List.mem_of_mem_take he)⟩ h3))
  unfold G86 F86
  refine wp_cur (show_w hb hi) fun i1 h1 s p1 q1 => ?_
  have hv := q1.1
  have d0 : DevsA s.1 := ⟨by have := hv.rig.len; omega, rig_devs hv.rig⟩
  have c0 : CuesA s.2.1 := ⟨by have := (score_p hv).len; omega, score_names (score_p hv)⟩
  have w0 : s.2.2.1.length ≤ 20 := by have := (wind_p hv).len; omega
  refine wp_cur (below_w hb p1 (by omega)) fun i2 h2 x2 p2 q2 => ?_
  refine wp_cond (fun _ => wp_cur (odd_w hb p2) fun i3 h3 T p3 q3 => tail i3 h3 p3 s.1 s.2.1 s.2.2.1 T d0 c0 w0) fun _ => ?_
  refine wp_cond (fun _ => wp_cur (list6_w hb p2) fun i3 h3 L p3 q3 => tail i3 h3 p3 L s.2.1 s.2.2.1 s.2.2.2.1 q3 c0 w0) fun _ => ?_
  refine wp_cond (fun _ => wp_cur (list7_w hb p2) fun i3 h3 L p3 q3 => tail i3 h3 p3 s.1 L s.2.2.1 s.2.2.2.1 d0 q3 w0) fun _ => ?_
  refine wp_cond (fun _ => wp_cur (any4_w hb p2) fun i3 h3 L p3 q3 => tail i3 h3 p3 s.1 s.2.1 L s.2.2.2.1 d0 c0 q3) fun _ => ?_
  exact tail i2 h2 p2 s.1 s.2.1 s.2.2.1 s.2.2.2.1 d0 c0 w0
end Ev
