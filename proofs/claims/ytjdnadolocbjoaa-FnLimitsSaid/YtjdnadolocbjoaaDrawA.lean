/- What the draws of numbers and of tracks yield. What is drawn: rigs, winds, scores and shows that are valid. -/
import Derived.Test.YtjdnadolocbjoaaAbb
import Derived.Test.YtjdnadolocbjoaaBaseA
import Derived.Test.YtjdnadolocbjoaaSumA
set_option linter.unusedVariables false
set_option linter.unusedSimpArgs false
set_option maxRecDepth 100000
namespace Ev
open Go
theorem and_255 (a : Int) : 0 ≤ bitsOp .and .i64 a 255 ∧ bitsOp .and .i64 a 255 ≤ 255 := by
  have h : (BitVec.ofInt IntKind.i64.bits a &&& BitVec.ofInt IntKind.i64.bits 255).toNat ≤ 255 := by
    rw [BitVec.toNat_and]; exact Nat.le_trans Nat.and_le_right (by decide)
  have e : bitsOp .and .i64 a 255 = w64 ((BitVec.ofInt IntKind.i64.bits a &&& BitVec.ofInt IntKind.i64.bits 255).toNat : Int) := rfl
  rw [e, w64_id (by omega) (by omega)]
  omega
theorem byte_ok (b : List Int) (hb : b.length ≤ 1099511627776) (i h : Int) (hi : 0 ≤ i) : ∃ i' h' x, F137 ((b, i, h, ()), ()) = some ((b, i', h', ()), x, ()) ∧ 0 ≤ i' ∧ 0 ≤ x ∧ x ≤ 255 := by
  unfold F137
  by_cases hc : i < Int.ofNat b.length
  · rw [cond_true_dec hc]
    obtain ⟨k, rfl⟩ := Int.eq_ofNat_of_zero_le hi
    have hk : k < b.length := by simpa using hc
    have hx : b[k]? = some b[k] := by simp
    simp only []
    rw [rdL_at hx]
    refine ⟨_, _, _, rfl, ?_, and_255 _⟩
    rw [w64_id (by omega) (by omega)]; omega
  · rw [cond_false_dec hc]
    exact ⟨_, _, _, rfl, hi, and_255 _⟩
noncomputable abbrev fB := F77 F137
theorem below_ok (b : List Int) (hb : b.length ≤ 1099511627776) (i h : Int) (hi : 0 ≤ i) (n : Int) (h0 : 0 < n) (h1 : n ≤ 256) : ∃ i' h' x, fB ((b, i, h, ()), n, ()) = some ((b, i', h', ()), x, ()) ∧ 0 ≤ i' ∧ 0 ≤ x ∧ x < n := by
  obtain ⟨i', h', x, e, hi', hx0, hx1⟩ := byte_ok b hb i h hi
  refine ⟨i', h', Int.tmod x n, ?_, hi', Int.tmod_nonneg n hx0, Int.tmod_lt_of_pos x h0⟩
  unfold fB F77
  dsimp only
  rw [cond_false_dec (by omega), cond_true_dec (by omega)]
  simp only [e, Option.bind_some]
  rw [cond_false_dec (by omega)]
noncomputable abbrev fI := F124 fB
theorem int_ok (b : List Int) (hb : b.length ≤ 1099511627776) (i h : Int) (hi : 0 ≤ i) (l : List Int) (h0 : 0 < l.length) (h1 : l.length ≤ 256) : ∃ i' h' x, fI ((b, i, h, ()), l, ()) = some ((b, i', h', ()), x, ()) ∧ 0 ≤ i' ∧ x ∈ l := by
  obtain ⟨i', h', x, e, hi', hx0, hx1⟩ := below_ok b hb i h hi (Int.ofNat l.length) (by simp; omega) (by simp; omega)
  obtain ⟨k, rfl⟩ := Int.eq_ofNat_of_zero_le hx0
  have hk : k < l.length := by simpa using hx1
  have hx : l[k]? = some l[k] := by simp
  refine ⟨i', h', l[k], ?_, hi', by simp⟩
  unfold fI F124
  simp only [e, Option.bind_some]
  rw [rdL_at hx]
noncomputable abbrev fO := F56 fB
theorem once_ok (b : List Int) (hb : b.length ≤ 1099511627776) (i h : Int) (hi : 0 ≤ i) (n : Int) (h0 : 0 < n) (h1 : n ≤ 256) : ∃ i' h' x, fO ((b, i, h, ()), n, ()) = some ((b, i', h', ()), x, ()) ∧ 0 ≤ i' := by
  obtain ⟨i', h', x, e, hi', hx0, hx1⟩ := below_ok b hb i h hi n h0 h1
  refine ⟨i', h', decide (x = 0), ?_, hi'⟩
  unfold fO F56
  simp only [e, Option.bind_some]
theorem new_ok (b : List Int) (hb : b.length ≤ 4096) : ∃ h, F48 (b, ()) = some ((b, 0, h, ()), ()) := by
  unfold F48
  rcases iterF_rule (f := s48_0) (K := fun t3 => some ((t3.1, 0, t3.2.1, ()), ())) (t := (b, w64 (620033 + w64 (3 * Int.ofNat b.length)), 0, ())) b.length
    (fun i t => ∃ h, t = (b, h, (i : Int), ())) (fun _ => False) (fun t => ∃ h j, t = (b, h, j, ())) (by omega) ⟨_, rfl⟩
    (by
      rintro i _ hi ⟨h, rfl⟩
      have hx : b[i]? = some b[i] := by simp
      by_cases hc : (i : Int) < 4000
      · refine .inl ⟨(b, bitsOp .and .i64 (w64 ((w64 ((w64 (h * 167)) + (w64 b[i]))) + 29)) 1073741823, ((i + 1 : Nat) : Int), ()), ⟨_, rfl⟩, fun rec K => ?_⟩
        · simp only [s48_0]
          rw [cond_true_dec (by simp; omega), cond_true_dec hc, rdL_at hx, w64_id (n := (i : Int) + 1) (by omega) (by omega)]
          rfl
      · refine .inr (.inr ⟨(b, h, (i : Int), ()), ⟨_, _, rfl⟩, fun rec K => ?_⟩)
        · simp only [s48_0]
          rw [cond_true_dec (by simp; omega), cond_false_dec hc])
    (by
      rintro _ ⟨h, rfl⟩
      refine .inr ⟨(b, h, (b.length : Int), ()), ⟨h, _, rfl⟩, fun rec K => ?_⟩
      simp only [s48_0]
      rw [cond_false_dec (by simp)]) with ⟨r, h, _⟩ | ⟨t, ⟨h, j, rfl⟩, e⟩
  · exact h.elim
  · exact ⟨h, e⟩
theorem inR_mem {l : List Int} (h : l.all inR = true) {x : Int} (hx : x ∈ l) : 0 ≤ x ∧ x ≤ 32 := by
  have := List.all_eq_true.mp h x hx
  simpa [inR] using this
end Ev

namespace Ev
open Go
theorem byte_w {b : List Int} (hb : b.length ≤ 1099511627776) {i h : Int} (hi : 0 ≤ i) : wp (G137 ((b, i, h, ()), ())) (CurP b fun x => 0 ≤ x ∧ x ≤ 255) := by
  obtain ⟨i', h', x, e, p, q⟩ := byte_ok b hb i h hi
  exact ⟨_, e, i', h', rfl, p, q⟩
theorem below_w {b : List Int} (hb : b.length ≤ 1099511627776) {i h n : Int} (hi : 0 ≤ i) (h0 : 0 < n) : wp (G77 ((b, i, h, ()), n, ())) (CurP b fun x => 0 ≤ x ∧ x < n) := by
  unfold G77 F77
  dsimp only
  refine wp_dec (fun h => absurd h (by omega)) fun _ => ?_
  refine wp_dec (fun _ => ?_) fun _ => ?_
  · refine wp_cur (byte_w hb hi) fun i1 h1 x1 p1 q1 => ?_
    refine wp_dec (fun h => absurd h (by omega)) fun _ => ?_
    exact wp_ret p1 ⟨Int.tmod_nonneg n q1.1, Int.tmod_lt_of_pos _ h0⟩
  · refine wp_cur (byte_w hb hi) fun i1 h1 x1 p1 q1 => ?_
    refine wp_cur (byte_w hb p1) fun i2 h2 x2 p2 q2 => ?_
    refine wp_cur (byte_w hb p2) fun i3 h3 x3 p3 q3 => ?_
    refine wp_dec (fun h => absurd h (by omega)) fun _ => ?_
    refine wp_ret p3 ⟨Int.tmod_nonneg n ?_, Int.tmod_lt_of_pos _ h0⟩
    dsimp only
    rw [w64_id (n := x1 * 65536) (by omega) (by omega), w64_id (n := x2 * 256) (by omega) (by omega), w64_id (n := x1 * 65536 + x2 * 256) (by omega) (by omega), w64_id (by omega) (by omega)]
    omega
theorem once_w {b : List Int} (hb : b.length ≤ 1099511627776) {i h n : Int} (hi : 0 ≤ i) (h0 : 0 < n) : wp (G56 ((b, i, h, ()), n, ())) (CurP b fun _ => True) := by
  unfold G56 F56
  refine wp_cur (below_w hb hi h0) fun i1 h1 x1 p1 q1 => ?_
  exact wp_ret p1 trivial
theorem int_w {b : List Int} (hb : b.length ≤ 1099511627776) {i h : Int} {l : List Int} (hi : 0 ≤ i) (h0 : 0 < l.length) : wp (G124 ((b, i, h, ()), l, ())) (CurP b fun x => x ∈ l) := by
  unfold G124 F124
  refine wp_cur (below_w hb hi (by simp; omega)) fun i1 h1 x1 p1 q1 => ?_
  exact wp_rd q1.1 (by simpa using q1.2) fun x hx _ => wp_ret p1 hx
theorem str_w {b : List Int} (hb : b.length ≤ 1099511627776) {i h : Int} {l : List Str} (hi : 0 ≤ i) (h0 : 0 < l.length) : wp (G112 ((b, i, h, ()), l, ())) (CurP b fun x => x ∈ l) := by
  unfold G112 F112
  refine wp_cur (below_w hb hi (by simp; omega)) fun i1 h1 x1 p1 q1 => ?_
  exact wp_rd q1.1 (by simpa using q1.2) fun x hx _ => wp_ret p1 hx
theorem odd_w {b : List Int} (hb : b.length ≤ 1099511627776) {i h : Int} (hi : 0 ≤ i) : wp (G119 ((b, i, h, ()), ())) (CurP b fun x => -9223372036854775808 ≤ x ∧ x ≤ 9223372036854775807) := by
  unfold G119 F119
  refine wp_cur (int_w hb hi (by simp)) fun i1 h1 x1 p1 q1 => wp_ret p1 ?_
  simp at q1
  show -9223372036854775808 ≤ x1 ∧ x1 ≤ 9223372036854775807
  omega
theorem some_w {b : List Int} (hb : b.length ≤ 1099511627776) {i h m n : Int} (hi : 0 ≤ i) (h0 : m ≤ n) (hm : -1000000 ≤ m) (hn : n ≤ 1000000) : wp (G127 ((b, i, h, ()), m, n, ())) (CurP b fun x => m ≤ x ∧ x ≤ n) := by
  unfold G127 F127
  dsimp only
  rw [w64_id (n := n - m) (by omega) (by omega), w64_id (n := n - m + 1) (by omega) (by omega)]
  refine wp_cur (below_w hb hi (by omega)) fun i1 h1 x1 p1 q1 => wp_ret p1 ?_
  dsimp only
  rw [w64_id (by omega) (by omega)]
  omega
theorem name6_w {b : List Int} (hb : b.length ≤ 1099511627776) {i h : Int} (hi : 0 ≤ i) : wp (G117 ((b, i, h, ()), ())) (CurP b fun x => x.length ≤ 9) := by
  unfold G117 F117
  refine wp_cur (str_w hb hi (by simp)) fun i1 h1 x1 p1 q1 => wp_ret p1 ?_
  have := List.all_eq_true.mp (show List.all _ (fun x : Str => decide (x.length ≤ 9)) = true from by decide) x1 q1
  simpa using this
theorem word_w {b : List Int} (hb : b.length ≤ 1099511627776) {i h : Int} (hi : 0 ≤ i) : wp (G120 ((b, i, h, ()), ())) (CurP b fun x => x.length ≤ 9) := by
  unfold G120 F120
  refine wp_cur (str_w hb hi (by simp)) fun i1 h1 x1 p1 q1 => wp_ret p1 ?_
  have := List.all_eq_true.mp (show List.all _ (fun x : Str => decide (x.length ≤ 9)) = true from by decide) x1 q1
  simpa using this
theorem place2_w {b : List Int} (hb : b.length ≤ 1099511627776) {i h : Int} (hi : 0 ≤ i) : wp (G171 ((b, i, h, ()), ())) (CurP b fun p => (-64 ≤ p.X ∧ p.X ≤ 64) ∧ -64 ≤ p.Y ∧ p.Y ≤ 64) := by
  unfold G171 F171
  refine wp_cur (some_w hb hi (by omega) (by omega) (by omega)) fun i1 h1 x1 p1 q1 => ?_
  exact wp_cur (some_w hb p1 (by omega) (by omega) (by omega)) fun i2 h2 x2 p2 q2 => wp_ret p2 ⟨q1, q2⟩
theorem jet_w {b : List Int} (hb : b.length ≤ 1099511627776) {i h : Int} (hi : 0 ≤ i) : wp (G126 ((b, i, h, ()), ())) (CurP b fun j => ((-64 ≤ j.At.X ∧ j.At.X ≤ 64) ∧ -64 ≤ j.At.Y ∧ j.At.Y ≤ 64) ∧ (0 ≤ j.Heading ∧ j.Heading < 4) ∧ (0 ≤ j.Tilt ∧ j.Tilt < 17) ∧ (1 ≤ j.Lift ∧ j.Lift ≤ 32)) := by
  unfold G126 F126
  refine wp_cur (place2_w hb hi) fun i1 h1 x1 p1 q1 => ?_
  refine wp_cur (below_w hb p1 (by omega)) fun i2 h2 x2 p2 q2 => ?_
  refine wp_cur (below_w hb p2 (by omega)) fun i3 h3 x3 p3 q3 => ?_
  exact wp_cur (some_w hb p3 (by omega) (by omega) (by omega)) fun i4 h4 x4 p4 q4 => wp_ret p4 ⟨q1, q2, q3, q4⟩
/-- A drawn nozzle. -/
def NozW (n l : Str) (d : Device) : Prop := d.Name = n ∧ d.Kind = 2 ∧ d.Line = l ∧ ((-64 ≤ d.At.X ∧ d.At.X ≤ 64) ∧ -64 ≤ d.At.Y ∧ d.At.Y ≤ 64) ∧ (0 ≤ d.Heading ∧ d.Heading < 4) ∧ (0 ≤ d.Tilt ∧ d.Tilt < 17) ∧ (0 ≤ d.Most ∧ d.Most ≤ 32)
theorem nozzle_w {b : List Int} (hb : b.length ≤ 1099511627776) {i h : Int} {n l : Str} (hi : 0 ≤ i) : wp (G60 ((b, i, h, ()), n, l, ())) (CurP b (NozW n l)) := by
  unfold G60 F60
  refine wp_cur (jet_w hb hi) fun i1 h1 x1 p1 q1 => ?_
  exact wp_cur (some_w hb p1 (by omega) (by omega) (by omega)) fun i2 h2 x2 p2 q2 => wp_ret p2 ⟨rfl, rfl, rfl, q1.1, q1.2.1, q1.2.2.1, q2⟩
theorem drift_w {b : List Int} (hb : b.length ≤ 1099511627776) {i h : Int} (hi : 0 ≤ i) : wp (G123 ((b, i, h, ()), ())) (CurP b fun p => (-3 ≤ p.X ∧ p.X ≤ 3) ∧ -3 ≤ p.Y ∧ p.Y ≤ 3) := by
  unfold G123 F123
  refine wp_cur (some_w hb hi (by omega) (by omega) (by omega)) fun i1 h1 x1 p1 q1 => ?_
  exact wp_cur (some_w hb p1 (by omega) (by omega) (by omega)) fun i2 h2 x2 p2 q2 => wp_ret p2 ⟨q1, q2⟩
/-! ### Rigs -/
theorem insAt_snoc {α : Type} {l : List α} {k : Nat} (hk : k ≤ l.length) (d x : α) : insAt l k d ++ [x] = insAt (l ++ [x]) k d := by
  unfold insAt
  rw [List.take_append_of_le_length hk, List.drop_append_of_le_length hk, List.append_assoc]; rfl
theorem insAt_end {α : Type} (l : List α) (d : α) : insAt l l.length d = l ++ [d] := by
  unfold insAt; simp
theorem copyS (l : List Device) (hl : l.length ≤ 1048576) : G159 (l, ()) = some (l, ()) := by
  unfold G159 F159
  rw [capK_le (by simp; omega)]; rfl
def curOK (b : List Int) (c : Cur) : Prop := ∃ i h, c = (b, i, h, ()) ∧ 0 ≤ i
theorem small_str {l : List Str} {x : Str} (hx : x ∈ l) (h : l.all (fun x => decide (x.length ≤ 9)) = true) : x.length ≤ 1048576 := by
  have := List.all_eq_true.mp h x hx
  have : x.length ≤ 9 := by simpa using this
  omega
/-- Drawn nozzles and lamps stand near. -/
def NearB (l : List Device) : Prop := ∀ d ∈ l, d.Kind ≠ 1 → (-64 ≤ d.At.X ∧ d.At.X ≤ 64) ∧ -64 ≤ d.At.Y ∧ d.At.Y ≤ 64
theorem near_add {l r : List Device} {d : Device} (h : NearB l) (hr : ∀ e ∈ r, e ∈ l ∨ e = d) (hd : d.Kind ≠ 1 → (-64 ≤ d.At.X ∧ d.At.X ≤ 64) ∧ -64 ≤ d.At.Y ∧ d.At.Y ≤ 64) : NearB r := fun e he hk => by
  rcases hr e he with h1 | rfl
  · exact h e h1 hk
  · exact hd hk
theorem rig_nil : RigP [] := ⟨by simp, (fun d hd => by cases hd), (fun i d e hd => by simp at hd), (fun d hd => by cases hd)⟩
theorem fnd_nil (s : Str) : fnd [] s = -1 := rfl
/-! ### Winds -/
theorem wind_nil : WindP [] := ⟨by simp, (fun d hd => by cases hd), (fun i d e hd => by simp at hd)⟩
theorem adj_snoc {α : Type} {P : α → α → Prop} {l : List α} {x : α} (h : ∀ i a b, l[i]? = some a → l[i + 1]? = some b → P a b) (hx : ∀ a, l[l.length - 1]? = some a → P a x) : ∀ i a b, (l ++ [x])[i]? = some a → (l ++ [x])[i + 1]? = some b → P a b := by
  intro i a b ha hb
  by_cases h1 : i + 1 < l.length
  · rw [List.getElem?_append_left (by omega)] at ha
    rw [List.getElem?_append_left h1] at hb
    exact h i a b ha hb
  · by_cases h2 : i + 1 = l.length
    · rw [List.getElem?_append_left (by omega)] at ha
      rw [h2, List.getElem?_append_right (Nat.le_refl _), Nat.sub_self] at hb
      simp at hb
      subst hb
      exact hx a (by rw [← h2, Nat.add_sub_cancel]; exact ha)
    · rw [List.getElem?_eq_none (by simp; omega)] at hb; cases hb
/-! ### Scores -/
theorem score_nil : ScoreP [] := ⟨by simp, (fun d hd => by cases hd), (fun i d e hd => by simp at hd)⟩
theorem copyC (l : List Cue) (hl : l.length ≤ 1048576) : G160 (l, ()) = some (l, ()) := by
  unfold G160 F160
  rw [capK_le (by simp; omega)]; rfl
def cueD (t : Int) (c : Cue) : Prop := (0 ≤ c.Tick ∧ c.Tick < t) ∧ c.Name.length ≤ 9 ∧ (0 ≤ c.Level ∧ c.Level ≤ 32) ∧ 0 ≤ c.Ramp ∧ c.Ramp ≤ 16
/-! ### Shows -/
theorem new_w {b : List Int} (hb : b.length ≤ 4096) : wp (G48 (b, ())) (fun r => ∃ h, r = ((b, 0, h, ()), ())) := by
  obtain ⟨h, e⟩ := new_ok b hb
  exact ⟨_, e, h, rfl⟩
end Ev
