/- What the draws of numbers and of tracks yield. What is drawn: rigs, winds, scores and shows that are valid. -/
import Derived.Test.YtpnlcamcnhpbhaaGreatAbb
import Derived.Test.YtpnlcamcnhpbhaaGreatBaseA
import Derived.Test.YtpnlcamcnhpbhaaGreatSumA
set_option linter.unusedVariables false
set_option linter.unusedSimpArgs false
set_option maxRecDepth 100000
namespace Ev
open Go
theorem and_255 (a : Int) : 0 ≤ bitsOp .and .i64 a 255 ∧ bitsOp .and .i64 a 255 ≤ 255 := by
  have h : (BitVec.ofInt IntKind.i64.bits a &&& BitVec.ofInt IntKind.i64.bits 255).toNat ≤ 255 := by
    rw [BitVec.toNat_and]; exact Nat.le_trans Nat.and_le_right (by decide)
  have e : bitsOp .and .i64 a 255 = w64 ((BitVec.ofInt IntKind.i64.bits a &&& BitVec.ofInt IntKind.i64.bits 255).toNat : Int) := rfl
  rw [e, w64_id (by omega) (by omega)]
  omega
theorem byte_ok (b : List Int) (hb : b.length ≤ 1099511627776) (i h : Int) (hi : 0 ≤ i) : ∃ i' h' x, F72 ((b, i, h, ()), ()) = some ((b, i', h', ()), x, ()) ∧ 0 ≤ i' ∧ 0 ≤ x ∧ x ≤ 255 := by
  unfold F72
  by_cases hc : i < Int.ofNat b.length
  · rw [cond_true_dec hc]
    obtain ⟨k, rfl⟩ := Int.eq_ofNat_of_zero_le hi
    have hk : k < b.length := by simpa using hc
    have hx : b[k]? = some b[k] := by simp
    simp only []
    rw [rdL_at hx]
    refine ⟨_, _, _, rfl, ?_, and_255 _⟩
    rw [w64_id (by omega) (by omega)]; omega
  · rw [cond_false_dec hc]
    exact ⟨_, _, _, rfl, hi, and_255 _⟩
noncomputable abbrev fB := F30 F72
theorem below_ok (b : List Int) (hb : b.length ≤ 1099511627776) (i h : Int) (hi : 0 ≤ i) (n : Int) (h0 : 0 < n) (h1 : n ≤ 256) : ∃ i' h' x, fB ((b, i, h, ()), n, ()) = some ((b, i', h', ()), x, ()) ∧ 0 ≤ i' ∧ 0 ≤ x ∧ x < n := by
  obtain ⟨i', h', x, e, hi', hx0, hx1⟩ := byte_ok b hb i h hi
  refine ⟨i', h', Int.tmod x n, ?_, hi', Int.tmod_nonneg n hx0, Int.tmod_lt_of_pos x h0⟩
  unfold fB F30
  dsimp only
  rw [cond_false_dec (by omega), cond_true_dec (by omega)]
  simp only [e, Option.bind_some]
  rw [cond_false_dec (by omega)]
noncomputable abbrev fI := F77 fB
theorem int_ok (b : List Int) (hb : b.length ≤ 1099511627776) (i h : Int) (hi : 0 ≤ i) (l : List Int) (h0 : 0 < l.length) (h1 : l.length ≤ 256) : ∃ i' h' x, fI ((b, i, h, ()), l, ()) = some ((b, i', h', ()), x, ()) ∧ 0 ≤ i' ∧ x ∈ l := by
  obtain ⟨i', h', x, e, hi', hx0, hx1⟩ := below_ok b hb i h hi (Int.ofNat l.length) (by simp; omega) (by simp; omega)
  obtain ⟨k, rfl⟩ := Int.eq_ofNat_of_zero_le hx0
  have hk : k < l.length := by simpa using hx1
  have hx : l[k]? = some l[k] := by simp
  refine ⟨i', h', l[k], ?_, hi', by simp⟩
  unfold fI F77
  simp only [e, Option.bind_some]
  rw [rdL_at hx]
noncomputable abbrev fO := F47 fB
theorem once_ok (b : List Int) (hb : b.length ≤ 1099511627776) (i h : Int) (hi : 0 ≤ i) (n : Int) (h0 : 0 < n) (h1 : n ≤ 256) : ∃ i' h' x, fO ((b, i, h, ()), n, ()) = some ((b, i', h', ()), x, ()) ∧ 0 ≤ i' := by
  obtain ⟨i', h', x, e, hi', hx0, hx1⟩ := below_ok b hb i h hi n h0 h1
  refine ⟨i', h', decide (x = 0), ?_, hi'⟩
  unfold fO F47
  simp only [e, Option.bind_some]
theorem new_ok (b : List Int) (hb : b.length ≤ 4096) : ∃ h, F28 (b, ()) = some ((b, 0, h, ()), ()) := by
  unfold F28
  rcases iterF_rule (f := s28_0) (K := fun t3 => some ((t3.1, 0, t3.2.1, ()), ())) (t := (b, w64 (620033 + w64 (3 * Int.ofNat b.length)), 0, ())) b.length
    (fun i t => ∃ h, t = (b, h, (i : Int), ())) (fun _ => False) (fun t => ∃ h j, t = (b, h, j, ())) (by omega) ⟨_, rfl⟩
    (by
      rintro i _ hi ⟨h, rfl⟩
      have hx : b[i]? = some b[i] := by simp
      by_cases hc : (i : Int) < 4000
      · refine .inl ⟨(b, bitsOp .and .i64 (w64 ((w64 ((w64 (h * 167)) + (w64 b[i]))) + 29)) 1073741823, ((i + 1 : Nat) : Int), ()), ⟨_, rfl⟩, fun rec K => ?_⟩
        · simp only [s28_0]
          rw [cond_true_dec (by simp; omega), cond_true_dec hc, rdL_at hx, w64_id (n := (i : Int) + 1) (by omega) (by omega)]
          rfl
      · refine .inr (.inr ⟨(b, h, (i : Int), ()), ⟨_, _, rfl⟩, fun rec K => ?_⟩)
        · simp only [s28_0]
          rw [cond_true_dec (by simp; omega), cond_false_dec hc])
    (by
      rintro _ ⟨h, rfl⟩
      refine .inr ⟨(b, h, (b.length : Int), ()), ⟨h, _, rfl⟩, fun rec K => ?_⟩
      simp only [s28_0]
      rw [cond_false_dec (by simp)]) with ⟨r, h, _⟩ | ⟨t, ⟨h, j, rfl⟩, e⟩
  · exact h.elim
  · exact ⟨h, e⟩
theorem inR_mem {l : List Int} (h : l.all inR = true) {x : Int} (hx : x ∈ l) : 0 ≤ x ∧ x ≤ 32 := by
  have := List.all_eq_true.mp h x hx
  simpa [inR] using this
end Ev

namespace Ev
open Go
theorem byte_w {b : List Int} (hb : b.length ≤ 1099511627776) {i h : Int} (hi : 0 ≤ i) : wp (G72 ((b, i, h, ()), ())) (CurP b fun x => 0 ≤ x ∧ x ≤ 255) := by
  obtain ⟨i', h', x, e, p, q⟩ := byte_ok b hb i h hi
  exact ⟨_, e, i', h', rfl, p, q⟩
theorem below_w {b : List Int} (hb : b.length ≤ 1099511627776) {i h n : Int} (hi : 0 ≤ i) (h0 : 0 < n) : wp (G30 ((b, i, h, ()), n, ())) (CurP b fun x => 0 ≤ x ∧ x < n) := by
  unfold G30 F30
  dsimp only
  refine wp_dec (fun h => absurd h (by omega)) fun _ => ?_
  refine wp_dec (fun _ => ?_) fun _ => ?_
  · refine wp_cur (byte_w hb hi) fun i1 h1 x1 p1 q1 => ?_
    refine wp_dec (fun h => absurd h (by omega)) fun _ => ?_
    exact wp_ret p1 ⟨Int.tmod_nonneg n q1.1, Int.tmod_lt_of_pos _ h0⟩
  · refine wp_cur (byte_w hb hi) fun i1 h1 x1 p1 q1 => ?_
    refine wp_cur (byte_w hb p1) fun i2 h2 x2 p2 q2 => ?_
    refine wp_cur (byte_w hb p2) fun i3 h3 x3 p3 q3 => ?_
    refine wp_dec (fun h => absurd h (by omega)) fun _ => ?_
    refine wp_ret p3 ⟨Int.tmod_nonneg n ?_, Int.tmod_lt_of_pos _ h0⟩
    dsimp only
    rw [w64_id (n := x1 * 65536) (by omega) (by omega), w64_id (n := x2 * 256) (by omega) (by omega), w64_id (n := x1 * 65536 + x2 * 256) (by omega) (by omega), w64_id (by omega) (by omega)]
    omega
theorem once_w {b : List Int} (hb : b.length ≤ 1099511627776) {i h n : Int} (hi : 0 ≤ i) (h0 : 0 < n) : wp (G47 ((b, i, h, ()), n, ())) (CurP b fun _ => True) := by
  unfold G47 F47
  refine wp_cur (below_w hb hi h0) fun i1 h1 x1 p1 q1 => ?_
  exact wp_ret p1 trivial
theorem int_w {b : List Int} (hb : b.length ≤ 1099511627776) {i h : Int} {l : List Int} (hi : 0 ≤ i) (h0 : 0 < l.length) : wp (G77 ((b, i, h, ()), l, ())) (CurP b fun x => x ∈ l) := by
  unfold G77 F77
  refine wp_cur (below_w hb hi (by simp; omega)) fun i1 h1 x1 p1 q1 => ?_
  exact wp_rd q1.1 (by simpa using q1.2) fun x hx _ => wp_ret p1 hx
theorem str_w {b : List Int} (hb : b.length ≤ 1099511627776) {i h : Int} {l : List Str} (hi : 0 ≤ i) (h0 : 0 < l.length) : wp (G118 ((b, i, h, ()), l, ())) (CurP b fun x => x ∈ l) := by
  unfold G118 F118
  refine wp_cur (below_w hb hi (by simp; omega)) fun i1 h1 x1 p1 q1 => ?_
  exact wp_rd q1.1 (by simpa using q1.2) fun x hx _ => wp_ret p1 hx
theorem odd_w {b : List Int} (hb : b.length ≤ 1099511627776) {i h : Int} (hi : 0 ≤ i) : wp (G73 ((b, i, h, ()), ())) (CurP b fun x => -9223372036854775808 ≤ x ∧ x ≤ 9223372036854775807) := by
  unfold G73 F73
  refine wp_cur (int_w hb hi (by simp)) fun i1 h1 x1 p1 q1 => wp_ret p1 ?_
  simp at q1
  show -9223372036854775808 ≤ x1 ∧ x1 ≤ 9223372036854775807
  omega
theorem some_w {b : List Int} (hb : b.length ≤ 1099511627776) {i h m n : Int} (hi : 0 ≤ i) (h0 : m ≤ n) (hm : -1000000 ≤ m) (hn : n ≤ 1000000) : wp (G147 ((b, i, h, ()), m, n, ())) (CurP b fun x => m ≤ x ∧ x ≤ n) := by
  unfold G147 F147
  dsimp only
  rw [w64_id (n := n - m) (by omega) (by omega), w64_id (n := n - m + 1) (by omega) (by omega)]
  refine wp_cur (below_w hb hi (by omega)) fun i1 h1 x1 p1 q1 => wp_ret p1 ?_
  dsimp only
  rw [w64_id (by omega) (by omega)]
  omega
theorem place2_w {b : List Int} (hb : b.length ≤ 1099511627776) {i h : Int} (hi : 0 ≤ i) : wp (G119 ((b, i, h, ()), ())) (CurP b fun p => (-64 ≤ p.X ∧ p.X ≤ 64) ∧ -64 ≤ p.Y ∧ p.Y ≤ 64) := by
  unfold G119 F119
  refine wp_cur (some_w hb hi (by omega) (by omega) (by omega)) fun i1 h1 x1 p1 q1 => ?_
  exact wp_cur (some_w hb p1 (by omega) (by omega) (by omega)) fun i2 h2 x2 p2 q2 => wp_ret p2 ⟨q1, q2⟩
theorem jet_w {b : List Int} (hb : b.length ≤ 1099511627776) {i h : Int} (hi : 0 ≤ i) : wp (G163 ((b, i, h, ()), ())) (CurP b fun j => ((-64 ≤ j.At.X ∧ j.At.X ≤ 64) ∧ -64 ≤ j.At.Y ∧ j.At.Y ≤ 64) ∧ (0 ≤ j.Heading ∧ j.Heading < 4) ∧ (0 ≤ j.Tilt ∧ j.Tilt < 17) ∧ (1 ≤ j.Lift ∧ j.Lift ≤ 32)) := by
  unfold G163 F163
  refine wp_cur (place2_w hb hi) fun i1 h1 x1 p1 q1 => ?_
  refine wp_cur (below_w hb p1 (by omega)) fun i2 h2 x2 p2 q2 => ?_
  refine wp_cur (below_w hb p2 (by omega)) fun i3 h3 x3 p3 q3 => ?_
  exact wp_cur (some_w hb p3 (by omega) (by omega) (by omega)) fun i4 h4 x4 p4 q4 => wp_ret p4 ⟨q1, q2, q3, q4⟩
/-- A drawn nozzle. -/
def NozW (n l : Str) (d : Device) : Prop := d.Name = n ∧ d.Kind = 2 ∧ d.Line = l ∧ ((-64 ≤ d.At.X ∧ d.At.X ≤ 64) ∧ -64 ≤ d.At.Y ∧ d.At.Y ≤ 64) ∧ (0 ≤ d.Heading ∧ d.Heading < 4) ∧ (0 ≤ d.Tilt ∧ d.Tilt < 17) ∧ (0 ≤ d.Most ∧ d.Most ≤ 32)
theorem nozzle_w {b : List Int} (hb : b.length ≤ 1099511627776) {i h : Int} {n l : Str} (hi : 0 ≤ i) : wp (G117 ((b, i, h, ()), n, l, ())) (CurP b (NozW n l)) := by
  unfold G117 F117
  refine wp_cur (jet_w hb hi) fun i1 h1 x1 p1 q1 => ?_
  exact wp_cur (some_w hb p1 (by omega) (by omega) (by omega)) fun i2 h2 x2 p2 q2 => wp_ret p2 ⟨rfl, rfl, rfl, q1.1, q1.2.1, q1.2.2.1, q2⟩
theorem drift_w {b : List Int} (hb : b.length ≤ 1099511627776) {i h : Int} (hi : 0 ≤ i) : wp (G102 ((b, i, h, ()), ())) (CurP b fun p => (-3 ≤ p.X ∧ p.X ≤ 3) ∧ -3 ≤ p.Y ∧ p.Y ≤ 3) := by
  unfold G102 F102
  refine wp_cur (some_w hb hi (by omega) (by omega) (by omega)) fun i1 h1 x1 p1 q1 => ?_
  exact wp_cur (some_w hb p1 (by omega) (by omega) (by omega)) fun i2 h2 x2 p2 q2 => wp_ret p2 ⟨q1, q2⟩
/-! ### Rigs -/
theorem insAt_snoc {α : Type} {l : List α} {k : Nat} (hk : k ≤ l.length) (d x : α) : insAt l k d ++ [x] = insAt (l ++ [x]) k d := by
  unfold insAt
  rw [List.take_append_of_le_length hk, List.drop_append_of_le_length hk, List.append_assoc]; rfl
theorem insAt_end {α : Type} (l : List α) (d : α) : insAt l l.length d = l ++ [d] := by
  unfold insAt; simp
theorem copyS (l : List Device) (hl : l.length ≤ 1048576) : G162 (l, ()) = some (l, ()) := by
  unfold G162 F162
  rw [capK_le (by simp; omega)]; rfl
theorem add_w {l : List Device} (h : RigP l) {d : Device} (hn : d.Name.length ≤ 1048576) (hl' : d.Line.length ≤ 1048576) :
    wp (G116 (l, d, ())) (fun r => RigP r.1 ∧ l.length ≤ r.1.length ∧ (devB d = true → fnd l d.Name = -1 → l.length ≠ 8 → hungB l d = true → r.1.length = l.length + 1) ∧ ∀ e ∈ r.1, e ∈ l ∨ e = d) := by
  have h8 := h.len
  have hl : l.length ≤ 1048576 := by omega
  have hR : G49 (l, ()) = some (true, ()) := by rw [rigS_is l hl (rig_devs h), (rigB_iff l).2 h]
  have hD : G97 (d, ()) = some (devB d, ()) := (devB_is d hn hl').1
  unfold G116 F116
  dsimp only
  rw [hR]
  simp only [Option.bind_some, Bool.not_true, Bool.not_false, cond_true, hD, copyS l hl]
  cases hd : devB d
  · exact wp_some ⟨h, Nat.le_refl _, fun e => by (cases e), fun e he => .inl he⟩
  simp only [Bool.not_true, Bool.not_false, cond_true]
  rw [findS_is l hl]
  simp only [Option.bind_some]
  rcases Or.symm (fnd_spec l d.Name) with ⟨k, x, e, _, _⟩ | ⟨e, hno⟩
  · rw [decide_eq_true (by omega)]
    exact wp_some ⟨h, Nat.le_refl _, fun _ e' => by (rw [e'] at e; omega), fun e he => .inl he⟩
  rw [decide_eq_false (by omega)]
  simp only [Bool.not_false, cond_true]
  by_cases h9 : l.length = 8
  · rw [decide_eq_true (by simp; omega)]
    exact wp_some ⟨h, Nat.le_refl _, (fun _ _ e' => absurd h9 e'), fun e he => .inl he⟩
  rw [decide_eq_false (by simp; omega)]
  simp only [Bool.not_false, cond_true]
  rw [hungS_is l hl d (dev_kind hd)]
  simp only [Option.bind_some]
  cases hh : hungB l d
  · exact wp_some ⟨h, Nat.le_refl _, fun _ _ _ e' => by (cases e'), fun e he => .inl he⟩
  simp only [Bool.not_true, cond_false]
  have good : ∀ k, k ≤ l.length → (∀ (i : Nat) e, i < k → l[i]? = some e → Op.bytesLess d.Name e.Name = false) → (∀ e, l[k]? = some e → Op.bytesLess d.Name e.Name = true) → RigP (insAt l k d) := fun k hk g1 g2 =>
    rig_ins h hk h9 hd hno hh g1 g2
  refine wp_iter l.length (fun j t => ∃ (i : Nat) (out : List Device) (done : Bool), t = (d, out, done, l, Int.ofNat l.length, (i : Int), ()) ∧ i + j = l.length ∧
    ((done = false ∧ out = l.take i ∧ ∀ (m : Nat) e, m < i → l[m]? = some e → Op.bytesLess d.Name e.Name = false) ∨
      (done = true ∧ ∃ k, k < i ∧ out = insAt (l.take i) k d ∧ (∀ (m : Nat) e, m < k → l[m]? = some e → Op.bytesLess d.Name e.Name = false) ∧ ∀ e, l[k]? = some e → Op.bytesLess d.Name e.Name = true)))
    (by omega) ⟨0, [], false, rfl, by omega, .inl ⟨rfl, by simp, fun m e hm => by omega⟩⟩ ?_
  rintro j _ ⟨i, out, done, rfl, hij, hinv⟩ rec hrec
  simp only [s116_0]
  by_cases hi : i < l.length
  · rw [cond_true_dec (by simp; omega)]
    have hx : l[i]? = some l[i] := by simp
    have e1 : w64 ((i : Int) + 1) = ((i + 1 : Nat) : Int) := w64_id (by omega) (by omega)
    have hb : (!(Op.bytesLess l[i].Name d.Name || decide (l[i].Name = d.Name))) = Op.bytesLess d.Name l[i].Name := by
      rw [← less_total]; simp
    have ho : out.length ≤ 16 := by
      rcases hinv with ⟨_, rfl, _⟩ | ⟨_, k, _, rfl, _⟩
      · simp; omega
      · rw [insAt_len]; simp; omega
    rw [rdL_at hx, e1, hb]
    rcases hinv with ⟨rfl, rfl, g1⟩ | ⟨rfl, k, hk, rfl, g1, g2⟩
    · simp only [Bool.not_false, cond_true]
      cases hc : Op.bytesLess d.Name l[i].Name
      · simp only [cond_false]
        refine wp_cap (by simp; omega) (hrec (j - 1) _ (by omega) ⟨i + 1, _, false, rfl, by omega, .inl ⟨rfl, (take_snocG l i hi).symm, fun m e hm he => ?_⟩⟩)
        by_cases hmi : m = i
        · subst hmi; rw [hx] at he; cases he; exact hc
        · exact g1 m e (by omega) he
      · simp only [cond_true]
        refine wp_cap (by simp; omega) (wp_cap (by simp; omega) (hrec (j - 1) _ (by omega) ⟨i + 1, _, true, rfl, by omega, .inr ⟨rfl, i, by omega, ?_, g1, fun e he => ?_⟩⟩))
        · rw [take_snocG l i hi, ← insAt_snoc (by simp; omega)]
          have : insAt (l.take i) i d = l.take i ++ [d] := by
            have := insAt_end (l.take i) d
            rw [List.length_take, Nat.min_eq_left (by omega)] at this
            exact this
          rw [this]
        · rw [hx] at he; cases he; exact hc
    · simp only [Bool.not_true, cond_false]
      refine wp_cap (by simp; omega) (hrec (j - 1) _ (by omega) ⟨i + 1, _, true, rfl, by omega, .inr ⟨rfl, k, by omega, ?_, g1, g2⟩⟩)
      rw [take_snocG l i hi, ← insAt_snoc (by simp; omega)]
  · rw [cond_false_dec (by simp; omega)]
    have hie : i = l.length := by omega
    subst hie
    rcases hinv with ⟨rfl, rfl, g1⟩ | ⟨rfl, k, hk, rfl, g1, g2⟩
    · simp only [Bool.not_false, cond_true, List.take_length]
      refine wp_cap (by simp; omega) (wp_some ⟨?_, by simp, fun _ _ _ _ => by simp, fun e he => by simpa using he⟩)
      rw [← insAt_end]
      exact good l.length (Nat.le_refl _) g1 (fun e he => by rw [List.getElem?_eq_none (by omega)] at he; cases he)
    · simp only [Bool.not_true, cond_false, List.take_length]
      refine wp_some ⟨good k (by omega) g1 g2, by (rw [insAt_len]; omega), (fun _ _ _ _ => insAt_len _ _ _), fun e he => (insAt_mem.1 he).symm⟩
def curOK (b : List Int) (c : Cur) : Prop := ∃ i h, c = (b, i, h, ()) ∧ 0 ≤ i
theorem small_str {l : List Str} {x : Str} (hx : x ∈ l) (h : l.all (fun x => decide (x.length ≤ 9)) = true) : x.length ≤ 1048576 := by
  have := List.all_eq_true.mp h x hx
  have : x.length ≤ 9 := by simpa using this
  omega
/-- Drawn nozzles and lamps stand near. -/
def NearB (l : List Device) : Prop := ∀ d ∈ l, d.Kind ≠ 1 → (-64 ≤ d.At.X ∧ d.At.X ≤ 64) ∧ -64 ≤ d.At.Y ∧ d.At.Y ≤ 64
theorem near_add {l r : List Device} {d : Device} (h : NearB l) (hr : ∀ e ∈ r, e ∈ l ∨ e = d) (hd : d.Kind ≠ 1 → (-64 ≤ d.At.X ∧ d.At.X ≤ 64) ∧ -64 ≤ d.At.Y ∧ d.At.Y ≤ 64) : NearB r := fun e he hk => by
  rcases hr e he with h1 | rfl
  · exact h e h1 hk
  · exact hd hk
theorem rig_nil : RigP [] := ⟨by simp, (fun d hd => by cases hd), (fun i d e hd => by simp at hd), (fun d hd => by cases hd)⟩
theorem fnd_nil (s : Str) : fnd [] s = -1 := rfl
theorem rig_w {b : List Int} (hb : b.length ≤ 1099511627776) {i h : Int} (hi : 0 ≤ i) : wp (G68 ((b, i, h, ()), ())) (CurP b fun l => RigP l ∧ 1 ≤ l.length ∧ NearB l) := by
  unfold G68 F68
  refine wp_cur (below_w hb hi (by omega)) fun i1 h1 x1 p1 q1 => ?_
  dsimp only
  rw [w64_id (n := 1 + x1) (by omega) (by omega)]
  refine wp_okIf ⟨by omega, by simp; omega⟩ ?_
  obtain ⟨n, hn⟩ : ∃ n : Nat, (1 + x1).toNat = n ∧ 1 ≤ n ∧ n ≤ 2 := ⟨(1 + x1).toNat, rfl, by omega, by omega⟩
  rw [hn.1]
  simp only [List.drop_zero, Nat.sub_zero]
  generalize hps : List.take n ([[112], [113]] : List Str) = ps
  have hpl : ps.length = n := by rw [← hps]; simp; omega
  have hpm : ∀ x ∈ ps, x ∈ ([[112], [113]] : List Str) := fun x hx => by rw [← hps] at hx; exact List.mem_of_mem_take hx
  have en : Int.ofNat n = Int.ofNat ps.length := by rw [hpl]
  rw [en]
  refine wp_loop ps.length (fun j t => ∃ (k : Nat) (c : Cur) (l : List Device), t = (c, l, ps, ps, Int.ofNat ps.length, (k : Int), ()) ∧ k + j = ps.length ∧ curOK b c ∧ RigP l ∧ (k = 0 → l = []) ∧ (1 ≤ k → 1 ≤ l.length) ∧ NearB l)
    (fun t => ∃ (c : Cur) (l : List Device) (z : List Str) (n k : Int), t = (c, l, ps, z, n, k, ()) ∧ curOK b c ∧ RigP l ∧ 1 ≤ l.length ∧ NearB l)
    (by omega) ⟨0, _, [], rfl, by omega, ⟨i1, h1, rfl, p1⟩, rig_nil, (fun _ => rfl), (fun h => by omega), fun d hd => by cases hd⟩ ?_ ?_
  · rintro j _ ⟨k, _, l, rfl, hkj, ⟨i2, h2, rfl, p2⟩, hr, h0, hk1, hnr⟩ rec K hrec hK
    simp only [s68_0]
    by_cases hk : k < ps.length
    · have hx : ps[k]? = some ps[k] := by simp
      have e1 : w64 ((k : Int) + 1) = ((k + 1 : Nat) : Int) := w64_id (by omega) (by omega)
      rw [cond_true_dec (by simp; omega), rdL_at hx, e1]
      have hm := hpm ps[k] (by simp)
      refine wp_cur (below_w hb p2 (by omega)) fun i3 h3 x3 p3 q3 => ?_
      refine wp_bind (add_w hr (d := ⟨ps[k], 1, [], ⟨0, 0⟩, 0, 0, x3⟩) (small_str hm (by decide)) (by simp)) fun r hrr => ?_
      refine hrec (j - 1) _ (by omega) ⟨k + 1, _, r.1, rfl, by omega, ⟨i3, h3, rfl, p3⟩, hrr.1, (fun h => by omega), (fun _ => ?_), near_add hnr hrr.2.2.2 fun hk => absurd rfl hk⟩
      by_cases hz : k = 0
      · have hl0 := h0 hz
        subst hl0
        have hdv : devB ⟨ps[k], 1, [], ⟨0, 0⟩, 0, 0, x3⟩ = true := by
          have hnm : isNm ps[k] = true := by
            rcases List.mem_cons.mp hm with e | e
            · rw [e]; decide
            · rw [List.mem_singleton.mp e]; decide
          unfold devB
          simp only [hnm, if_true, decide_true, Bool.true_and]
          exact wi_of (by omega) (by omega)
        have := hrr.2.2.1 hdv (fnd_nil _) (by simp) (by unfold hungB; simp)
        rw [this]; simp
      · have := hk1 (by omega)
        have := hrr.2.1
        omega
    · rw [cond_false_dec (by simp; omega)]
      exact hK _ ⟨_, l, ps, _, _, rfl, ⟨i2, h2, rfl, p2⟩, hr, hk1 (by omega), hnr⟩
  · rintro _ ⟨_, l, z, n9, k9, rfl, ⟨i2, h2, rfl, p2⟩, hr, hl1, hnr⟩
    dsimp only
    refine wp_cur (below_w hb p2 (by omega)) fun i3 h3 x3 p3 q3 => ?_
    refine wp_okIf ⟨q3.1, by simp; omega⟩ ?_
    simp only [List.drop_zero, Nat.sub_zero]
    generalize hns : List.take x3.toNat ([[97], [98], [99], [114]] : List Str) = ns
    have hnl : ns.length = x3.toNat := by rw [← hns]; simp; omega
    have hnm : ∀ x ∈ ns, x ∈ ([[97], [98], [99], [114]] : List Str) := fun x hx => by rw [← hns] at hx; exact List.mem_of_mem_take hx
    have en2 : Int.ofNat x3.toNat = Int.ofNat ns.length := by rw [hnl]
    rw [en2]
    refine wp_loop ns.length (fun j t => ∃ (k : Nat) (c : Cur) (l : List Device), t = (c, l, ps, ns, ns, Int.ofNat ns.length, (k : Int), ()) ∧ k + j = ns.length ∧ curOK b c ∧ RigP l ∧ 1 ≤ l.length ∧ NearB l)
      (fun t => ∃ (c : Cur) (l : List Device) (p z : List Str) (n k : Int), t = (c, l, p, ns, z, n, k, ()) ∧ curOK b c ∧ RigP l ∧ 1 ≤ l.length ∧ NearB l)
      (by omega) ⟨0, _, l, rfl, by omega, ⟨i3, h3, rfl, p3⟩, hr, hl1, hnr⟩ ?_ ?_
    · rintro j _ ⟨k, _, l, rfl, hkj, ⟨i4, h4, rfl, p4⟩, hr, hl1, hnr⟩ rec K hrec hK
      simp only [s68_2]
      by_cases hk : k < ns.length
      · have hx : ns[k]? = some ns[k] := by simp
        have e1 : w64 ((k : Int) + 1) = ((k + 1 : Nat) : Int) := w64_id (by omega) (by omega)
        rw [cond_true_dec (by simp; omega), rdL_at hx, e1]
        have hm := hnm ns[k] (by simp)
        refine wp_cur (str_w hb p4 (by omega)) fun i5 h5 x5 p5 q5 => ?_
        refine wp_cur (nozzle_w hb p5) fun i6 h6 x6 p6 q6 => ?_
        refine wp_bind (add_w hr (d := x6) (by rw [q6.1]; exact small_str hm (by decide)) (by rw [q6.2.2.1]; exact small_str (hpm _ q5) (by decide))) fun r hrr => ?_
        exact hrec (j - 1) _ (by omega) ⟨k + 1, _, r.1, rfl, by omega, ⟨i6, h6, rfl, p6⟩, hrr.1, by (have := hrr.2.1; omega), near_add hnr hrr.2.2.2 fun _ => q6.2.2.2.1⟩
      · rw [cond_false_dec (by simp; omega)]
        exact hK _ ⟨_, l, ps, ns, _, _, rfl, ⟨i4, h4, rfl, p4⟩, hr, hl1, hnr⟩
    · rintro _ ⟨_, l, p, z, n8, k8, rfl, ⟨i4, h4, rfl, p4⟩, hr, hl1, hnr⟩
      dsimp only
      refine wp_dec (fun hc => ?_) fun _ => wp_ret p4 ⟨hr, hl1, hnr⟩
      have hns1 : 0 < ns.length := by simpa using hc
      refine wp_cur (once_w hb p4 (by omega)) fun i5 h5 x5 p5 q5 => ?_
      refine wp_cond (fun _ => ?_) fun _ => wp_ret p5 ⟨hr, hl1, hnr⟩
      refine wp_cur (str_w hb p5 (by simp)) fun i6 h6 x6 p6 q6 => ?_
      refine wp_cur (str_w hb p6 hns1) fun i7 h7 x7 p7 q7 => ?_
      refine wp_cur (place2_w hb p7) fun i8 h8 x8 p8 q8 => ?_
      refine wp_bind (add_w hr (d := ⟨x6, 3, x7, ⟨x8.X, x8.Y⟩, 0, 0, 0⟩) (small_str q6 (by decide)) (small_str (hnm _ q7) (by decide))) fun r hrr => ?_
      exact wp_ret p8 ⟨hrr.1, by (have := hrr.2.1; omega), near_add hnr hrr.2.2.2 fun _ => q8⟩
/-! ### Winds -/
theorem wind_nil : WindP [] := ⟨by simp, (fun d hd => by cases hd), (fun i d e hd => by simp at hd)⟩
theorem adj_snoc {α : Type} {P : α → α → Prop} {l : List α} {x : α} (h : ∀ i a b, l[i]? = some a → l[i + 1]? = some b → P a b) (hx : ∀ a, l[l.length - 1]? = some a → P a x) : ∀ i a b, (l ++ [x])[i]? = some a → (l ++ [x])[i + 1]? = some b → P a b := by
  intro i a b ha hb
  by_cases h1 : i + 1 < l.length
  · rw [List.getElem?_append_left (by omega)] at ha
    rw [List.getElem?_append_left h1] at hb
    exact h i a b ha hb
  · by_cases h2 : i + 1 = l.length
    · rw [List.getElem?_append_left (by omega)] at ha
      rw [h2, List.getElem?_append_right (Nat.le_refl _), Nat.sub_self] at hb
      simp at hb
      subst hb
      exact hx a (by rw [← h2, Nat.add_sub_cancel]; exact ha)
    · rw [List.getElem?_eq_none (by simp; omega)] at hb; cases hb
theorem wind_w {b : List Int} (hb : b.length ≤ 1099511627776) {i h : Int} (hi : 0 ≤ i) : wp (G69 ((b, i, h, ()), ())) (CurP b WindP) := by
  unfold G69 F69
  refine wp_cur (int_w hb hi (by simp)) fun i1 h1 t0 p1 q1 => ?_
  have ht0 : 0 ≤ t0 ∧ t0 ≤ 5 := by simp at q1; omega
  refine wp_cur (below_w hb p1 (by omega)) fun i2 h2 n p2 q2 => ?_
  dsimp only
  refine wp_loop n.toNat (fun j t => ∃ (c : Cur) (l : List Gust) (u : Int), t = (c, l, u, (j : Int), ()) ∧ curOK b c ∧ WindP l ∧ l.length + j ≤ 5 ∧ 0 ≤ u ∧ u ≤ 5 + 9 * (l.length : Int) ∧ ∀ a, l[l.length - 1]? = some a → a.From < u)
    (fun t => ∃ (c : Cur) (l : List Gust) (u k : Int), t = (c, l, u, k, ()) ∧ curOK b c ∧ WindP l)
    (by omega) ⟨_, [], t0, by rw [Int.toNat_of_nonneg q2.1], ⟨i2, h2, rfl, p2⟩, wind_nil, by simp; omega, by omega, by simp; omega, fun a ha => by simp at ha⟩ ?_ ?_
  · rintro j _ ⟨_, l, u, rfl, ⟨i3, h3, rfl, p3⟩, hw, hl, hu0, hu1, hlt⟩ rec K hrec hK
    simp only [s69_0]
    refine wp_dec (fun hc => ?_) fun _ => hK _ ⟨_, l, u, _, rfl, ⟨i3, h3, rfl, p3⟩, hw⟩
    refine wp_cur (drift_w hb p3) fun i4 h4 x4 p4 q4 => ?_
    refine wp_cap (by simp; omega) ?_
    refine wp_cur (below_w hb p4 (by omega)) fun i5 h5 x5 p5 q5 => ?_
    dsimp only
    rw [w64_id (n := u + 1) (by omega) (by omega), w64_id (n := u + 1 + x5) (by omega) (by omega), w64_id (n := (j : Int) - 1) (by omega) (by omega)]
    have hj : 1 ≤ j := by omega
    refine hrec (j - 1) _ (by omega) ⟨_, l ++ [⟨u, ⟨x4.X, x4.Y⟩⟩], u + 1 + x5, by rw [Int.natCast_sub hj]; rfl, ⟨i5, h5, rfl, p5⟩, ⟨?_, ?_, ?_⟩, by simp; omega, by omega, by simp; omega, fun a ha => ?_⟩
    · simp; omega
    · intro g hg
      rcases List.mem_append.mp hg with hg | hg
      · exact hw.gust g hg
      · rw [List.mem_singleton] at hg
        subst hg
        refine ⟨⟨hu0, by simp only; omega⟩, ?_⟩
        unfold isDr
        rw [wi_of (by simp only; omega) (by simp only; omega), wi_of (by simp only; omega) (by simp only; omega)]; rfl
    · exact adj_snoc hw.lt hlt
    · have e : (l ++ [(⟨u, ⟨x4.X, x4.Y⟩⟩ : Gust)]).length - 1 = l.length := by simp
      rw [e, List.getElem?_append_right (Nat.le_refl _), Nat.sub_self] at ha
      simp at ha
      subst ha
      simp only; omega
  · rintro _ ⟨_, l, u, k, rfl, ⟨i3, h3, rfl, p3⟩, hw⟩
    exact wp_ret p3 hw
/-! ### Scores -/
theorem score_nil : ScoreP [] := ⟨by simp, (fun d hd => by cases hd), (fun i d e hd => by simp at hd)⟩
theorem copyC (l : List Cue) (hl : l.length ≤ 1048576) : G122 (l, ()) = some (l, ()) := by
  unfold G122 F122
  rw [capK_le (by simp; omega)]; rfl
def cueD (t : Int) (c : Cue) : Prop := (0 ≤ c.Tick ∧ c.Tick < t) ∧ c.Name.length ≤ 9 ∧ (0 ≤ c.Level ∧ c.Level ≤ 32) ∧ 0 ≤ c.Ramp ∧ c.Ramp ≤ 16
theorem name7_w {b : List Int} (hb : b.length ≤ 1099511627776) {i h : Int} (hi : 0 ≤ i) : wp (G120 ((b, i, h, ()), ())) (CurP b fun x => x.length ≤ 9) := by
  unfold G120 F120
  refine wp_cur (str_w hb hi (by simp)) fun i1 h1 x1 p1 q1 => wp_ret p1 ?_
  have := List.all_eq_true.mp (show List.all _ (fun x : Str => decide (x.length ≤ 9)) = true from by decide) x1 q1
  simpa using this
theorem cue_w {b : List Int} (hb : b.length ≤ 1099511627776) {i h : Int} (hi : 0 ≤ i) : wp (G70 ((b, i, h, ()), ())) (CurP b (cueD 14)) := by
  unfold G70 F70
  refine wp_cur (below_w hb hi (by omega)) fun i1 h1 x1 p1 q1 => ?_
  refine wp_cur (name7_w hb p1) fun i2 h2 x2 p2 q2 => ?_
  refine wp_cur (below_w hb p2 (by omega)) fun i3 h3 x3 p3 q3 => ?_
  refine wp_cur (int_w hb p3 (by simp)) fun i4 h4 x4 p4 q4 => ?_
  refine wp_ret p4 ⟨q1, q2, ⟨q3.1, by simp only; omega⟩, ?_⟩
  simp at q4
  simp only
  omega
theorem put_w {l : List Cue} (hl : l.length ≤ 1048576) (x : Cue) : wp (G121 (l, x, ())) (fun r => (r.2.1 = true → ∃ k, k ≤ l.length ∧ r.1 = insAt l k x ∧ (∀ (i : Nat) e, i < k → l[i]? = some e → cmpC e x < 0) ∧ ∀ e, l[k]? = some e → ¬ cmpC e x < 0 ∧ cmpC e x ≠ 0)) := by
  have hc : ∀ a b : Cue, G100 (a, b, ()) = some (cmpC a b, ()) := cmpCS
  unfold G121 F121
  refine wp_loop l.length (fun j t => ∃ k : Nat, t = (l, x, (k : Int), ()) ∧ k + j = l.length ∧ ∀ (i : Nat) e, i < k → l[i]? = some e → cmpC e x < 0)
    (fun t => ∃ k : Nat, t = (l, x, (k : Int), ()) ∧ k ≤ l.length ∧ (∀ (i : Nat) e, i < k → l[i]? = some e → cmpC e x < 0) ∧ ∀ e, l[k]? = some e → ¬ cmpC e x < 0) (by omega) ⟨0, rfl, by omega, fun i e h => by omega⟩ ?_ ?_
  · rintro j _ ⟨k, rfl, hkj, g⟩ rec K hrec hK
    simp only [s121_0]
    by_cases hk : k < l.length
    · have hx : l[k]? = some l[k] := by simp
      have e1 : w64 ((k : Int) + 1) = ((k + 1 : Nat) : Int) := w64_id (by omega) (by omega)
      rw [cond_true_dec (by simp; omega), rdL_at hx, hc, e1]
      simp only [Option.bind_some]
      refine wp_dec (fun h => hrec (j - 1) _ (by omega) ⟨k + 1, rfl, by omega, fun i e hi he => ?_⟩) fun h => hK _ ⟨k, rfl, by omega, g, fun e he => by rw [hx] at he; cases he; exact h⟩
      by_cases hik : i = k
      · subst hik; rw [hx] at he; cases he; exact h
      · exact g i e (by omega) he
    · rw [cond_false_dec (by simp; omega)]
      exact hK _ ⟨k, rfl, by omega, g, fun e he => by rw [List.getElem?_eq_none (by omega)] at he; cases he⟩
  · rintro _ ⟨k, rfl, hk, g1, g2⟩
    have put : ∀ (hne : ∀ e, l[k]? = some e → cmpC e x ≠ 0), wp (okIf (0 ≤ (k : Int) ∧ (k : Int) ≤ List.length l) ((G122 ((List.take (Int.toNat (k : Int)) l), ())).bind fun x8 => capK (List.length x8.1 + List.length ([x] : List Cue)) (okIf (0 ≤ (k : Int) ∧ (k : Int) ≤ List.length l) (capK (List.length (x8.1 ++ ([x] : List Cue)) + List.length (List.drop (Int.toNat (k : Int)) l)) (some (((x8.1 ++ ([x] : List Cue)) ++ (List.drop (Int.toNat (k : Int)) l)), true, ())))))) (fun r => (r.2.1 = true → ∃ k, k ≤ l.length ∧ r.1 = insAt l k x ∧ (∀ (i : Nat) e, i < k → l[i]? = some e → cmpC e x < 0) ∧ ∀ e, l[k]? = some e → ¬ cmpC e x < 0 ∧ cmpC e x ≠ 0)) := fun hne => by
      refine wp_okIf ⟨by omega, by omega⟩ ?_
      rw [copyC _ (by simp; omega)]
      simp only [Option.bind_some]
      refine wp_cap (by simp; omega) (wp_okIf ⟨by omega, by omega⟩ (wp_cap (by simp; omega) (wp_some fun _ => ⟨k, hk, ?_, g1, fun e he => ⟨g2 e he, hne e he⟩⟩)))
      unfold insAt
      simp
    dsimp only
    refine wp_dec (fun hc1 => ?_) fun hc1 => put fun e he => by
      have : k < l.length := (List.getElem?_eq_some_iff.mp he).1
      simp at hc1; omega
    have hkl : k < l.length := by simpa using hc1
    have hx : l[k]? = some l[k] := by simp
    rw [rdL_at hx, hc]
    simp only [Option.bind_some]
    refine wp_dec (fun h0 => ?_) fun h0 => put fun e he => by rw [hx] at he; cases he; exact h0
    rw [copyC l hl]
    exact wp_some fun h => by cases h
theorem addCue_w {l : List Cue} (h : ScoreP l) {x : Cue} (hx : x.Name.length ≤ 1048576) : wp (G71 (l, x, ())) (fun r => ScoreP r.1 ∧ ∀ e ∈ r.1, e ∈ l ∨ e = x) := by
  have hlen := h.len
  have hl : l.length ≤ 1048576 := by omega
  have hS : G50 (l, ()) = some (true, ()) := by rw [scS_is l (score_names h) hl, (scB_iff (score_names h) hl).2 h]
  have hC : G99 (x, ()) = some (isCue x, ()) := cueS x hx
  unfold G71 F71
  refine wp_bind (put_w hl x) fun r hr => ?_
  simp only [hS, hC, Option.bind_some, Bool.not_true, Bool.not_false, cond_true, copyC l hl]
  cases hcu : isCue x
  · exact wp_some ⟨h, fun e he => .inl he⟩
  simp only [Bool.not_true, Bool.not_false, cond_true]
  cases hb : r.2.1
  · exact wp_some ⟨h, fun e he => .inl he⟩
  simp only [Bool.not_true, Bool.not_false, cond_true]
  refine wp_dec (fun _ => wp_some ⟨h, fun e he => .inl he⟩) fun h12 => wp_some ?_
  obtain ⟨k, hk, e, g1, g2⟩ := hr hb
  simp only
  rw [e]
  exact ⟨score_ins h hk (fun e => h12 (by simp [e])) hcu g1 g2, fun e he => (insAt_mem.1 he).symm⟩
/-! ### Shows -/
theorem new_w {b : List Int} (hb : b.length ≤ 4096) : wp (G28 (b, ())) (fun r => ∃ h, r = ((b, 0, h, ()), ())) := by
  obtain ⟨h, e⟩ := new_ok b hb
  exact ⟨_, e, h, rfl⟩
theorem show_w {b : List Int} (hb : b.length ≤ 1099511627776) {i h : Int} (hi : 0 ≤ i) : wp (G29 ((b, i, h, ()), ())) (CurP b fun s : ShowT => ShowV s ∧ 1 ≤ s.1.length ∧ s.2.2.2.1 < 14 ∧ NearB s.1) := by
  unfold G29 F29
  refine wp_cur (rig_w hb hi) fun i1 h1 r p1 q1 => ?_
  refine wp_cur (wind_w hb p1) fun i2 h2 w p2 q2 => ?_
  refine wp_cur (below_w hb p2 (by omega)) fun i3 h3 T p3 q3 => ?_
  refine wp_cur (below_w hb p3 (by omega)) fun i4 h4 n p4 q4 => ?_
  dsimp only
  refine wp_loop n.toNat (fun j t => ∃ (c : Cur) (z : ShowT) (sc : List Cue), t = (c, z, (r, sc, w, T, ()), (j : Int), ()) ∧ curOK b c ∧ ScoreP sc ∧ j ≤ 6) (fun t => ∃ (c : Cur) (z : ShowT) (sc : List Cue) (k : Int), t = (c, z, (r, sc, w, T, ()), k, ()) ∧ curOK b c ∧ ScoreP sc)
    (by omega) ⟨_, _, [], by rw [Int.toNat_of_nonneg q4.1], ⟨i4, h4, rfl, p4⟩, score_nil, by omega⟩ ?_ ?_
  · rintro j _ ⟨_, z, sc, rfl, ⟨i5, h5, rfl, p5⟩, hs, hj⟩ rec K hrec hK
    simp only [s29_0]
    refine wp_dec (fun hc => ?_) fun _ => hK _ ⟨_, _, sc, _, rfl, ⟨i5, h5, rfl, p5⟩, hs⟩
    refine wp_cur (cue_w hb p5) fun i6 h6 x6 p6 q6 => ?_
    refine wp_cur (below_w hb p6 (by omega)) fun i7 h7 x7 p7 q7 => ?_
    refine wp_bind (addCue_w hs (x := ⟨x7, x6.Name, x6.Level, x6.Ramp⟩) (by have := q6.2.1; simp only; omega)) fun r' hr => ?_
    rw [w64_id (n := (j : Int) - 1) (by omega) (by omega)]
    exact hrec (j - 1) _ (by omega) ⟨_, _, r'.1, by rw [Int.natCast_sub (by omega)]; rfl, ⟨i7, h7, rfl, p7⟩, hr.1, by omega⟩
  · rintro _ ⟨_, z, sc, k, rfl, ⟨i5, h5, rfl, p5⟩, hs⟩
    exact wp_ret p5 ⟨show_valid (T := T) q1.1 hs q2 ⟨q3.1, by have := q3.2; omega⟩, q1.2.1, q3.2, q1.2.2⟩
end Ev
