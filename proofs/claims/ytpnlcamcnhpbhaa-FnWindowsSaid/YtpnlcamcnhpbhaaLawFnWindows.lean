/- A window of a track and the two rests, laid one behind the other, are the track again; their sums add up; no step of a window is greater than the track's: on no condition. -/
import Derived.Test.YtpnlcamcnhpbhaaRows
import Derived.Test.YtpnlcamcnhpbhaaCat
import Derived.Test.YtpnlcamcnhpbhaaWin
import Derived.Test.YtpnlcamcnhpbhaaPureA
import Derived.WalkKit
import Derived.ProofKit
import Derived.OpenShut
import Derived.ShutString
import Derived.ChangeOld
import Derived.Below
import Derived.SizedLaws
set_option linter.unusedVariables false
set_option linter.unusedSimpArgs false
set_option maxRecDepth 100000
namespace Ev
open Go
theorem joinI_is (l1 l2 : List Int) (h1 : l1.length ≤ 1048576) (h2 : l2.length ≤ 1048576) :
    G7 (l1, l2, ()) = some ((if (isTr l1 && isTr l2 && isTr (l1 ++ l2)) = true then l1 ++ l2 else []), (isTr l1 && isTr l2 && isTr (l1 ++ l2)), ()) := by
  unfold G7
  have e1 : G15 (l1, ()) = _ := F15_is l1 (by omega)
  have e2 : G15 (l2, ()) = _ := F15_is l2 (by omega)
  have e3 : G15 (l1 ++ l2, ()) = _ := F15_is (l1 ++ l2) (by simp; omega)
  simp only [e1, e2, e3, Option.bind_some]
  rw [if_pos ⟨by omega, by omega⟩]
theorem isTr_to {l : List Int} (h : isTr l = true) : l.length ≤ 64 ∧ ∀ x ∈ l, 0 ≤ x ∧ x ≤ 32 := by
  unfold isTr at h
  simp only [Bool.and_eq_true, decide_eq_true_eq] at h
  exact ⟨h.2, fun x hx => inR_mem h.1 hx⟩
theorem isTr_sub {l m : List Int} (h : isTr l = true) (hm : m.length ≤ l.length) (hs : ∀ x ∈ m, x ∈ l) : isTr m = true := by
  obtain ⟨h1, h2⟩ := isTr_to h
  unfold isTr
  simp only [Bool.and_eq_true, decide_eq_true_eq]
  refine ⟨List.all_eq_true.mpr fun x hx => ?_, by omega⟩
  have := h2 x (hs x hx)
  simp [inR, this.1, this.2]
/-- What is between two places, if they lie in a track. -/
def winOK (l : List Int) (i n : Int) : Bool := isTr l && decide (0 ≤ i) && decide (i ≤ n) && decide (n ≤ (l.length : Int))
def win (l : List Int) (i n : Int) : List Int := if winOK l i n = true then (l.take n.toNat).drop i.toNat else []
theorem winI_is (l : List Int) (hl : l.length ≤ 1048576) (i n : Int) : G13 (l, i, n, ()) = some (win l i n, winOK l i n, ()) := by
  have e1 : G15 (l, ()) = _ := F15_is l (by omega)
  unfold G13 F13
  simp only [e1, Option.bind_some]
  unfold win winOK
  cases isTr l
  · rfl
  by_cases c1 : i < 0
  · simp [c1, show ¬ 0 ≤ i by omega]
  by_cases c2 : n < i
  · simp [c1, c2, show ¬ i ≤ n by omega]
  by_cases c3 : n > (l.length : Int)
  · simp [c1, c2, c3, show ¬ n ≤ (l.length : Int) by omega]
  · have g1 : 0 ≤ i := by omega
    have g2 : i ≤ n := by omega
    have g3 : n ≤ (l.length : Int) := by omega
    have c3' : ¬ n > Int.ofNat l.length := c3
    simp only [c1, c2, c3', g1, g2, g3, decide_true, decide_false, Bool.not_true, Bool.not_false, cond_true, cond_false, Bool.and_self, if_true]
    rw [okIf_pos ⟨trivial, trivial, trivial⟩]
    have e2 : G26 (List.drop i.toNat (List.take n.toNat l), ()) = _ := F26_eq (List.drop i.toNat (List.take n.toNat l)) (by simp; omega)
    simp only [e2, Option.bind_some]
theorem winS_is (l : List Int) (hl : l.length ≤ 1048576) (i n : Int) : G14 (l, i, n, ()) = some (win l i n, winOK l i n, ()) := by
  have e1 : G19 (l, ()) = _ := F19_is l (by omega)
  unfold G14 F14
  simp only [e1, Option.bind_some]
  unfold win winOK
  cases isTr l
  · rfl
  by_cases c1 : i < 0
  · simp [c1, show ¬ 0 ≤ i by omega]
  by_cases c2 : n < i
  · simp [c1, c2, show ¬ i ≤ n by omega]
  by_cases c3 : n > (l.length : Int)
  · simp [c1, c2, c3, show ¬ n ≤ (l.length : Int) by omega]
  · have g1 : 0 ≤ i := by omega
    have g2 : i ≤ n := by omega
    have g3 : n ≤ (l.length : Int) := by omega
    have c3' : ¬ n > Int.ofNat l.length := c3
    simp only [c1, c2, c3', g1, g2, g3, decide_true, decide_false, Bool.not_true, Bool.not_false, cond_true, cond_false, Bool.and_self, if_true]
    rw [okIf_pos ⟨trivial, trivial, trivial⟩, capK_le (by simp; omega)]
    rfl
/-- The sum of a track. -/
def tsum : List Int → Int
  | [] => 0
  | x :: l => x + tsum l
theorem tsum_app : ∀ l m : List Int, tsum (l ++ m) = tsum l + tsum m
  | [], m => by simp [tsum]
  | x :: l, m => by simp only [List.cons_append, tsum, tsum_app l m]; omega
theorem tsum_le : ∀ (l : List Int), (∀ x ∈ l, 0 ≤ x ∧ x ≤ 32) → 0 ≤ tsum l ∧ tsum l ≤ 32 * (l.length : Int)
  | [], _ => by simp [tsum]
  | x :: l, h => by
    have h1 := h x (by simp)
    have h2 := tsum_le l fun y hy => h y (by simp [hy])
    simp only [tsum, List.length_cons]
    omega
theorem sumI_is (l : List Int) (h : isTr l = true) : G17 (l, ()) = some (tsum l, ()) := by
  obtain ⟨h1, h2⟩ := isTr_to h
  have e1 : G15 (l, ()) = _ := F15_is l (by omega)
  have e2 : G28 (l, ()) = some (tsum l, ()) := by
    unfold G28 F28
    obtain ⟨t, ⟨_, rfl⟩, e⟩ := iterF_all (f := s28_0) (K := fun t3 => some (t3.1, ())) (t := (0, l, Int.ofNat l.length, 0, ())) l.length
      (fun i t => True ∧ t = (tsum (l.take i), l, Int.ofNat l.length, (i : Int), ())) (by omega) ⟨trivial, rfl⟩
      (by
        rintro i _ hi ⟨_, rfl⟩
        have hx : l[i]? = some l[i] := by simp
        refine ⟨_, ⟨trivial, rfl⟩, fun rec K => ?_⟩
        simp only [s28_0]
        have hs : tsum (l.take (i + 1)) = tsum (l.take i) + l[i] := by
          rw [List.take_add_one, hx, tsum_app]; simp [tsum]
        have hb := tsum_le (l.take (i + 1)) fun y hy => h2 y (List.mem_of_mem_take hy)
        have hlen : (l.take (i + 1)).length ≤ 64 := by simp; omega
        rw [cond_true_dec (by simp; omega), rdL_at hx, w64_id (n := tsum (l.take i) + l[i]) (by omega) (by omega), w64_id (by omega) (by omega), hs]
        rfl)
      (by
        rintro _ ⟨_, rfl⟩ rec K
        simp only [s28_0]
        rw [cond_false_dec (by simp)])
    rw [List.take_length] at e
    exact e
  unfold G17 F17
  simp only [e1, h, e2, Option.bind_some, Bool.not_true, cond_false]
/-- A number is the greatest step of a list. -/
def Great (l : List Int) (n : Nat) (m : Int) : Prop := 0 ≤ m ∧ m ≤ 32 ∧ (∀ j : Nat, j + 1 < n → ∀ x y, l[j]? = some x → l[j + 1]? = some y → y - x ≤ m ∧ x - y ≤ m) ∧
  (m = 0 ∨ ∃ (j : Nat) (x y : Int), j + 1 < n ∧ l[j]? = some x ∧ l[j + 1]? = some y ∧ (m = y - x ∨ m = x - y))
theorem stepI_is (l : List Int) (h : isTr l = true) : ∃ m, G18 (l, ()) = some (m, ()) ∧ Great l l.length m := by
  obtain ⟨h1, h2⟩ := isTr_to h
  have e1 : G15 (l, ()) = _ := F15_is l (by omega)
  unfold G18 F18
  simp only [e1, h, Option.bind_some, Bool.not_true, cond_false]
  cases l with
  | nil =>
    refine ⟨0, ?_, by omega, by omega, fun j hj => by simp at hj, .inl rfl⟩
    rw [show fuel = (fuel - 1) + 1 by rw [fuel_eq], iterF_succ]
    rfl
  | cons z r =>
    generalize hl : z :: r = l at *
    have hp : 1 ≤ l.length := by rw [← hl]; simp
    clear hl
    obtain ⟨t, ⟨m, rfl, hm⟩, e⟩ := iterF_all (f := s18_0 G15) (K := fun t7 => some (t7.2.1, ())) (t := (l, 0, 1, ())) (l.length - 1)
      (fun i t => ∃ m, t = (l, m, ((i + 1 : Nat) : Int), ()) ∧ Great l (i + 1) m) (by omega) ⟨0, rfl, by omega, by omega, fun j hj => by omega, .inl rfl⟩
      (by
        rintro i _ hi ⟨m, rfl, m0, m1, m2, m3⟩
        have hx : l[i]? = some l[i] := by simp
        have hy : l[i + 1]? = some l[i + 1] := by simp
        have bx := h2 l[i] (by simp)
        have by' := h2 l[i + 1] (by simp)
        have ew : w64 (((i + 1 : Nat) : Int) - 1) = (i : Int) := by rw [w64_id (by omega) (by omega)]; omega
        refine ⟨_, ⟨mx (mx m (l[i + 1] - l[i])) (l[i] - l[i + 1]), rfl, ?_⟩, fun rec K => ?_⟩
        · simp only [mx_eq]
          refine ⟨by split <;> split <;> omega, by split <;> split <;> omega, fun j hj x y gx gy => ?_, ?_⟩
          · rcases Nat.lt_or_ge (j + 1) (i + 1) with g | g
            · have := m2 j g x y gx gy
              split <;> split <;> omega
            · obtain rfl : j = i := by omega
              rw [hx] at gx; rw [hy] at gy
              cases gx; cases gy
              split <;> split <;> omega
          · have old : (m = 0 ∨ ∃ (j : Nat) (x y : Int), j + 1 < i + 1 + 1 ∧ l[j]? = some x ∧ l[j + 1]? = some y ∧ (m = y - x ∨ m = x - y)) := by
              rcases m3 with g | ⟨j, x, y, g1, g2, g3, g4⟩
              · exact .inl g
              · exact .inr ⟨j, x, y, by omega, g2, g3, g4⟩
            split
            · split
              · exact .inr ⟨i, _, _, by omega, hx, hy, .inr rfl⟩
              · exact .inr ⟨i, _, _, by omega, hx, hy, .inl rfl⟩
            · split
              · exact .inr ⟨i, _, _, by omega, hx, hy, .inr rfl⟩
              · exact old
        · simp only [s18_0]
          rw [cond_true_dec (by simp; omega), rdL_at hy, ew, rdL_at hx, rdL_at hx, rdL_at hy, w64_id (n := ((i + 1 : Nat) : Int) + 1) (by omega) (by omega), w64_id (n := l[i + 1] - l[i]) (by omega) (by omega), w64_id (n := l[i] - l[i + 1]) (by omega) (by omega)]
          rfl)
      (by
        rintro _ ⟨m, rfl, _⟩ rec K
        simp only [s18_0]
        rw [cond_false_dec (by simp; omega)])
    rw [show l.length - 1 + 1 = l.length by omega] at hm
    exact ⟨m, e, hm⟩
theorem great_part {l m : List Int} {s : Nat} {a b : Int} (hm : ∀ (j : Nat) (x : Int), m[j]? = some x → l[j + s]? = some x) (ga : Great m m.length a) (gb : Great l l.length b) : a ≤ b := by
  rcases ga.2.2.2 with h | ⟨j, x, y, hj, hx, hy, hc⟩
  · rw [h]; exact gb.1
  · have kx := hm j x hx
    have ky := hm (j + 1) y hy
    rw [show j + 1 + s = j + s + 1 by omega] at ky
    have hlt : j + s + 1 < l.length := (List.getElem?_eq_some_iff.mp ky).1
    have := gb.2.2.1 (j + s) hlt x y kx ky
    omega
theorem drawWin_ok (b : List Int) (hb : b.length ≤ 4096) : ∃ l i n, G12 (b, ()) = some (l, i, n, ()) ∧ (∀ x ∈ l, i64R x) ∧ l.length ≤ 65 ∧ i64R i ∧ i64R n := by
  obtain ⟨h, e⟩ := new_ok b hb
  have e' : G21 (b, ()) = _ := e
  obtain ⟨i1, h1, l, e1, p1, q1, q2⟩ := any8_ok b (by omega) 0 h (by omega)
  have e1' : G22 ((b, 0, h, ()), ()) = _ := e1
  obtain ⟨i2, h2, o, e2, p2⟩ := once_ok b (by omega) i1 h1 p1 6 (by omega) (by omega)
  have e2' : G23 ((b, i1, h1, ()), 6, ()) = _ := e2
  unfold G12 F12
  simp only [e', e1', e2', Option.bind_some]
  cases o with
  | true =>
    obtain ⟨i3, h3, x, e3, p3, x1⟩ := odd_ok b (by omega) i2 h2 p2
    have e3' : G24 ((b, i2, h2, ()), ()) = _ := e3
    obtain ⟨i4, h4, y, e4, p4, y1⟩ := odd_ok b (by omega) i3 h3 p3
    have e4' : G24 ((b, i3, h3, ()), ()) = _ := e4
    simp only [e3', e4', Option.bind_some, cond_true]
    exact ⟨_, _, _, rfl, q1, q2, x1, y1⟩
  | false =>
    have w1 : w64 (Int.ofNat l.length + 1) = (l.length : Int) + 1 := w64_id (by simp; omega) (by simp; omega)
    obtain ⟨i3, h3, x, e3, p3, x0, x1⟩ := below_ok b (by omega) i2 h2 p2 ((l.length : Int) + 1) (by omega) (by omega)
    have e3' : G25 ((b, i2, h2, ()), (l.length : Int) + 1, ()) = _ := e3
    have w2 : w64 (w64 (Int.ofNat l.length - x) + 2) = (l.length : Int) - x + 2 := by
      rw [w64_id (n := Int.ofNat l.length - x) (by simp; omega) (by simp; omega), w64_id (by simp; omega) (by simp; omega)]; simp
    obtain ⟨i4, h4, y, e4, p4, y0, y1⟩ := below_ok b (by omega) i3 h3 p3 ((l.length : Int) - x + 2) (by omega) (by omega)
    have e4' : G25 ((b, i3, h3, ()), (l.length : Int) - x + 2, ()) = _ := e4
    simp only [w1, e3', w2, e4', Option.bind_some, cond_false]
    rw [w64_id (n := x + y) (by omega) (by omega)]
    exact ⟨_, _, _, rfl, q1, q2, by unfold i64R; omega, by unfold i64R; omega⟩
theorem eqI_is (l : List Int) (hl : l.length ≤ 1048576) : G16 (l, l, ()) = some (true, ()) := by
  unfold G16 F16
  simp only [decide_true, Bool.not_true, cond_false]
  obtain ⟨t, ⟨_, rfl⟩, e⟩ := iterF_all (f := s16_0) (K := fun _ => some (true, ())) (t := (l, l, 0, ())) l.length
    (fun i t => True ∧ t = (l, l, (i : Int), ())) (by omega) ⟨trivial, rfl⟩
    (by
      rintro i _ hi ⟨_, rfl⟩
      have hx : l[i]? = some l[i] := by simp
      refine ⟨_, ⟨trivial, rfl⟩, fun rec K => ?_⟩
      simp only [s16_0]
      rw [cond_dec, if_pos (by simp; omega), rdL_at hx, rdL_at hx, w64_id (by omega) (by omega)]
      simp)
    (by
      rintro _ ⟨_, rfl⟩ rec K
      simp only [s16_0]
      rw [cond_dec, if_neg (by simp)])
  exact e
theorem G4_eq (b : List Int) (hw : (∀ d ∈ b, Wf .u8 d) ∧ b.length ≤ maxLen) : G4 (b, ()) = some (true, ()) := by
  unfold G4 F4
  simp only [G11, F11, Option.bind_some]
  by_cases hb : b.length ≤ 4096
  · rw [cond_false_dec (by simp; omega)]
    obtain ⟨l, i, n, e0, hl, hlen, hi, hn⟩ := drawWin_ok b hb
    have eT : G15 (l, ()) = _ := F15_is l (by omega)
    simp only [e0, Option.bind_some, winI_is l (by omega), winS_is l (by omega), decide_true, Bool.not_true, cond_false, eT]
    cases ht : isTr l with
    | false =>
      have : winOK l i n = false := by unfold winOK; rw [ht]; rfl
      simp [this]
    | true =>
      simp only [Bool.not_true, cond_false]
      cases hk : winOK l i n with
      | false =>
        have hk' := hk
        unfold winOK at hk'
        rw [ht] at hk'
        simp only [Bool.not_false, cond_true]
        by_cases c1 : i < 0
        · simp [c1]
        by_cases c2 : n < i
        · simp [c1, c2]
        have g1 : 0 ≤ i := by omega
        have g2 : i ≤ n := by omega
        simp [g1, g2] at hk'
        simp [c1, c2]
        exact hk'
      | true =>
        have hk' := hk
        unfold winOK at hk'
        simp only [Bool.and_eq_true, decide_eq_true_eq] at hk'
        obtain ⟨⟨⟨_, g1⟩, g2⟩, g3⟩ := hk'
        obtain ⟨a, rfl⟩ := Int.eq_ofNat_of_zero_le g1
        obtain ⟨c, rfl⟩ := Int.eq_ofNat_of_zero_le (show 0 ≤ n by omega)
        have q1 : winOK l 0 (a : Int) = true := by
          unfold winOK; rw [ht]; simp; omega
        have q2 : winOK l (c : Int) (l.length : Int) = true := by
          unfold winOK; rw [ht]; simp; omega
        have hac : a ≤ c := by omega
        have hcl : c ≤ l.length := by omega
        have u1 : win l 0 (a : Int) = l.take a := by unfold win; rw [if_pos q1]; simp
        have u2 : win l (c : Int) (l.length : Int) = l.drop c := by unfold win; rw [if_pos q2]; simp
        have u3 : win l (a : Int) (c : Int) = (l.take c).drop a := by unfold win; rw [if_pos hk]; simp
        have v1 : l.take a ++ (l.take c).drop a = l.take c := by
          have := List.take_append_drop a (l.take c)
          rwa [List.take_take, Nat.min_eq_left hac] at this
        have v2 : l.take c ++ l.drop c = l := List.take_append_drop c l
        have t1 : isTr (l.take a) = true := isTr_sub ht (by simp; omega) fun x hx => List.mem_of_mem_take hx
        have t2 : isTr (l.drop c) = true := isTr_sub ht (by simp) fun x hx => List.mem_of_mem_drop hx
        have t3 : isTr ((l.take c).drop a) = true := isTr_sub ht (by simp; omega) fun x hx => List.mem_of_mem_take (List.mem_of_mem_drop hx)
        have t4 : isTr (l.take c) = true := isTr_sub ht (by simp; omega) fun x hx => List.mem_of_mem_take hx
        have j1 := joinI_is (l.take a) ((l.take c).drop a) (by simp; omega) (by simp; omega)
        rw [v1, t1, t3, t4] at j1
        have j2 := joinI_is (l.take c) (l.drop c) (by simp; omega) (by simp; omega)
        rw [v2, t4, t2, ht] at j2
        simp only [Bool.and_self, if_true] at j1 j2
        obtain ⟨m1, k1, k1'⟩ := stepI_is _ t3
        obtain ⟨m2, k2, k2'⟩ := stepI_is _ ht
        have hmm : m1 ≤ m2 := great_part (s := a) (fun j x hx => by
          rw [List.getElem?_drop] at hx
          have hlt := (List.getElem?_eq_some_iff.mp hx).1
          rw [List.getElem?_take_of_lt (by simp at hlt; omega)] at hx
          rw [Nat.add_comm j a]; exact hx) k1' k2'
        have s1 := sumI_is _ t1
        have s2 := sumI_is _ t2
        have s3 := sumI_is _ t3
        have s4 := sumI_is _ ht
        have hs : tsum (l.take a) + tsum ((l.take c).drop a) + tsum (l.drop c) = tsum l := by
          rw [← tsum_app, v1, ← tsum_app, v2]
        have b1 := tsum_le _ (isTr_to t1).2
        have b2 := tsum_le _ (isTr_to t2).2
        have b3 := tsum_le _ (isTr_to t3).2
        have b4 := tsum_le _ (isTr_to ht).2
        have d1 := (isTr_to t1).1
        have d2 := (isTr_to t2).1
        have d3 := (isTr_to t3).1
        have w1 : w64 (tsum (l.take a) + tsum ((l.take c).drop a)) = tsum (l.take a) + tsum ((l.take c).drop a) := w64_id (by omega) (by omega)
        have w2 : w64 (tsum (l.take a) + tsum ((l.take c).drop a) + tsum (l.drop c)) = tsum (l.take a) + tsum ((l.take c).drop a) + tsum (l.drop c) := w64_id (by omega) (by omega)
        have w3 : w64 (tsum l) = tsum l := by rw [hs] at w2; exact w2
        have z0 : (Int.ofNat l.length) = (l.length : Int) := rfl
        simp only [Bool.not_true, cond_false, z0, u1, u2, u3, j1, j2, Option.bind_some, cond_true, eqI_is l (by omega), s1, s2, s3, s4, w1, w3, hs, k1, k2, decide_true, hmm]
  · rw [cond_true_dec (by simp; omega)]
end Ev
namespace Go.Proofs.Ytpnlcamcnhpbhaa.fnWindows
open Go.ChangeShapes Go.WideShapes Go.ChangeAt Go.RowKit
open Go.ChangeMaps (open_string shut_string)
theorem own : ownKnob Try.prog.godebug = none := by kernel_rfl
theorem laidOut : laidOutB Try.prog = true := by kernel_rfl
theorem lifted (os : Os) (started : os.Started) (H : Type) (enc : TypeId × Value → H) :
    ReturnsInHanded {} Try.checked os 4 .any (Rows.fnWindowsSpec.pre6 enc Try.prog Try.f4 Rows.fnWindowsRow.domain false) (Rows.fnWindowsSpec.post enc Try.prog Try.f4 false true false false) := by
  refine returnsInHanded_of_change_sized (C := Try.checked) own started (by kernel_rfl) Try.func4
    (ChangeSpec.witness6 (enc := enc) (C := Try.checked) false ⟨#[], #[.slice none 0 0], []⟩ 8 (by kernel_rfl) (by kernel_rfl) (by kernel_rfl) (by kernel_rfl)) ?_
  intro W base args ds gs before hval0 hW hcnd hsz0 _
  have hval : ∀ (j : Nat) t v, Try.f4.params[j]? = some t → args[j]? = some v → Value.okWide Try.prog W .any base t v := hval0
  have hW' := hW
  obtain ⟨p, q, hA0, hV, rfl, hfz, hnd⟩ := hW
  have hA : DataW.TrodAll enc Try.prog W 0 (fun _ => true) true Try.f4.params.toList args.toList ds p := hA0
  rw [Try.params4] at hA hval
  obtain ⟨v0, vs0, d0, ds0, p0, q0, hargs, rfl, rfl, h0, r0⟩ := trodAll_cons hA
  obtain ⟨rfl, rfl, rfl⟩ := trodAll_nil r0
  obtain rfl : args = #[v0] := by cases args; simp_all
  obtain ⟨rfl, rfl⟩ := trodVars_none hV
  obtain ⟨a0, len0, cap0, rfl⟩ := okWide_slice Try.underlying28 (hval 0 28 v0 rfl rfl)
  have k0 := h0
  have lt0 : ∀ x ∈ p0, x.block < W.heap.size := by obtain ⟨m, hm⟩ := k0; exact DataW.trod_lt m _ _ _ hm
  obtain ⟨zs0, hrel0, wf0, ml0⟩ : ∃ l : List (Ev.Ty.den .u8), Ev.RelA (fun _ => none) (fun b => b < W.heap.size) W (.lst .u8 l) (.slice a0 len0 cap0) ∧ (∀ d ∈ l, Ev.Wf .u8 d) ∧ l.length ≤ maxLen := by
    obtain ⟨fuel, hf⟩ := h0
    exact Ev.open_rows (l := [(5, .u8)]) (by kernel_rfl) (by kernel_rfl) hf
  clear hA0 hval0 hsz0
  refine (Ev.calls_true (av := [.lst .u8 zs0]) (out := []) Ev.okG4 (by
    exact Ev.sem_of (ps := Ev.p4) (rs := Ev.r4) (a := (zs0, ())) rfl (Ev.G4_eq zs0 (And.intro wf0 ml0))) (w := W) (ca := #[.slice a0 len0 cap0]) (fun x hx => absurd (show x ∈ ([] : List (Nat × (Array Value → Prop))) from hx) (by simp)) rfl (Ev.args_arr (Ev.argsS (hrel0) Ev.args0))).mono fun e W' ⟨he, bel⟩ => ?_
  subst he
  exact ⟨_, rfl, _, _, _, [], _, [], hW', trodAll_mk1 (shut_bool Try.underlying4 _), (trodAll_cons_mk (Below.trod laidOut (by kernel_rfl) (of_decide_eq_true (by kernel_rfl)) k0 bel lt0) trodAll_mk0), rfl, bel.frame _, fun h => by cases h⟩
theorem over : Rows.fnWindowsRow.holds Try.pinned (OpenSpec.ofChange Rows.fnWindowsSpec) :=
  OpenClaim.holds_of_wide 4 Try.f4 rfl rfl rfl rfl rfl rfl rfl ⟨rfl, rfl, rfl, rfl, rfl⟩ rfl rfl rfl rfl rfl (by kernel_rfl) Try.func4 (by kernel_rfl)
    (of_decide_eq_true (by kernel_rfl)) (by unfold Func.isWrapper; first | (rw [if_pos (by decide +kernel)]; kernel_rfl) | (rw [if_neg (by decide +kernel)]; exact ⟨rfl, rfl⟩))
    (fun os started H enc _ => lifted os started H enc)
theorem proved : Rows.FnWindowsSaid := over
#print axioms proved
end Go.Proofs.Ytpnlcamcnhpbhaa.fnWindows
