/- Plain facts of blocks: eight numbers each. -/
import Derived.Test.YtmnahocockdpcaaFact2
set_option linter.unusedVariables false
set_option linter.unusedSimpArgs false
namespace Ev
open Go
def bset (b : Block) (k : Nat) (x : Int) : Block := match k with
  | 0 => ⟨x, b.b1, b.b2, b.b3, b.b4, b.b5, b.b6, b.b7⟩
  | 1 => ⟨b.b0, x, b.b2, b.b3, b.b4, b.b5, b.b6, b.b7⟩
  | 2 => ⟨b.b0, b.b1, x, b.b3, b.b4, b.b5, b.b6, b.b7⟩
  | 3 => ⟨b.b0, b.b1, b.b2, x, b.b4, b.b5, b.b6, b.b7⟩
  | 4 => ⟨b.b0, b.b1, b.b2, b.b3, x, b.b5, b.b6, b.b7⟩
  | 5 => ⟨b.b0, b.b1, b.b2, b.b3, b.b4, x, b.b6, b.b7⟩
  | 6 => ⟨b.b0, b.b1, b.b2, b.b3, b.b4, b.b5, x, b.b7⟩
  | _ => ⟨b.b0, b.b1, b.b2, b.b3, b.b4, b.b5, b.b6, x⟩
def fill (b : Block) (g : Nat → Int) : Nat → Block
  | 0 => b
  | k + 1 => bset (fill b g k) k (g k)
def zb : Block := ⟨0, 0, 0, 0, 0, 0, 0, 0⟩
theorem k8 {k : Nat} (h : k < 8) : k = 0 ∨ k = 1 ∨ k = 2 ∨ k = 3 ∨ k = 4 ∨ k = 5 ∨ k = 6 ∨ k = 7 := by omega
theorem fill8 (b : Block) (g : Nat → Int) : fill b g 8 = ⟨g 0, g 1, g 2, g 3, g 4, g 5, g 6, g 7⟩ := rfl
theorem F60_is (a b : Int) : F60 (a, b, ()) = some (mn a b, ()) := by
  unfold F60
  rw [cond_dec, mn_eq]
  simp only []
  split <;> split <;> first | rfl | omega | (congr 2; omega)
/-- The element of a list at a place, or the last one behind its end. -/
def lastAt (l : List Int) (i : Nat) : Int := l.getD (min i (l.length - 1)) 0
theorem lastAt_at {l : List Int} (h : 0 < l.length) (i : Nat) : l[min i (l.length - 1)]? = some (lastAt l i) := by
  unfold lastAt
  rw [List.getD_eq_getElem?_getD, List.getElem?_eq_getElem (by omega)]; rfl
theorem mn_last {l : List Int} (hl : l.length ≤ 1048576) (h : 0 < l.length) (i k : Nat) (hi : i < 2097152) (hk : k < 8) : mn (w64 ((i : Int) + (k : Int))) (w64 (Int.ofNat l.length - 1)) = ((min (i + k) (l.length - 1) : Nat) : Int) := by
  rw [w64_id (by omega) (by omega), w64_id (by simp; omega) (by simp; omega), mn_eq]
  simp only [Int.ofNat_eq_natCast]
  split <;> omega
theorem round43 (l : List Int) (hl : l.length ≤ 1048576) (h : 0 < l.length) (out : List Block) (i : Nat) (hi : i < 2097152) (b : Block) (k : Nat) (hk : k < 8) (rec K) :
    s43_2 (F15 F54) F60 (l, out, (i : Int), b, (k : Int), ()) rec K = rec (l, out, (i : Int), bset b k (lastAt l (i + k)), ((k + 1 : Nat) : Int), ()) := by
  have hx := lastAt_at h (i + k)
  have hm := mn_last hl h i k hi hk
  simp only [s43_2]
  rw [cond_true_dec (by omega), F60_is, Option.bind_some, hm, rdL_at hx, w64_id (n := (k : Int) + 1) (by omega) (by omega)]
  rcases k8 hk with rfl | rfl | rfl | rfl | rfl | rfl | rfl | rfl <;> rfl
theorem inner43 (l : List Int) (hl : l.length ≤ 1048576) (h : 0 < l.length) (out : List Block) (i : Nat) (hi : i < 2097152) (K) :
    iterF (s43_2 (F15 F54) F60) fuel (l, out, (i : Int), (⟨0, 0, 0, 0, 0, 0, 0, 0⟩ : Block), 0, ()) K = K (l, out, (i : Int), fill zb (fun k => lastAt l (i + k)) 8, 8, ()) := by
  obtain ⟨t, ⟨_, rfl⟩, e⟩ := iterF_all (f := s43_2 (F15 F54) F60) (K := K) (t := (l, out, (i : Int), (⟨0, 0, 0, 0, 0, 0, 0, 0⟩ : Block), 0, ())) 8
    (fun j t => True ∧ t = (l, out, (i : Int), fill zb (fun k => lastAt l (i + k)) j, (j : Int), ())) (by omega) ⟨trivial, rfl⟩
    (by
      rintro j _ hj ⟨_, rfl⟩
      exact ⟨_, ⟨trivial, rfl⟩, fun rec K => round43 l hl h out i hi _ j hj rec K⟩)
    (by
      rintro _ ⟨_, rfl⟩ rec K
      simp only [s43_2]
      rw [cond_false_dec (by omega)])
  exact e
theorem round31 (l : List Int) (hl : l.length ≤ 1048576) (h : 0 < l.length) (out : List Block) (i : Nat) (hi : i < 2097152) (b : Block) (k : Nat) (hk : k < 8) (rec K) :
    s31_2 (F17 F55) (l, out, (i : Int), b, (k : Int), ()) rec K = rec (l, out, (i : Int), bset b k (lastAt l (i + k)), ((k + 1 : Nat) : Int), ()) := by
  have hx := lastAt_at h (i + k)
  have hm := mn_last hl h i k hi hk
  simp only [s31_2]
  rw [cond_true_dec (by omega), hm, rdL_at hx, w64_id (n := (k : Int) + 1) (by omega) (by omega)]
  rcases k8 hk with rfl | rfl | rfl | rfl | rfl | rfl | rfl | rfl <;> rfl
theorem inner31 (l : List Int) (hl : l.length ≤ 1048576) (h : 0 < l.length) (out : List Block) (i : Nat) (hi : i < 2097152) (K) :
    iterF (s31_2 (F17 F55)) fuel (l, out, (i : Int), (⟨0, 0, 0, 0, 0, 0, 0, 0⟩ : Block), 0, ()) K = K (l, out, (i : Int), fill zb (fun k => lastAt l (i + k)) 8, 8, ()) := by
  obtain ⟨t, ⟨_, rfl⟩, e⟩ := iterF_all (f := s31_2 (F17 F55)) (K := K) (t := (l, out, (i : Int), (⟨0, 0, 0, 0, 0, 0, 0, 0⟩ : Block), 0, ())) 8
    (fun j t => True ∧ t = (l, out, (i : Int), fill zb (fun k => lastAt l (i + k)) j, (j : Int), ())) (by omega) ⟨trivial, rfl⟩
    (by
      rintro j _ hj ⟨_, rfl⟩
      exact ⟨_, ⟨trivial, rfl⟩, fun rec K => round31 l hl h out i hi _ j hj rec K⟩)
    (by
      rintro _ ⟨_, rfl⟩ rec K
      simp only [s31_2]
      rw [cond_false_dec (by omega)])
  exact e
def blk (l : List Int) (j : Nat) : Block := fill zb (fun k => lastAt l (8 * j + k)) 8
def blocks (l : List Int) : List Block := (List.range ((l.length + 7) / 8)).map (blk l)
theorem blocks_len (l : List Int) : (blocks l).length = (l.length + 7) / 8 := by simp [blocks]
theorem range_map (f : Nat → Block) (j : Nat) : (List.range j).map f ++ [f j] = (List.range (j + 1)).map f := by
  rw [List.range_succ, List.map_append]; rfl
theorem F43_eq (l : List Int) (hl : l.length ≤ 1048576) : F43 (F15 F54) F60 (l, ()) = some (if isTr l = true then blocks l else [], ()) := by
  unfold F43
  by_cases h : isTr l = true
  · rw [if_pos h]
    obtain ⟨t, ⟨_, rfl⟩, e⟩ := iterF_all (f := s43_0 (F15 F54) F60) (K := fun t7 => some (t7.2.1, ())) (t := (l, ([] : List Block), 0, ())) ((l.length + 7) / 8)
      (fun j t => True ∧ t = (l, (List.range j).map (blk l), ((8 * j : Nat) : Int), ())) (by omega) ⟨trivial, rfl⟩
      (by
        rintro j _ hj ⟨_, rfl⟩
        refine ⟨_, ⟨trivial, rfl⟩, fun rec K => ?_⟩
        simp only [s43_0]
        rw [cond_true_dec (by simp; omega), F15_is l (by omega), Option.bind_some, h, cond_true, inner43 l hl (by omega) _ _ (by omega)]
        simp only []
        rw [capK_le (by simp; omega), w64_id (by omega) (by omega)]
        have : (List.range j).map (blk l) ++ [fill zb (fun k => lastAt l (8 * j + k)) 8] = (List.range (j + 1)).map (blk l) := range_map (blk l) j
        rw [this, show ((8 * j : Nat) : Int) + 8 = ((8 * (j + 1) : Nat) : Int) by omega])
      (by
        rintro _ ⟨_, rfl⟩ rec K
        simp only [s43_0]
        rw [cond_false_dec (by simp; omega)])
    exact e
  · rw [if_neg h, show fuel = (fuel - 1) + 1 by rw [fuel_eq], iterF_succ]
    simp only [s43_0, F15_is l (by omega), Option.bind_some]
    rw [show isTr l = false by simpa using h]
    simp only [cond_false]
    cases decide ((0 : Int) < Int.ofNat l.length) <;> rfl
theorem F31_eq (l : List Int) (hl : l.length ≤ 1048576) : F31 (F17 F55) (l, ()) = some (if isTr l = true then blocks l else [], ()) := by
  unfold F31
  simp only [F17_is l (by omega), Option.bind_some]
  by_cases h : isTr l = true
  · rw [if_pos h, h]
    simp only [Bool.not_true, Bool.not_false, cond_true]
    by_cases h0 : l.length = 0
    · rw [cond_true_dec (by simp [h0])]
      simp [blocks, h0]
    · rw [cond_false_dec (by simpa using h0)]
      obtain ⟨t, ⟨_, rfl⟩, e⟩ := iterF_all (f := s31_0 (F17 F55)) (K := fun t7 => some (t7.2.1, ())) (t := (l, ([] : List Block), 0, ())) ((l.length + 7) / 8)
        (fun j t => True ∧ t = (l, (List.range j).map (blk l), ((8 * j : Nat) : Int), ())) (by omega) ⟨trivial, rfl⟩
        (by
          rintro j _ hj ⟨_, rfl⟩
          refine ⟨_, ⟨trivial, rfl⟩, fun rec K => ?_⟩
          simp only [s31_0]
          rw [cond_true_dec (by simp; omega), inner31 l hl (by omega) _ _ (by omega)]
          simp only []
          rw [capK_le (by simp; omega), w64_id (by omega) (by omega)]
          have : (List.range j).map (blk l) ++ [fill zb (fun k => lastAt l (8 * j + k)) 8] = (List.range (j + 1)).map (blk l) := range_map (blk l) j
          rw [this, show ((8 * j : Nat) : Int) + 8 = ((8 * (j + 1) : Nat) : Int) by omega])
        (by
          rintro _ ⟨_, rfl⟩ rec K
          simp only [s31_0]
          rw [cond_false_dec (by simp; omega)])
      exact e
  · rw [if_neg h, show isTr l = false by simpa using h]; rfl
/-! ### Equal, copied, marked -/
theorem r65_0 (a : Block) (rec K) : s65_0 (a, a, ((0 : Nat) : Int), ()) rec K = cond (!(decide (a.b0 = a.b0))) (some (false, ())) (rec (a, a, ((1 : Nat) : Int), ())) := by kernel_rfl
theorem r65_1 (a : Block) (rec K) : s65_0 (a, a, ((1 : Nat) : Int), ()) rec K = cond (!(decide (a.b1 = a.b1))) (some (false, ())) (rec (a, a, ((2 : Nat) : Int), ())) := by kernel_rfl
theorem r65_2 (a : Block) (rec K) : s65_0 (a, a, ((2 : Nat) : Int), ()) rec K = cond (!(decide (a.b2 = a.b2))) (some (false, ())) (rec (a, a, ((3 : Nat) : Int), ())) := by kernel_rfl
theorem r65_3 (a : Block) (rec K) : s65_0 (a, a, ((3 : Nat) : Int), ()) rec K = cond (!(decide (a.b3 = a.b3))) (some (false, ())) (rec (a, a, ((4 : Nat) : Int), ())) := by kernel_rfl
theorem r65_4 (a : Block) (rec K) : s65_0 (a, a, ((4 : Nat) : Int), ()) rec K = cond (!(decide (a.b4 = a.b4))) (some (false, ())) (rec (a, a, ((5 : Nat) : Int), ())) := by kernel_rfl
theorem r65_5 (a : Block) (rec K) : s65_0 (a, a, ((5 : Nat) : Int), ()) rec K = cond (!(decide (a.b5 = a.b5))) (some (false, ())) (rec (a, a, ((6 : Nat) : Int), ())) := by kernel_rfl
theorem r65_6 (a : Block) (rec K) : s65_0 (a, a, ((6 : Nat) : Int), ()) rec K = cond (!(decide (a.b6 = a.b6))) (some (false, ())) (rec (a, a, ((7 : Nat) : Int), ())) := by kernel_rfl
theorem r65_7 (a : Block) (rec K) : s65_0 (a, a, ((7 : Nat) : Int), ()) rec K = cond (!(decide (a.b7 = a.b7))) (some (false, ())) (rec (a, a, ((8 : Nat) : Int), ())) := by kernel_rfl
theorem F65_eq (a : Block) : F65 (a, a, ()) = some (true, ()) := by
  unfold F65
  obtain ⟨t, ⟨_, rfl⟩, e⟩ := iterF_all (f := s65_0) (K := fun _ => some (true, ())) (t := (a, a, 0, ())) 8
    (fun j t => True ∧ t = (a, a, (j : Int), ())) (by omega) ⟨trivial, rfl⟩
    (by
      rintro j _ hj ⟨_, rfl⟩
      refine ⟨_, ⟨trivial, rfl⟩, fun rec K => ?_⟩
      rcases k8 hj with rfl | rfl | rfl | rfl | rfl | rfl | rfl | rfl
      · rw [r65_0, decide_eq_true rfl]; rfl
      · rw [r65_1, decide_eq_true rfl]; rfl
      · rw [r65_2, decide_eq_true rfl]; rfl
      · rw [r65_3, decide_eq_true rfl]; rfl
      · rw [r65_4, decide_eq_true rfl]; rfl
      · rw [r65_5, decide_eq_true rfl]; rfl
      · rw [r65_6, decide_eq_true rfl]; rfl
      · rw [r65_7, decide_eq_true rfl]; rfl
      )
    (by
      rintro _ ⟨_, rfl⟩ rec K
      simp only [s65_0]
      rw [cond_false_dec (by omega)])
  exact e
theorem F44_eq (l : List Block) (hl : l.length ≤ 1048576) : F44 F65 (l, l, ()) = some (true, ()) := by
  unfold F44
  simp only [decide_true, Bool.not_true, cond_false]
  obtain ⟨t, ⟨_, rfl⟩, e⟩ := iterF_all (f := s44_0 F65) (K := fun _ => some (true, ())) (t := (l, l, 0, ())) l.length
    (fun i t => True ∧ t = (l, l, (i : Int), ())) (by omega) ⟨trivial, rfl⟩
    (by
      rintro i _ hi ⟨_, rfl⟩
      have hx : l[i]? = some l[i] := by simp
      refine ⟨_, ⟨trivial, rfl⟩, fun rec K => ?_⟩
      simp only [s44_0]
      rw [cond_true_dec (by simp <;> omega), rdL_at hx, rdL_at hx, F65_eq, w64_id (by omega) (by omega)]
      rfl)
    (by
      rintro _ ⟨_, rfl⟩ rec K
      simp only [s44_0]
      rw [cond_false_dec (by simp)])
  exact e
theorem fuel9 : ∃ n, fuel = n + 9 := ⟨fuel - 9, by rw [fuel_eq]⟩
theorem F67_at (b : Block) (n : Nat) (K) : iterF s67_0 (n + 9) (b, (⟨0, 0, 0, 0, 0, 0, 0, 0⟩ : Block), (⟨0, 0, 0, 0, 0, 0, 0, 0⟩ : Block), 0, ()) K = K (b, (⟨0, 0, 0, 0, 0, 0, 0, 0⟩ : Block), b, 8, ()) := by kernel_rfl
theorem F67_eq (b : Block) : F67 (b, ()) = some (b, ()) := by
  unfold F67
  obtain ⟨n, hn⟩ := fuel9
  rw [hn, F67_at]
theorem F53_eq (l : List Block) (hl : l.length ≤ 1048576) : F53 F67 (l, ()) = some (l, ()) := by
  unfold F53
  rw [okIf_pos (by simp), capK_le (by simp; omega)]
  obtain ⟨t, ⟨m, rfl, h1, h2⟩, e⟩ := iterF_all (f := s53_0 F67) (K := fun t4 => some (t4.2.1, ())) (t := (l, List.replicate (Int.toNat (Int.ofNat l.length)) (Ty.zero .block), 0, ())) l.length
    (fun i t => ∃ m : List Block, t = (l, m, (i : Int), ()) ∧ m.length = l.length ∧ ∀ j, j < i → m[j]? = l[j]?) (by omega) ⟨_, rfl, by simp, fun j hj => by omega⟩
    (by
      rintro i _ hi ⟨m, rfl, h1, h2⟩
      have hx : l[i]? = some l[i] := by simp
      have hd : m[i]? = some m[i] := by simp
      refine ⟨_, ⟨m.set i l[i], rfl, by simp [h1], fun j hj => ?_⟩, fun rec K => ?_⟩
      · rw [List.getElem?_set]
        by_cases hji : i = j
        · subst hji; simp [h1, hi]
        · simp only [if_neg hji]; exact h2 j (by omega)
      · simp only [s53_0]
        rw [cond_dec, if_pos (by simp; omega), rdL_at hx, F67_eq]
        simp only [Option.bind_some]
        rw [rdL_at hd]
        simp only [Int.toNat_natCast]
        rw [hd, w64_id (by omega) (by omega)]
        rfl)
    (by
      rintro _ ⟨m, rfl, h1, h2⟩ rec K
      simp only [s53_0]
      rw [cond_dec, if_neg (by simp)])
  have : m = l := List.ext_getElem? fun j => by
    by_cases hj : j < l.length
    · exact h2 j hj
    · rw [List.getElem?_eq_none (by omega), List.getElem?_eq_none (by omega)]
  subst this
  exact e
theorem F51_eq (l : List Block) (hl : l.length ≤ 1048576) : F51 (l, 1048576, ()) = some (1048576 - (l.length : Int), ()) := by
  unfold F51
  have e : w64 (1048576 - Int.ofNat l.length) = 1048576 - (l.length : Int) := w64_id (by simp; omega) (by simp; omega)
  simp only [e]
  rw [cond_false_dec (by omega)]
theorem F51_big (l : List Block) (hl : ¬ l.length ≤ 1048576) (hm : l.length ≤ 9223372036854775807) : ∃ x, F51 (l, 1048576, ()) = some (x, ()) ∧ x < 0 := by
  unfold F51
  have e : w64 (1048576 - Int.ofNat l.length) = 1048576 - (l.length : Int) := w64_id (by simp; omega) (by simp; omega)
  simp only [e]
  exact ⟨-1, by rw [cond_true_dec (by omega)], by omega⟩
/-- What is marked in a block: the numbers from 'c' on. -/
def mkb (c : Int) : Block := fill zb (fun k => c + (k : Int)) 8
theorem fill_any (d : Block) (g : Nat → Int) : fill d g 8 = fill zb g 8 := rfl
theorem mark_in (m : List Block) (c : Int) (i : Nat) (d : Block) (hd : m[i]? = some d) (h0 : 0 ≤ c) (h1 : c ≤ 1099511627776) (K) :
    iterF s45_2 fuel (m, c, (i : Int), 0, ()) K = K (m.set i (mkb c), c + 8, (i : Int), 8, ()) := by
  have hi : i < m.length := (List.getElem?_eq_some_iff.mp hd).1
  have hset : ∀ x : Block, (m.set i x)[i]? = some x := fun x => by rw [List.getElem?_set]; simp [hi]
  have hm : m.set i d = m := by
    have := (List.getElem?_eq_some_iff.mp hd).2
    rw [← this]; simp
  obtain ⟨t, ⟨_, rfl⟩, e⟩ := iterF_all (f := s45_2) (K := K) (t := (m, c, (i : Int), 0, ())) 8
    (fun j t => True ∧ t = (m.set i (fill d (fun k => c + (k : Int)) j), c + (j : Int), (i : Int), (j : Int), ())) (by omega) ⟨trivial, by simp [fill, hm]⟩
    (by
      rintro j _ hj ⟨_, rfl⟩
      refine ⟨_, ⟨trivial, rfl⟩, fun rec K => ?_⟩
      simp only [s45_2]
      rw [cond_true_dec (by omega), rdL_at (hset _)]
      simp only [Int.toNat_natCast, hset, Option.bind_some, List.set_set]
      rw [w64_id (n := c + (j : Int) + 1) (by omega) (by omega), w64_id (n := (j : Int) + 1) (by omega) (by omega), show c + (j : Int) + 1 = c + ((j + 1 : Nat) : Int) by omega]
      rcases k8 hj with rfl | rfl | rfl | rfl | rfl | rfl | rfl | rfl <;> rfl)
    (by
      rintro _ ⟨_, rfl⟩ rec K
      simp only [s45_2]
      rw [cond_false_dec (by omega)])
  exact e
def marksB : Nat → Int → List Block
  | 0, _ => []
  | n + 1, k => mkb k :: marksB n (k + 8)
theorem marksB_len : ∀ (n : Nat) (k : Int), (marksB n k).length = n
  | 0, _ => rfl
  | n + 1, k => by simp [marksB, marksB_len n]
theorem marksB_at : ∀ (n : Nat) (k : Int) (i : Nat), i < n → (marksB n k)[i]? = some (mkb (k + 8 * i))
  | 0, _, _, h => by omega
  | n + 1, k, 0, _ => by simp [marksB]
  | n + 1, k, i + 1, h => by
    simp only [marksB, List.getElem?_cons_succ]
    rw [marksB_at n (k + 8) i (by omega)]
    rw [show k + 8 + 8 * (i : Int) = k + 8 * ((i + 1 : Nat) : Int) by omega]
theorem F45_eq (l : List Block) (hl : l.length ≤ 1048576) : F45 (l, 1, ()) = some (marksB l.length 1, 1 + 8 * (l.length : Int), ()) := by
  unfold F45
  obtain ⟨t, ⟨m, rfl, h1, h2⟩, e⟩ := iterF_all (f := s45_0) (K := fun t12 => some (t12.1, t12.2.1, ())) (t := (l, 1, 0, ())) l.length
    (fun i t => ∃ m : List Block, t = (m, 1 + 8 * (i : Int), (i : Int), ()) ∧ m.length = l.length ∧ ∀ j : Nat, j < i → m[j]? = some (mkb (1 + 8 * (j : Int)))) (by omega) ⟨l, rfl, rfl, fun j hj => by omega⟩
    (by
      rintro i _ hi ⟨m, rfl, h1, h2⟩
      have hd : m[i]? = some m[i] := by simp
      refine ⟨_, ⟨m.set i (mkb (1 + 8 * (i : Int))), rfl, by simp [h1], fun j hj => ?_⟩, fun rec K => ?_⟩
      · rw [List.getElem?_set]
        by_cases hji : i = j
        · subst hji; simp [h1, hi]
        · simp only [if_neg hji]; exact h2 j (by omega)
      · simp only [s45_0]
        rw [cond_true_dec (by simp <;> omega), mark_in m _ i _ hd (by omega) (by omega)]
        simp only []
        rw [w64_id (by omega) (by omega), show (1 : Int) + 8 * (i : Int) + 8 = 1 + 8 * ((i + 1 : Nat) : Int) by omega]
        rfl)
    (by
      rintro _ ⟨m, rfl, h1, h2⟩ rec K
      simp only [s45_0]
      rw [cond_false_dec (by simp <;> omega)])
  have : m = marksB l.length 1 := List.ext_getElem? fun j => by
    by_cases hj : j < l.length
    · rw [h2 j hj, marksB_at _ _ _ hj]
    · rw [List.getElem?_eq_none (by omega), List.getElem?_eq_none (by rw [marksB_len]; omega)]
  subst this
  exact e
theorem held_in (m : List Block) (c : Int) (i : Nat) (hd : m[i]? = some (mkb c)) (h0 : 0 ≤ c) (h1 : c ≤ 1099511627776) (K) :
    iterF s46_2 fuel (m, c, (i : Int), 0, ()) K = K (m, c + 8, (i : Int), 8, ()) := by
  obtain ⟨t, ⟨_, rfl⟩, e⟩ := iterF_all (f := s46_2) (K := K) (t := (m, c, (i : Int), 0, ())) 8
    (fun j t => True ∧ t = (m, c + (j : Int), (i : Int), (j : Int), ())) (by omega) ⟨trivial, by simp⟩
    (by
      rintro j _ hj ⟨_, rfl⟩
      refine ⟨_, ⟨trivial, rfl⟩, fun rec K => ?_⟩
      have hb : [(mkb c).b0, (mkb c).b1, (mkb c).b2, (mkb c).b3, (mkb c).b4, (mkb c).b5, (mkb c).b6, (mkb c).b7][j]? = some (c + (j : Int)) := by
        rcases k8 hj with rfl | rfl | rfl | rfl | rfl | rfl | rfl | rfl <;> rfl
      simp only [s46_2]
      rw [cond_true_dec (by omega), rdL_at hd, rdL_at hb]
      simp only [decide_true, Bool.not_true, cond_false]
      rw [w64_id (n := c + (j : Int) + 1) (by omega) (by omega), w64_id (n := (j : Int) + 1) (by omega) (by omega), show c + (j : Int) + 1 = c + ((j + 1 : Nat) : Int) by omega]
      rfl)
    (by
      rintro _ ⟨_, rfl⟩ rec K
      simp only [s46_2]
      rw [cond_false_dec (by omega)])
  exact e
theorem F46_eq (n : Nat) (hn : n ≤ 1048576) : F46 (marksB n 1, 1, ()) = some (1 + 8 * (n : Int), ()) := by
  unfold F46
  obtain ⟨t, ⟨_, rfl⟩, e⟩ := iterF_all (f := s46_0) (K := fun t3 => some (t3.2.1, ())) (t := (marksB n 1, 1, 0, ())) n
    (fun i t => True ∧ t = (marksB n 1, 1 + 8 * (i : Int), (i : Int), ())) (by omega) ⟨trivial, rfl⟩
    (by
      rintro i _ hi ⟨_, rfl⟩
      refine ⟨_, ⟨trivial, rfl⟩, fun rec K => ?_⟩
      simp only [s46_0]
      rw [cond_true_dec (by simp [marksB_len] <;> omega), held_in _ _ _ (marksB_at n 1 i hi) (by omega) (by omega)]
      simp only []
      rw [w64_id (by omega) (by omega), show (1 : Int) + 8 * (i : Int) + 8 = 1 + 8 * ((i + 1 : Nat) : Int) by omega]
      rfl)
    (by
      rintro _ ⟨_, rfl⟩ rec K
      simp only [s46_0]
      rw [cond_false_dec (by simp [marksB_len])])
  exact e
end Ev
