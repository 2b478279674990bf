/- Plain facts of blocks: eight numbers each. -/
import Derived.Test.YtmnahocockdpcaaFact
set_option linter.unusedVariables false
set_option linter.unusedSimpArgs false
namespace Ev
open Go
def bset (b : Block) (k : Nat) (x : Int) : Block := match k with
  | 0 => ⟨x, b.b1, b.b2, b.b3, b.b4, b.b5, b.b6, b.b7⟩
  | 1 => ⟨b.b0, x, b.b2, b.b3, b.b4, b.b5, b.b6, b.b7⟩
  | 2 => ⟨b.b0, b.b1, x, b.b3, b.b4, b.b5, b.b6, b.b7⟩
  | 3 => ⟨b.b0, b.b1, b.b2, x, b.b4, b.b5, b.b6, b.b7⟩
  | 4 => ⟨b.b0, b.b1, b.b2, b.b3, x, b.b5, b.b6, b.b7⟩
  | 5 => ⟨b.b0, b.b1, b.b2, b.b3, b.b4, x, b.b6, b.b7⟩
  | 6 => ⟨b.b0, b.b1, b.b2, b.b3, b.b4, b.b5, x, b.b7⟩
  | _ => ⟨b.b0, b.b1, b.b2, b.b3, b.b4, b.b5, b.b6, x⟩
def fill (b : Block) (g : Nat → Int) : Nat → Block
  | 0 => b
  | k + 1 => bset (fill b g k) k (g k)
def zb : Block := ⟨0, 0, 0, 0, 0, 0, 0, 0⟩
theorem k8 {k : Nat} (h : k < 8) : k = 0 ∨ k = 1 ∨ k = 2 ∨ k = 3 ∨ k = 4 ∨ k = 5 ∨ k = 6 ∨ k = 7 := by omega
theorem fill8 (b : Block) (g : Nat → Int) : fill b g 8 = ⟨g 0, g 1, g 2, g 3, g 4, g 5, g 6, g 7⟩ := rfl
/-- The element of a list at a place, or the last one behind its end. -/
def lastAt (l : List Int) (i : Nat) : Int := l.getD (min i (l.length - 1)) 0
theorem lastAt_at {l : List Int} (h : 0 < l.length) (i : Nat) : l[min i (l.length - 1)]? = some (lastAt l i) := by
  unfold lastAt
  rw [List.getD_eq_getElem?_getD, List.getElem?_eq_getElem (by omega)]; rfl
theorem mn_last {l : List Int} (hl : l.length ≤ 1048576) (h : 0 < l.length) (i k : Nat) (hi : i < 2097152) (hk : k < 8) : mn (w64 ((i : Int) + (k : Int))) (w64 (Int.ofNat l.length - 1)) = ((min (i + k) (l.length - 1) : Nat) : Int) := by
  rw [w64_id (by omega) (by omega), w64_id (by simp; omega) (by simp; omega), mn_eq]
  simp only [Int.ofNat_eq_natCast]
  split <;> omega
theorem round31 (l : List Int) (hl : l.length ≤ 1048576) (h : 0 < l.length) (out : List Block) (i : Nat) (hi : i < 2097152) (b : Block) (k : Nat) (hk : k < 8) (rec K) :
    s31_2 (F17 F55) (l, out, (i : Int), b, (k : Int), ()) rec K = rec (l, out, (i : Int), bset b k (lastAt l (i + k)), ((k + 1 : Nat) : Int), ()) := by
  have hx := lastAt_at h (i + k)
  have hm := mn_last hl h i k hi hk
  simp only [s31_2]
  rw [cond_true_dec (by omega), hm, rdL_at hx, w64_id (n := (k : Int) + 1) (by omega) (by omega)]
  rcases k8 hk with rfl | rfl | rfl | rfl | rfl | rfl | rfl | rfl <;> rfl
theorem inner31 (l : List Int) (hl : l.length ≤ 1048576) (h : 0 < l.length) (out : List Block) (i : Nat) (hi : i < 2097152) (K) :
    iterF (s31_2 (F17 F55)) fuel (l, out, (i : Int), (⟨0, 0, 0, 0, 0, 0, 0, 0⟩ : Block), 0, ()) K = K (l, out, (i : Int), fill zb (fun k => lastAt l (i + k)) 8, 8, ()) := by
  obtain ⟨t, ⟨_, rfl⟩, e⟩ := iterF_all (f := s31_2 (F17 F55)) (K := K) (t := (l, out, (i : Int), (⟨0, 0, 0, 0, 0, 0, 0, 0⟩ : Block), 0, ())) 8
    (fun j t => True ∧ t = (l, out, (i : Int), fill zb (fun k => lastAt l (i + k)) j, (j : Int), ())) (by omega) ⟨trivial, rfl⟩
    (by
      rintro j _ hj ⟨_, rfl⟩
      exact ⟨_, ⟨trivial, rfl⟩, fun rec K => round31 l hl h out i hi _ j hj rec K⟩)
    (by
      rintro _ ⟨_, rfl⟩ rec K
      simp only [s31_2]
      rw [cond_false_dec (by omega)])
  exact e
def blk (l : List Int) (j : Nat) : Block := fill zb (fun k => lastAt l (8 * j + k)) 8
def blocks (l : List Int) : List Block := (List.range ((l.length + 7) / 8)).map (blk l)
theorem blocks_len (l : List Int) : (blocks l).length = (l.length + 7) / 8 := by simp [blocks]
theorem range_map (f : Nat → Block) (j : Nat) : (List.range j).map f ++ [f j] = (List.range (j + 1)).map f := by
  rw [List.range_succ, List.map_append]; rfl
theorem F31_eq (l : List Int) (hl : l.length ≤ 1048576) : F31 (F17 F55) (l, ()) = some (if isTr l = true then blocks l else [], ()) := by
  unfold F31
  simp only [F17_is l (by omega), Option.bind_some]
  by_cases h : isTr l = true
  · rw [if_pos h, h]
    simp only [Bool.not_true, Bool.not_false, cond_true]
    by_cases h0 : l.length = 0
    · rw [cond_true_dec (by simp [h0])]
      simp [blocks, h0]
    · rw [cond_false_dec (by simpa using h0)]
      obtain ⟨t, ⟨_, rfl⟩, e⟩ := iterF_all (f := s31_0 (F17 F55)) (K := fun t7 => some (t7.2.1, ())) (t := (l, ([] : List Block), 0, ())) ((l.length + 7) / 8)
        (fun j t => True ∧ t = (l, (List.range j).map (blk l), ((8 * j : Nat) : Int), ())) (by omega) ⟨trivial, rfl⟩
        (by
          rintro j _ hj ⟨_, rfl⟩
          refine ⟨_, ⟨trivial, rfl⟩, fun rec K => ?_⟩
          simp only [s31_0]
          rw [cond_true_dec (by simp; omega), inner31 l hl (by omega) _ _ (by omega)]
          simp only []
          rw [capK_le (by simp; omega), w64_id (by omega) (by omega)]
          have : (List.range j).map (blk l) ++ [fill zb (fun k => lastAt l (8 * j + k)) 8] = (List.range (j + 1)).map (blk l) := range_map (blk l) j
          rw [this, show ((8 * j : Nat) : Int) + 8 = ((8 * (j + 1) : Nat) : Int) by omega])
        (by
          rintro _ ⟨_, rfl⟩ rec K
          simp only [s31_0]
          rw [cond_false_dec (by simp; omega)])
      exact e
  · rw [if_neg h, show isTr l = false by simpa using h]; rfl
/-! ### Equal, copied, marked -/
theorem fuel9 : ∃ n, fuel = n + 9 := ⟨fuel - 9, by rw [fuel_eq]⟩
/-- What is marked in a block: the numbers from 'c' on. -/
def mkb (c : Int) : Block := fill zb (fun k => c + (k : Int)) 8
theorem fill_any (d : Block) (g : Nat → Int) : fill d g 8 = fill zb g 8 := rfl
def marksB : Nat → Int → List Block
  | 0, _ => []
  | n + 1, k => mkb k :: marksB n (k + 8)
theorem marksB_len : ∀ (n : Nat) (k : Int), (marksB n k).length = n
  | 0, _ => rfl
  | n + 1, k => by simp [marksB, marksB_len n]
theorem marksB_at : ∀ (n : Nat) (k : Int) (i : Nat), i < n → (marksB n k)[i]? = some (mkb (k + 8 * i))
  | 0, _, _, h => by omega
  | n + 1, k, 0, _ => by simp [marksB]
  | n + 1, k, i + 1, h => by
    simp only [marksB, List.getElem?_cons_succ]
    rw [marksB_at n (k + 8) i (by omega)]
    rw [show k + 8 + 8 * (i : Int) = k + 8 * ((i + 1 : Nat) : Int) by omega]
/-- The number at a place of blocks that are laid side by side. -/
def bat (b : Block) (k : Nat) : Int := [b.b0, b.b1, b.b2, b.b3, b.b4, b.b5, b.b6, b.b7].getD k 0
def atB (l : List Block) (i : Nat) : Int := bat (l.getD (i / 8) zb) (i % 8)
theorem bat_at (b : Block) {k : Nat} (h : k < 8) : [b.b0, b.b1, b.b2, b.b3, b.b4, b.b5, b.b6, b.b7][k]? = some (bat b k) := by
  rcases k8 h with rfl | rfl | rfl | rfl | rfl | rfl | rfl | rfl <;> rfl
theorem range_app (f : Nat → Int) (j : Nat) : (List.range j).map f ++ [f j] = (List.range (j + 1)).map f := by
  rw [List.range_succ, List.map_append]; rfl
theorem read52 (l : List Block) (i : Nat) (hi : i < 8 * l.length) (h : i < 1099511627776) (K : Int → Option (List Int × Bool × Unit)) :
    (rdL l (w64 (Int.tdiv (i : Int) 8)) fun d2 => rdL [d2.b0, d2.b1, d2.b2, d2.b3, d2.b4, d2.b5, d2.b6, d2.b7] (Int.tmod (i : Int) 8) K) = K (atB l i) := by
  have e1 : w64 (Int.tdiv (i : Int) 8) = ((i / 8 : Nat) : Int) := by
    rw [show Int.tdiv (i : Int) 8 = ((i / 8 : Nat) : Int) from rfl, w64_id (by omega) (by omega)]
  have e2 : Int.tmod (i : Int) 8 = ((i % 8 : Nat) : Int) := rfl
  have hx : l[i / 8]? = some (l.getD (i / 8) zb) := by rw [List.getD_eq_getElem?_getD, List.getElem?_eq_getElem (by omega)]; rfl
  rw [e1, rdL_at hx, e2, rdL_at (bat_at _ (by omega))]
  rfl
theorem F32_eq (l : List Block) (hl : l.length ≤ 1048576) (n : Int) (h1 : -9223372036854775808 ≤ n) (h2 : n < 9223372036854775808) :
    F32 (F17 F55) (l, n, ()) = some (if 0 ≤ n ∧ n ≤ 8 * (l.length : Int) ∧ isTr ((List.range n.toNat).map (atB l)) = true then ((List.range n.toNat).map (atB l), true, ()) else ([], false, ())) := by
  have e8 : w64 (8 * Int.ofNat l.length) = 8 * (l.length : Int) := w64_id (by simp; omega) (by simp; omega)
  unfold F32
  simp only [e8]
  by_cases hn : 0 ≤ n
  · by_cases hm : n ≤ 8 * (l.length : Int)
    · rw [decide_eq_false (by omega : ¬ n < 0), decide_eq_false (by omega : ¬ n > 8 * (l.length : Int))]
      simp only [Bool.not_false, cond_true, hn, hm, true_and]
      by_cases h64 : n > 64
      · rw [cond_true_dec h64, if_neg]
        unfold isTr
        simp; omega
      · rw [cond_false_dec h64]
        obtain ⟨t, ⟨_, rfl⟩, e⟩ := iterF_all (f := s32_0 (F17 F55)) (K := fun t4 => (F17 F55 (t4.2.1, ())).bind fun x5 => cond (!x5.1) (some (([] : List Int), false, ())) (some (t4.2.1, true, ()))) (t := (l, ([] : List Int), n, 0, ())) n.toNat
          (fun j t => True ∧ t = (l, (List.range j).map (atB l), n, (j : Int), ())) (by omega) ⟨trivial, rfl⟩
          (by
            rintro j _ hj ⟨_, rfl⟩
            refine ⟨_, ⟨trivial, rfl⟩, fun rec K => ?_⟩
            simp only [s32_0]
            rw [cond_true_dec (by omega), read52 l j (by omega) (by omega), capK_le (by simp; omega), range_app, w64_id (by omega) (by omega)]
            rfl)
          (by
            rintro _ ⟨_, rfl⟩ rec K
            simp only [s32_0]
            rw [cond_false_dec (by omega)])
        refine e.trans ?_
        simp only []
        rw [F17_is _ (by simp; omega), Option.bind_some]
        cases isTr ((List.range n.toNat).map (atB l)) <;> rfl
    · rw [decide_eq_false (by omega : ¬ n < 0), decide_eq_true (by omega : n > 8 * (l.length : Int)), if_neg (by omega)]
      rfl
  · rw [decide_eq_true (by omega : n < 0), if_neg (by omega)]
    rfl
end Ev
