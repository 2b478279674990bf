/- Boxes of places, boxes of landings, safe shows. -/
import Derived.Test.YtpnlcamcnhpbhaaGreatSumA
import Derived.Test.YtpnlcamcnhpbhaaGreatDropA
set_option linter.unusedVariables false
set_option linter.unusedSimpArgs false
set_option maxRecDepth 100000
namespace Ev
open Go
/-- The box of some places: all are in it, and one is on each of its sides. -/
structure BoxP (l : List Place) (B : Box) : Prop where
  inn : ∀ p ∈ l, (B.Low.X ≤ p.X ∧ p.X ≤ B.High.X) ∧ B.Low.Y ≤ p.Y ∧ p.Y ≤ B.High.Y
  lx : ∃ p ∈ l, p.X = B.Low.X
  hx : ∃ p ∈ l, p.X = B.High.X
  ly : ∃ p ∈ l, p.Y = B.Low.Y
  hy : ∃ p ∈ l, p.Y = B.High.Y
theorem boxP_one (p : Place) : BoxP [p] ⟨p, p⟩ :=
  ⟨fun q hq => by rw [List.mem_singleton] at hq; subst hq; exact ⟨⟨Int.le_refl _, Int.le_refl _⟩, Int.le_refl _, Int.le_refl _⟩, ⟨p, by simp, rfl⟩, ⟨p, by simp, rfl⟩, ⟨p, by simp, rfl⟩, ⟨p, by simp, rfl⟩⟩
theorem boxP_grow {l : List Place} {b : Box} (h : BoxP l b) (p : Place) : BoxP (l ++ [p]) (grow b p) := by
  have e : ∀ q : Place, q ∈ l → q ∈ l ++ [p] := fun q hq => List.mem_append_left _ hq
  have ep : p ∈ l ++ [p] := by simp
  have m1 := mn_eq b.Low.X p.X; have m2 := mn_eq b.Low.Y p.Y
  have m3 := mx_eq b.High.X p.X; have m4 := mx_eq b.High.Y p.Y
  refine ⟨fun q hq => ?_, ?_, ?_, ?_, ?_⟩
  · unfold grow
    simp only [m1, m2, m3, m4]
    rcases List.mem_append.mp hq with hq | hq
    · have := h.inn q hq
      refine ⟨⟨?_, ?_⟩, ?_, ?_⟩ <;> split <;> omega
    · rw [List.mem_singleton] at hq; subst hq
      refine ⟨⟨?_, ?_⟩, ?_, ?_⟩ <;> split <;> omega
  · obtain ⟨q, hq, hx⟩ := h.lx
    unfold grow; simp only [m1]
    split
    · exact ⟨p, ep, rfl⟩
    · exact ⟨q, e q hq, hx⟩
  · obtain ⟨q, hq, hx⟩ := h.hx
    unfold grow; simp only [m3]
    split
    · exact ⟨p, ep, rfl⟩
    · exact ⟨q, e q hq, hx⟩
  · obtain ⟨q, hq, hx⟩ := h.ly
    unfold grow; simp only [m2]
    split
    · exact ⟨p, ep, rfl⟩
    · exact ⟨q, e q hq, hx⟩
  · obtain ⟨q, hq, hx⟩ := h.hy
    unfold grow; simp only [m4]
    split
    · exact ⟨p, ep, rfl⟩
    · exact ⟨q, e q hq, hx⟩
theorem boxP_uniq {l l' : List Place} {B C : Box} (h : BoxP l B) (k : BoxP l' C) (hm : ∀ p, p ∈ l ↔ p ∈ l') : B = C := by
  obtain ⟨a1, p1, q1⟩ := h.lx; obtain ⟨a2, p2, q2⟩ := h.hx; obtain ⟨a3, p3, q3⟩ := h.ly; obtain ⟨a4, p4, q4⟩ := h.hy
  obtain ⟨b1, r1, s1⟩ := k.lx; obtain ⟨b2, r2, s2⟩ := k.hx; obtain ⟨b3, r3, s3⟩ := k.ly; obtain ⟨b4, r4, s4⟩ := k.hy
  have u1 := k.inn a1 ((hm _).1 p1); have u2 := k.inn a2 ((hm _).1 p2); have u3 := k.inn a3 ((hm _).1 p3); have u4 := k.inn a4 ((hm _).1 p4)
  have v1 := h.inn b1 ((hm _).2 r1); have v2 := h.inn b2 ((hm _).2 r2); have v3 := h.inn b3 ((hm _).2 r3); have v4 := h.inn b4 ((hm _).2 r4)
  obtain ⟨Bl, Bh⟩ := B; obtain ⟨Cl, Ch⟩ := C
  simp only at *
  rw [place_ext (p := Bl) (q := Cl) (by omega) (by omega), place_ext (p := Bh) (q := Ch) (by omega) (by omega)]
/-! ### Roses -/
def scale (n : Int) (p : Place) : Place := ⟨n * p.X, n * p.Y⟩
theorem mul_small {n x : Int} (h0 : 0 ≤ n) (h1 : n ≤ 128) (hx : -8 ≤ x ∧ x ≤ 8) : w64 (n * x) = n * x ∧ -(8 * n) ≤ n * x ∧ n * x ≤ 8 * n := by
  have a : n * x ≤ n * 8 := Int.mul_le_mul_of_nonneg_left hx.2 h0
  have b : n * (-8) ≤ n * x := Int.mul_le_mul_of_nonneg_left hx.1 h0
  exact ⟨w64_id (by omega) (by omega), by omega, by omega⟩
/-- Where the drops of a jet may land. -/
def lbE (j : Jet) (C : Box) : Box := ⟨add (pN j (fl j)) (scale (fl j) C.Low), add (pN j (fl j)) (scale (fl j) C.High)⟩
theorem land_pN {j : Jet} (h : isJet j = true) : landP j = (pN j (fl j), true) := by
  have hf : fl j = j.Lift + 1 := by unfold fl; rw [if_pos h]
  have J := jet_ok h
  have hl := J.l
  unfold landP
  rw [if_pos h, ← placeN_pN J (by omega) (by omega), hf]
  rfl
theorem scale_sm {n : Int} (h0 : 0 ≤ n) (h1 : n ≤ 33) {p : Place} (h : Sm 8 p) : Sm 264 (scale n p) := by
  have a := mul_small h0 (by omega) h.1
  have b := mul_small h0 (by omega) h.2
  exact ⟨⟨by simp only [scale]; omega, by simp only [scale]; omega⟩, by simp only [scale]; omega, by simp only [scale]; omega⟩
/-! ### The least basin -/
def corns (C : Box) (l : List Throw) : List Place := l.flatMap fun x => [(lbE x.jet C).Low, (lbE x.jet C).High]
/-- A place is in a box, told by numbers. -/
def InP (c : Box) (p : Place) : Prop := (c.Low.X ≤ p.X ∧ p.X ≤ c.High.X) ∧ c.Low.Y ≤ p.Y ∧ p.Y ≤ c.High.Y
theorem inBx_iff {c : Box} (hc : isBx c = true) (p : Place) : inBx c p = true ↔ InP c p := by
  unfold inBx InP
  rw [hc, Bool.true_and, Bool.and_eq_true, wi_true, wi_true]
theorem isIn_iff {b c : Box} (hc : isBx c = true) : isIn b c = true ↔ InP c b.Low ∧ InP c b.High := by
  unfold isIn
  rw [Bool.and_eq_true, inBx_iff hc, inBx_iff hc]
/-- All that a show may throw lands in a basin. -/
def SafeP (C : Box) (s : ShowT) (c : Box) : Prop := ∀ x ∈ throwsL s, InP c (lbE x.jet C).Low ∧ InP c (lbE x.jet C).High
theorem hull_in {C : Box} {l : List Throw} {B c : Box} (h : BoxP (corns C l) B) : (InP c B.Low ∧ InP c B.High) ↔ ∀ x ∈ l, InP c (lbE x.jet C).Low ∧ InP c (lbE x.jet C).High := by
  have mem : ∀ x ∈ l, (lbE x.jet C).Low ∈ corns C l ∧ (lbE x.jet C).High ∈ corns C l := fun x hx => by
    unfold corns
    exact ⟨List.mem_flatMap.mpr ⟨x, hx, by simp⟩, List.mem_flatMap.mpr ⟨x, hx, by simp⟩⟩
  constructor
  · rintro ⟨⟨h1, h2⟩, h3, h4⟩ x hx
    have a := h.inn _ (mem x hx).1
    have b := h.inn _ (mem x hx).2
    exact ⟨⟨by omega, by omega⟩, by omega, by omega⟩
  · intro k
    have all : ∀ p ∈ corns C l, InP c p := fun p hp => by
      unfold corns at hp
      obtain ⟨x, hx, hp⟩ := List.mem_flatMap.mp hp
      simp only [List.mem_cons, List.not_mem_nil, or_false] at hp
      rcases hp with rfl | rfl
      · exact (k x hx).1
      · exact (k x hx).2
    obtain ⟨a1, p1, q1⟩ := h.lx; obtain ⟨a2, p2, q2⟩ := h.hx; obtain ⟨a3, p3, q3⟩ := h.ly; obtain ⟨a4, p4, q4⟩ := h.hy
    have s1 := all a1 p1; have s2 := all a2 p2; have s3 := all a3 p3; have s4 := all a4 p4
    unfold InP at *
    omega
end Ev
