/- Boxes of places, boxes of landings, safe shows. -/
import Derived.Test.YtpnlcamcnhpbhaaGreatSumA
import Derived.Test.YtpnlcamcnhpbhaaGreatDropA
set_option linter.unusedVariables false
set_option linter.unusedSimpArgs false
set_option maxRecDepth 100000
namespace Ev
open Go
/-- The box of some places: all are in it, and one is on each of its sides. -/
structure BoxP (l : List Place) (B : Box) : Prop where
  inn : ∀ p ∈ l, (B.Low.X ≤ p.X ∧ p.X ≤ B.High.X) ∧ B.Low.Y ≤ p.Y ∧ p.Y ≤ B.High.Y
  lx : ∃ p ∈ l, p.X = B.Low.X
  hx : ∃ p ∈ l, p.X = B.High.X
  ly : ∃ p ∈ l, p.Y = B.Low.Y
  hy : ∃ p ∈ l, p.Y = B.High.Y
theorem boxP_one (p : Place) : BoxP [p] ⟨p, p⟩ :=
  ⟨fun q hq => by rw [List.mem_singleton] at hq; subst hq; exact ⟨⟨Int.le_refl _, Int.le_refl _⟩, Int.le_refl _, Int.le_refl _⟩, ⟨p, by simp, rfl⟩, ⟨p, by simp, rfl⟩, ⟨p, by simp, rfl⟩, ⟨p, by simp, rfl⟩⟩
theorem boxP_grow {l : List Place} {b : Box} (h : BoxP l b) (p : Place) : BoxP (l ++ [p]) (grow b p) := by
  have e : ∀ q : Place, q ∈ l → q ∈ l ++ [p] := fun q hq => List.mem_append_left _ hq
  have ep : p ∈ l ++ [p] := by simp
  have m1 := mn_eq b.Low.X p.X; have m2 := mn_eq b.Low.Y p.Y
  have m3 := mx_eq b.High.X p.X; have m4 := mx_eq b.High.Y p.Y
  refine ⟨fun q hq => ?_, ?_, ?_, ?_, ?_⟩
  · unfold grow
    simp only [m1, m2, m3, m4]
    rcases List.mem_append.mp hq with hq | hq
    · have := h.inn q hq
      refine ⟨⟨?_, ?_⟩, ?_, ?_⟩ <;> split <;> omega
    · rw [List.mem_singleton] at hq; subst hq
      refine ⟨⟨?_, ?_⟩, ?_, ?_⟩ <;> split <;> omega
  · obtain ⟨q, hq, hx⟩ := h.lx
    unfold grow; simp only [m1]
    split
    · exact ⟨p, ep, rfl⟩
    · exact ⟨q, e q hq, hx⟩
  · obtain ⟨q, hq, hx⟩ := h.hx
    unfold grow; simp only [m3]
    split
    · exact ⟨p, ep, rfl⟩
    · exact ⟨q, e q hq, hx⟩
  · obtain ⟨q, hq, hx⟩ := h.ly
    unfold grow; simp only [m2]
    split
    · exact ⟨p, ep, rfl⟩
    · exact ⟨q, e q hq, hx⟩
  · obtain ⟨q, hq, hx⟩ := h.hy
    unfold grow; simp only [m4]
    split
    · exact ⟨p, ep, rfl⟩
    · exact ⟨q, e q hq, hx⟩
theorem boxP_uniq {l l' : List Place} {B C : Box} (h : BoxP l B) (k : BoxP l' C) (hm : ∀ p, p ∈ l ↔ p ∈ l') : B = C := by
  obtain ⟨a1, p1, q1⟩ := h.lx; obtain ⟨a2, p2, q2⟩ := h.hx; obtain ⟨a3, p3, q3⟩ := h.ly; obtain ⟨a4, p4, q4⟩ := h.hy
  obtain ⟨b1, r1, s1⟩ := k.lx; obtain ⟨b2, r2, s2⟩ := k.hx; obtain ⟨b3, r3, s3⟩ := k.ly; obtain ⟨b4, r4, s4⟩ := k.hy
  have u1 := k.inn a1 ((hm _).1 p1); have u2 := k.inn a2 ((hm _).1 p2); have u3 := k.inn a3 ((hm _).1 p3); have u4 := k.inn a4 ((hm _).1 p4)
  have v1 := h.inn b1 ((hm _).2 r1); have v2 := h.inn b2 ((hm _).2 r2); have v3 := h.inn b3 ((hm _).2 r3); have v4 := h.inn b4 ((hm _).2 r4)
  obtain ⟨Bl, Bh⟩ := B; obtain ⟨Cl, Ch⟩ := C
  simp only at *
  rw [place_ext (p := Bl) (q := Cl) (by omega) (by omega), place_ext (p := Bh) (q := Ch) (by omega) (by omega)]
theorem boxI_P {r : List Place} (hr : r.length ≤ 1048576) (h1 : 1 ≤ r.length) (hp : ∀ p ∈ r, isPl p = true) : ∃ B, G59 (r, ()) = some (B, true, ()) ∧ BoxP r B := by
  obtain ⟨p0, l, rfl⟩ : ∃ p l, r = p :: l := by
    cases r with
    | nil => simp at h1
    | cons p l => exact ⟨p, l, rfl⟩
  generalize hrr : p0 :: l = r at hr h1 hp ⊢
  have h0 : r[0]? = some p0 := by rw [← hrr]; rfl
  have inv : ∀ i, i < r.length → BoxP (r.take (i + 1)) ((r.take (i + 1)).foldl grow ⟨p0, p0⟩) := by
    intro i
    induction i with
    | zero =>
      intro _
      have : r.take 1 = [p0] := by rw [← hrr]; rfl
      rw [this]
      have e : [p0].foldl grow ⟨p0, p0⟩ = ⟨p0, p0⟩ := by
        simp only [List.foldl_cons, List.foldl_nil, grow, mn_self, mx_self]
      rw [e]
      exact boxP_one p0
    | succ i ih =>
      intro hi
      rw [take_snocG r (i + 1) hi, List.foldl_append]
      exact boxP_grow (ih (by omega)) _
  refine ⟨r.foldl grow ⟨p0, p0⟩, ?_, ?_⟩
  · unfold G59 F59
    simp only
    rw [cond_false_dec (by simp only [Int.ofNat_eq_natCast]; omega), show rdL r 0 = fun (K : Place → Option (Box × Bool × Unit)) => K p0 from funext fun K => rdL_at (i := 0) h0]
    dsimp only
    have := iterF_for (f := s59_0 G43) (K := fun t6 => some (t6.2.1, true, ())) (fun i => ((⟨⟨0, 0⟩, ⟨0, 0⟩⟩ : Box), (r.take i).foldl grow ⟨p0, p0⟩, r, Int.ofNat r.length, (i : Int), ())) r.length (by omega)
      (by
        intro i hi rec K
        have hx : r[i]? = some r[i] := by simp
        have e1 : w64 ((i : Int) + 1) = ((i + 1 : Nat) : Int) := w64_id (by omega) (by omega)
        have hpl : G43 (r[i], ()) = some (isPl r[i], ()) := placeI _
        rw [fold_take _ _ r i hi]
        simp only [s59_0]
        rw [cond_true_dec (by simp; omega), rdL_at hx, hpl, hp _ (by simp), e1]
        rfl)
      (by
        intro rec K
        simp only [s59_0]
        rw [cond_false_dec (by simp)])
    have e0 : (r.take 0).foldl grow ⟨p0, p0⟩ = ⟨p0, p0⟩ := rfl
    have en : r.take r.length = r := List.take_length
    simp only [en] at this
    rw [e0] at this
    exact this
  · have := inv (r.length - 1) (by omega)
    rw [show r.length - 1 + 1 = r.length by omega, List.take_length] at this
    exact this
/-! ### Roses -/
def scale (n : Int) (p : Place) : Place := ⟨n * p.X, n * p.Y⟩
structure RoseV (r : List Place) : Prop where
  len : 1 ≤ r.length ∧ r.length ≤ 4
  sm : ∀ p ∈ r, isDr p = true
  isI : G57 (r, ()) = some (true, ())
theorem roseV_of {r : List Place} (hr : r.length ≤ 1048576) (h : G57 (r, ()) = some (true, ())) : RoseV r := by
  obtain ⟨b, q1, q3⟩ := rose_ok r hr
  have q1 : G57 (r, ()) = some (b, ()) := q1
  have hb : b = true := by rw [h] at q1; cases q1; rfl
  subst hb
  obtain ⟨p1, p2, p3⟩ := q3 rfl
  exact ⟨⟨p1, p2⟩, p3, q1⟩
theorem mul_small {n x : Int} (h0 : 0 ≤ n) (h1 : n ≤ 128) (hx : -8 ≤ x ∧ x ≤ 8) : w64 (n * x) = n * x ∧ -(8 * n) ≤ n * x ∧ n * x ≤ 8 * n := by
  have a : n * x ≤ n * 8 := Int.mul_le_mul_of_nonneg_left hx.2 h0
  have b : n * (-8) ≤ n * x := Int.mul_le_mul_of_nonneg_left hx.1 h0
  exact ⟨w64_id (by omega) (by omega), by omega, by omega⟩
theorem roseBox_is {r : List Place} (h : RoseV r) : ∃ C, BoxP r C ∧ (Sm 8 C.Low ∧ Sm 8 C.High) ∧ ∀ n : Int, 0 ≤ n → n ≤ 128 → G105 (r, n, ()) = some (⟨scale n C.Low, scale n C.High⟩, true, ()) := by
  obtain ⟨C, c1, c2⟩ := boxI_P (r := r) (by have := h.len; omega) h.len.1 (fun p hp => by
    have := dr_sm (h.sm p hp)
    unfold isPl
    rw [wi_of (by have := this.1; omega) (by have := this.1; omega), wi_of (by have := this.2; omega) (by have := this.2; omega)]; rfl)
  obtain ⟨a1, p1, q1⟩ := c2.lx; obtain ⟨a2, p2, q2⟩ := c2.hx; obtain ⟨a3, p3, q3⟩ := c2.ly; obtain ⟨a4, p4, q4⟩ := c2.hy
  have s1 := dr_sm (h.sm a1 p1); have s2 := dr_sm (h.sm a2 p2); have s3 := dr_sm (h.sm a3 p3); have s4 := dr_sm (h.sm a4 p4)
  have hC : Sm 8 C.Low ∧ Sm 8 C.High := ⟨⟨by rw [← q1]; exact s1.1, by rw [← q3]; exact s3.2⟩, by rw [← q2]; exact s2.1, by rw [← q4]; exact s4.2⟩
  refine ⟨C, c2, hC, fun n h0 h1 => ?_⟩
  have hw : G42 (n, 0, 128, ()) = some (wi n 0 128, ()) := within_is _ _ _
  unfold G105 F105
  simp only [h.isI, hw, wi_of h0 h1, c1, Option.bind_some, Bool.not_true, Bool.not_false, cond_true, cond_false]
  rw [(mul_small h0 h1 hC.1.1).1, (mul_small h0 h1 hC.1.2).1, (mul_small h0 h1 hC.2.1).1, (mul_small h0 h1 hC.2.2).1]
  rfl
/-- Where the drops of a jet may land. -/
def lbE (j : Jet) (C : Box) : Box := ⟨add (pN j (fl j)) (scale (fl j) C.Low), add (pN j (fl j)) (scale (fl j) C.High)⟩
theorem land_pN {j : Jet} (h : isJet j = true) : landP j = (pN j (fl j), true) := by
  have hf : fl j = j.Lift + 1 := by unfold fl; rw [if_pos h]
  have J := jet_ok h
  have hl := J.l
  unfold landP
  rw [if_pos h, ← placeN_pN J (by omega) (by omega), hf]
  rfl
theorem scale_sm {n : Int} (h0 : 0 ≤ n) (h1 : n ≤ 33) {p : Place} (h : Sm 8 p) : Sm 264 (scale n p) := by
  have a := mul_small h0 (by omega) h.1
  have b := mul_small h0 (by omega) h.2
  exact ⟨⟨by simp only [scale]; omega, by simp only [scale]; omega⟩, by simp only [scale]; omega, by simp only [scale]; omega⟩
theorem landBox_is {r : List Place} {C : Box} (hC : Sm 8 C.Low ∧ Sm 8 C.High) (hB : ∀ n : Int, 0 ≤ n → n ≤ 128 → G105 (r, n, ()) = some (⟨scale n C.Low, scale n C.High⟩, true, ())) {j : Jet} (h : isJet j = true) :
    G58 (j, r, ()) = some (lbE j C, true, ()) ∧ Sm 1816 (lbE j C).Low ∧ Sm 1816 (lbE j C).High := by
  have hb := fl_bound j
  have h1 := pN_sm (jet_ok h) hb.1 hb.2
  have s1 := scale_sm hb.1 hb.2 hC.1
  have s2 := scale_sm hb.1 hb.2 hC.2
  have hl : G104 (j, ()) = some ((landP j).1, (landP j).2, ()) := landI j
  have e1 := plus_add (m := 1552) (n := 264) (by omega) h1 s1
  have e2 := plus_add (m := 1552) (n := 264) (by omega) h1 s2
  refine ⟨?_, add_sm h1 s1, add_sm h1 s2⟩
  unfold G58 F58 lbE
  simp only [hl, flI_is, hB (fl j) hb.1 (by omega), land_pN h, Option.bind_some, Bool.not_true, Bool.not_false, cond_true, cond_false]
  rw [← e1, ← e2]
  rfl
/-! ### The least basin -/
def corns (C : Box) (l : List Throw) : List Place := l.flatMap fun x => [(lbE x.jet C).Low, (lbE x.jet C).High]
theorem corn_fold {r : List Place} {C : Box} (h : ∀ j, isJet j = true → lbx j r = lbE j C) : ∀ (l : List Throw) (a : List Place), (∀ x ∈ l, isJet x.jet = true) → l.foldl (cornF r) a = a ++ corns C l
  | [], a, _ => by simp [corns]
  | x :: l, a, hx => by
    rw [List.foldl_cons, corn_fold h l _ fun y hy => hx y (by simp [hy])]
    unfold cornF corns
    rw [h _ (hx x (by simp)), List.flatMap_cons, List.append_assoc]
theorem leastI_is {s : ShowT} (h : ShowV s) {r : List Place} (hr : RoseV r) {C : Box} (hC : Sm 8 C.Low ∧ Sm 8 C.High) (hB : ∀ n : Int, 0 ≤ n → n ≤ 128 → G105 (r, n, ()) = some (⟨scale n C.Low, scale n C.High⟩, true, ())) :
    (throwsL s = [] ∧ G23 (s, r, ()) = some (⟨⟨0, 0⟩, ⟨0, 0⟩⟩, false, ())) ∨ (throwsL s ≠ [] ∧ ∃ B, G23 (s, r, ()) = some (B, true, ()) ∧ BoxP (corns C (throwsL s)) B ∧ Sm 1816 B.Low ∧ Sm 1816 B.High) := by
  have hl := throwsL_len h
  have hrl : r.length ≤ 1048576 := by have := hr.len; omega
  have hlb : ∀ j, isJet j = true → lbx j r = lbE j C := fun j hj => by
    unfold lbx; rw [(landBox_is hC hB hj).1]; rfl
  have hjet : ∀ x ∈ throwsL s, isJet x.jet = true := fun x hx => (throws_fly h hx).jet
  have e : G23 (s, r, ()) = (G59 (corns C (throwsL s), ())).bind fun x6 => some (x6.1, x6.2.1, ()) := by
    unfold G23 F23
    simp only [es_show, hr.isI, Option.bind_some, Bool.not_true, cond_false]
    rw [allI_is h]
    simp only [Option.bind_some]
    rw [cornI_loop r hrl _ (by omega), corn_fold hlb _ _ hjet]
    rfl
  by_cases h0 : throwsL s = []
  · refine .inl ⟨h0, ?_⟩
    rw [e, h0]
    exact (by rw [show corns C [] = [] from rfl, boxOf_nil]; rfl)
  · refine .inr ⟨h0, ?_⟩
    have hsm : ∀ p ∈ corns C (throwsL s), Sm 1816 p := fun p hp => by
      unfold corns at hp
      obtain ⟨x, hx, hp⟩ := List.mem_flatMap.mp hp
      have := landBox_is hC hB (hjet x hx)
      simp only [List.mem_cons, List.not_mem_nil, or_false] at hp
      rcases hp with rfl | rfl
      · exact this.2.1
      · exact this.2.2
    have hlen : (corns C (throwsL s)).length = 2 * (throwsL s).length := by
      have := corn_fold hlb (throwsL s) [] hjet
      have h2 := corn_len r (throwsL s) []
      rw [this] at h2
      simpa using h2
    have hpos : 1 ≤ (throwsL s).length := by
      cases ht : throwsL s with
      | nil => exact absurd ht h0
      | cons x l => simp
    obtain ⟨B, b1, b2⟩ := boxI_P (r := corns C (throwsL s)) (by omega) (by omega) (fun p hp => by
      have := hsm p hp
      unfold isPl
      rw [wi_of (by have := this.1; omega) (by have := this.1; omega), wi_of (by have := this.2; omega) (by have := this.2; omega)]; rfl)
    refine ⟨B, ?_, b2, ?_⟩
    · rw [e, b1]; rfl
    · obtain ⟨a1, p1, q1⟩ := b2.lx; obtain ⟨a2, p2, q2⟩ := b2.hx; obtain ⟨a3, p3, q3⟩ := b2.ly; obtain ⟨a4, p4, q4⟩ := b2.hy
      have s1 := hsm a1 p1; have s2 := hsm a2 p2; have s3 := hsm a3 p3; have s4 := hsm a4 p4
      exact ⟨⟨by rw [← q1]; exact s1.1, by rw [← q3]; exact s3.2⟩, by rw [← q2]; exact s2.1, by rw [← q4]; exact s4.2⟩
/-- A place is in a box, told by numbers. -/
def InP (c : Box) (p : Place) : Prop := (c.Low.X ≤ p.X ∧ p.X ≤ c.High.X) ∧ c.Low.Y ≤ p.Y ∧ p.Y ≤ c.High.Y
theorem inBx_iff {c : Box} (hc : isBx c = true) (p : Place) : inBx c p = true ↔ InP c p := by
  unfold inBx InP
  rw [hc, Bool.true_and, Bool.and_eq_true, wi_true, wi_true]
theorem isIn_iff {b c : Box} (hc : isBx c = true) : isIn b c = true ↔ InP c b.Low ∧ InP c b.High := by
  unfold isIn
  rw [Bool.and_eq_true, inBx_iff hc, inBx_iff hc]
/-- All that a show may throw lands in a basin. -/
def SafeP (C : Box) (s : ShowT) (c : Box) : Prop := ∀ x ∈ throwsL s, InP c (lbE x.jet C).Low ∧ InP c (lbE x.jet C).High
theorem hull_in {C : Box} {l : List Throw} {B c : Box} (h : BoxP (corns C l) B) : (InP c B.Low ∧ InP c B.High) ↔ ∀ x ∈ l, InP c (lbE x.jet C).Low ∧ InP c (lbE x.jet C).High := by
  have mem : ∀ x ∈ l, (lbE x.jet C).Low ∈ corns C l ∧ (lbE x.jet C).High ∈ corns C l := fun x hx => by
    unfold corns
    exact ⟨List.mem_flatMap.mpr ⟨x, hx, by simp⟩, List.mem_flatMap.mpr ⟨x, hx, by simp⟩⟩
  constructor
  · rintro ⟨⟨h1, h2⟩, h3, h4⟩ x hx
    have a := h.inn _ (mem x hx).1
    have b := h.inn _ (mem x hx).2
    exact ⟨⟨by omega, by omega⟩, by omega, by omega⟩
  · intro k
    have all : ∀ p ∈ corns C l, InP c p := fun p hp => by
      unfold corns at hp
      obtain ⟨x, hx, hp⟩ := List.mem_flatMap.mp hp
      simp only [List.mem_cons, List.not_mem_nil, or_false] at hp
      rcases hp with rfl | rfl
      · exact (k x hx).1
      · exact (k x hx).2
    obtain ⟨a1, p1, q1⟩ := h.lx; obtain ⟨a2, p2, q2⟩ := h.hx; obtain ⟨a3, p3, q3⟩ := h.ly; obtain ⟨a4, p4, q4⟩ := h.hy
    have s1 := all a1 p1; have s2 := all a2 p2; have s3 := all a3 p3; have s4 := all a4 p4
    unfold InP at *
    omega
theorem safeI_is {s : ShowT} (h : ShowV s) {r : List Place} (hr : RoseV r) {C : Box} (hC : Sm 8 C.Low ∧ Sm 8 C.High) (hB : ∀ n : Int, 0 ≤ n → n ≤ 128 → G105 (r, n, ()) = some (⟨scale n C.Low, scale n C.High⟩, true, ())) (c : Box) :
    ∃ b, G26 (s, r, c, ()) = some (b, ()) ∧ (b = true ↔ isBx c = true ∧ SafeP C s c) := by
  unfold G26 F26
  simp only [es_show]
  rw [showI_is s h.ok, showB_of h, hr.isI]
  simp only [Option.bind_some, Bool.not_true, Bool.not_false, cond_true, boxI_is]
  cases hc : isBx c
  · exact ⟨false, rfl, by simp⟩
  · simp only [Bool.not_true, cond_false]
    rcases leastI_is h hr hC hB with ⟨h0, e⟩ | ⟨h0, B, e, hP, _⟩
    · rw [e]
      refine ⟨true, rfl, by simp; intro x hx; rw [h0] at hx; cases hx⟩
    · rw [e]
      simp only [Option.bind_some, Bool.not_true, Bool.not_false, cond_true, within_isI]
      refine ⟨isIn B c, rfl, ?_⟩
      rw [isIn_iff hc, hull_in hP]
      simp [SafeP]
end Ev
