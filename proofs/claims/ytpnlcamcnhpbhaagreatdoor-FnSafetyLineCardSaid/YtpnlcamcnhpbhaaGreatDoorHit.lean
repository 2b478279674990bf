/- Where a drop lands outside: the worst drifts and the box of the rose. -/
import Derived.Test.YtpnlcamcnhpbhaaGreatDoorWetA
import Derived.Test.YtpnlcamcnhpbhaaGreatDoorGeo
set_option linter.unusedVariables false
set_option linter.unusedSimpArgs false
set_option maxRecDepth 100000
namespace Ev
open Go
theorem fold_max (h : Int) : ∀ (l : List Place) (a : Place), (l.foldl (wdF h) a = a ∨ l.foldl (wdF h) a ∈ l) ∧ rotX h a ≤ rotX h (l.foldl (wdF h) a) ∧ ∀ p ∈ l, rotX h p ≤ rotX h (l.foldl (wdF h) a)
  | [], a => ⟨.inl rfl, Int.le_refl _, fun p hp => by cases hp⟩
  | p :: l, a => by
    rw [List.foldl_cons]
    obtain ⟨g1, g2, g3⟩ := fold_max h l (wdF h a p)
    have hb : (wdF h a p = a ∨ wdF h a p = p) ∧ rotX h a ≤ rotX h (wdF h a p) ∧ rotX h p ≤ rotX h (wdF h a p) := by
      unfold wdF
      by_cases c : rotX h p > rotX h a
      · rw [if_pos c]; exact ⟨.inr rfl, by omega, by omega⟩
      · rw [if_neg c]; exact ⟨.inl rfl, by omega, by omega⟩
    refine ⟨?_, by omega, fun q hq => ?_⟩
    · rcases g1 with g1 | g1
      · rw [g1]
        rcases hb.1 with e | e
        · exact .inl e
        · rw [e]; exact .inr (by simp)
      · exact .inr (by simp [g1])
    · rcases List.mem_cons.mp hq with rfl | hq
      · omega
      · exact g3 q hq
theorem wdV_max (h : Int) {r : List Place} (h1 : 1 ≤ r.length) : wdV h r ∈ r ∧ ∀ p ∈ r, rotX h p ≤ rotX h (wdV h r) := by
  cases r with
  | nil => simp at h1
  | cons p l =>
    obtain ⟨g1, _, g3⟩ := fold_max h (p :: l) p
    refine ⟨?_, g3⟩
    show (p :: l).foldl (wdF h) p ∈ p :: l
    rcases g1 with g1 | g1
    · rw [g1]; simp
    · exact g1
theorem rotX_val {p : Place} (hp : Sm 8 p) {h : Nat} (hh : h < 4) : rotX (h : Int) p = if h = 0 then p.X else if h = 1 then p.Y else if h = 2 then -p.X else -p.Y := by
  have key : ∀ k : Nat, k < 4 → (rotN k p).X = (rt k p).X := fun k hk => by rw [rot_rt (m := 8) (by omega) hp hk]
  rcases k4 hh with rfl | rfl | rfl | rfl
  · have e : q4 (w64 (0 - ((0 : Nat) : Int))) = 0 := by rw [w64_id (by omega) (by omega)]; decide
    unfold rotX; rw [e, key 0 (by omega)]; rfl
  · have e : q4 (w64 (0 - ((1 : Nat) : Int))) = 3 := by rw [w64_id (by omega) (by omega)]; decide
    unfold rotX; rw [e, key 3 (by omega)]; rfl
  · have e : q4 (w64 (0 - ((2 : Nat) : Int))) = 2 := by rw [w64_id (by omega) (by omega)]; decide
    unfold rotX; rw [e, key 2 (by omega)]; rfl
  · have e : q4 (w64 (0 - ((3 : Nat) : Int))) = 1 := by rw [w64_id (by omega) (by omega)]; decide
    unfold rotX; rw [e, key 1 (by omega)]; rfl
theorem wdV_C {r : List Place} (hr : RoseV r) {C : Box} (hC : BoxP r C) : (wdV ((0 : Nat) : Int) r).X = C.High.X ∧ (wdV ((1 : Nat) : Int) r).Y = C.High.Y ∧ (wdV ((2 : Nat) : Int) r).X = C.Low.X ∧ (wdV ((3 : Nat) : Int) r).Y = C.Low.Y := by
  have sm : ∀ p ∈ r, Sm 8 p := fun p hp => dr_sm (hr.sm p hp)
  obtain ⟨p0, m0, e0⟩ := hC.hx; obtain ⟨p1, m1, e1⟩ := hC.hy; obtain ⟨p2, m2, e2⟩ := hC.lx; obtain ⟨p3, m3, e3⟩ := hC.ly
  have go : ∀ (h : Nat), h < 4 → ∀ p ∈ r, (if h = 0 then p.X else if h = 1 then p.Y else if h = 2 then -p.X else -p.Y) ≤ (if h = 0 then (wdV (h : Int) r).X else if h = 1 then (wdV (h : Int) r).Y else if h = 2 then -(wdV (h : Int) r).X else -(wdV (h : Int) r).Y) := fun h hh p hp => by
    obtain ⟨w1, w2⟩ := wdV_max (h : Int) hr.len.1
    have := w2 p hp
    rw [rotX_val (sm p hp) hh, rotX_val (sm _ w1) hh] at this
    exact this
  have b0 := hC.inn _ (wdV_max ((0 : Nat) : Int) hr.len.1).1
  have b1 := hC.inn _ (wdV_max ((1 : Nat) : Int) hr.len.1).1
  have b2 := hC.inn _ (wdV_max ((2 : Nat) : Int) hr.len.1).1
  have b3 := hC.inn _ (wdV_max ((3 : Nat) : Int) hr.len.1).1
  have g0 := go 0 (by omega) p0 m0
  have g1 := go 1 (by omega) p1 m1
  have g2 := go 2 (by omega) p2 m2
  have g3 := go 3 (by omega) p3 m3
  simp only [if_true, show ¬ (1 : Nat) = 0 by omega, show ¬ (2 : Nat) = 0 by omega, show ¬ (3 : Nat) = 0 by omega, show ¬ (2 : Nat) = 1 by omega, show ¬ (3 : Nat) = 1 by omega, show ¬ (3 : Nat) = 2 by omega, if_false] at g0 g1 g2 g3
  omega
theorem wq_is {r : List Place} (hr : RoseV r) {x : Throw} (hj : isJet x.jet = true) (h : Nat) : wq r x h = add (pN x.jet (fl x.jet)) (scale (fl x.jet) (wdV (h : Int) r)) := by
  have hb := fl_bound x.jet
  have hs := dr_sm (hr.sm _ (wdV_max (h : Int) hr.len.1).1)
  have h1 := pN_sm (jet_ok hj) hb.1 hb.2
  have s1 := scale_sm hb.1 hb.2 hs
  unfold wq
  rw [land_pN hj, (mul_small hb.1 (by omega) hs.1).1, (mul_small hb.1 (by omega) hs.2).1]
  exact plus_add (m := 1552) (n := 264) (by omega) h1 s1
theorem lbE_le {r : List Place} {C : Box} (hC : BoxP r C) (j : Jet) : (lbE j C).Low.X ≤ (lbE j C).High.X ∧ (lbE j C).Low.Y ≤ (lbE j C).High.Y := by
  have hb := fl_bound j
  obtain ⟨p, hp, _⟩ := hC.lx
  have hin := hC.inn p hp
  have a := Int.mul_le_mul_of_nonneg_left (show C.Low.X ≤ C.High.X by omega) hb.1
  have b := Int.mul_le_mul_of_nonneg_left (show C.Low.Y ≤ C.High.Y by omega) hb.1
  unfold lbE add scale
  simp only
  omega
theorem hit_safe {s : ShowT} (hv : ShowV s) {r : List Place} (hr : RoseV r) {C : Box} (hC : BoxP r C) (c : Box) : wwL s r c = none ↔ SafeP C s c := by
  obtain ⟨d0, d1, d2, d3⟩ := wdV_C hr hC
  have side : ∀ x ∈ throwsL s, ∀ h, h < 4 → sideB (wq r x h) c h = (if h = 0 then decide ((lbE x.jet C).High.X > c.High.X) else if h = 1 then decide ((lbE x.jet C).High.Y > c.High.Y) else if h = 2 then decide ((lbE x.jet C).Low.X < c.Low.X) else decide ((lbE x.jet C).Low.Y < c.Low.Y)) := fun x hx h hh => by
    rw [wq_is hr (throws_fly hv hx).jet h]
    unfold sideB lbE add scale
    rcases k4 hh with rfl | rfl | rfl | rfl
    · simp only [if_true]; rw [d0]
    · simp only [show ¬ (1 : Nat) = 0 by omega, if_true, if_false]; rw [d1]
    · simp only [show ¬ (2 : Nat) = 0 by omega, show ¬ (2 : Nat) = 1 by omega, if_true, if_false]; rw [d2]
    · simp only [show ¬ (3 : Nat) = 0 by omega, show ¬ (3 : Nat) = 1 by omega, show ¬ (3 : Nat) = 2 by omega, if_true, if_false]; rw [d3]
  constructor
  · intro hw x hx
    have no := hitL_none hw x hx
    have n0 := no 0 (by omega); have n1 := no 1 (by omega); have n2 := no 2 (by omega); have n3 := no 3 (by omega)
    rw [side x hx 0 (by omega)] at n0
    rw [side x hx 1 (by omega)] at n1
    rw [side x hx 2 (by omega)] at n2
    rw [side x hx 3 (by omega)] at n3
    simp only [show ¬ (1 : Nat) = 0 by omega, show ¬ (2 : Nat) = 0 by omega, show ¬ (3 : Nat) = 0 by omega, show ¬ (2 : Nat) = 1 by omega, show ¬ (3 : Nat) = 1 by omega, show ¬ (3 : Nat) = 2 by omega, if_true, if_false, decide_eq_false_iff_not] at n0 n1 n2 n3
    have hle := lbE_le hC x.jet
    unfold InP
    omega
  · intro hs
    cases hw : wwL s r c with
    | none => rfl
    | some a =>
      exfalso
      obtain ⟨x, k⟩ := a
      obtain ⟨hx, hk⟩ := hitL_of hw
      obtain ⟨hk4, hsd⟩ := hitH_lt hk
      rw [side x hx k hk4] at hsd
      obtain ⟨s1, s2⟩ := hs x hx
      unfold InP at s1 s2
      rcases k4 hk4 with rfl | rfl | rfl | rfl <;> simp only [show ¬ (1 : Nat) = 0 by omega, show ¬ (2 : Nat) = 0 by omega, show ¬ (3 : Nat) = 0 by omega, show ¬ (2 : Nat) = 1 by omega, show ¬ (3 : Nat) = 1 by omega, show ¬ (3 : Nat) = 2 by omega, if_true, if_false, decide_eq_true_eq] at hsd <;> omega
end Ev
