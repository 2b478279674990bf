/- A drawn show that is turned is safe around the turned basin, for the turned rose, exactly if it was before: on no condition. -/
import Derived.Test.YtpnlcamcnhpbhaaGreatRows
import Derived.Test.YtpnlcamcnhpbhaaGreatTurnI
import Derived.Test.YtpnlcamcnhpbhaaGreatBasin
import Derived.Test.YtpnlcamcnhpbhaaGreatWetA
import Derived.Test.YtpnlcamcnhpbhaaGreatSort
import Derived.Test.YtpnlcamcnhpbhaaGreatPureA
import Derived.WalkKit
import Derived.ProofKit
import Derived.OpenShut
import Derived.ShutString
import Derived.ChangeOld
import Derived.Below
import Derived.SizedLaws
set_option linter.unusedVariables false
set_option linter.unusedSimpArgs false
set_option maxRecDepth 100000
namespace Ev
open Go Go.Proofs
def tb (B : Box) : Box := ⟨⟨-B.High.Y, B.Low.X⟩, ⟨-B.Low.Y, B.High.X⟩⟩
theorem lbE_le' {r : List Place} {C : Box} (hC : BoxP r C) (j : Jet) : (lbE j C).Low.X ≤ (lbE j C).High.X ∧ (lbE j C).Low.Y ≤ (lbE j C).High.Y := by
  have hb := fl_bound j
  obtain ⟨p, hp, _⟩ := hC.lx
  have hin := hC.inn p hp
  have a := Int.mul_le_mul_of_nonneg_left (show C.Low.X ≤ C.High.X by omega) hb.1
  have b := Int.mul_le_mul_of_nonneg_left (show C.Low.Y ≤ C.High.Y by omega) hb.1
  unfold lbE add scale
  simp only
  omega
theorem q4_one : q4 1 = 1 := by decide
theorem rt_one (p : Place) : rt 1 p = ⟨-p.Y, p.X⟩ := rfl
theorem lbE_tb {j : Jet} (h : isJet j = true) (C : Box) : lbE (tnJ 1 j) (tb C) = tb (lbE j C) := by
  unfold lbE tb
  rw [tn_fl h 1, tn_pN h 1, q4_one, rt_one]
  unfold add scale
  simp only [Int.mul_neg, Int.neg_add]
/-! The rose in order. -/
theorem roseI_lt {r : List Place} (h : RoseV r) : SortedP r := by
  refine ⟨fun i a b ha hb => ?_⟩
  by_cases hc : cmpP a b < 0
  · exact hc
  · exfalso
    have hi := h.isI
    have hn := h.len.2
    unfold G57 F57 at hi
    dsimp only at hi
    rw [show (0 : Int) = ((0 : Nat) : Int) from rfl] at hi
    rw [iterF_find (f := s57_0 G89 G65 G42) (fun i => (r, r, Int.ofNat r.length, (i : Int), ()))
      (fun i => match r[i]?, r[i - 1]? with | some y, some x => !isDr y || (decide (0 < i) && decide (cmpP x y ≥ 0)) | _, _ => false) (fun _ => some (false, ())) r.length (by omega)
      (fun i hi rec K => ?_) (fun rec K => ?_)] at hi
    · split at hi
      · cases hi
      · rename_i hno
        rw [List.find?_eq_none] at hno
        have hib : i + 1 < r.length := (List.getElem?_eq_some_iff.mp hb).1
        have := hno (i + 1) (by simpa using hib)
        simp only [Nat.add_sub_cancel, ha, hb] at this
        apply this
        rw [Bool.or_eq_true]
        exact .inr (by simp; omega)
    · have hx : r[i]? = some r[i] := by simp
      have e1 : w64 ((i : Int) + 1) = ((i + 1 : Nat) : Int) := w64_id (by omega) (by omega)
      have hdr : G89 (r[i], ()) = some (isDr r[i], ()) := drI _
      simp only [s57_0]
      rw [cond_true_dec (by simp; omega), rdL_at hx, hdr, e1]
      simp only [Option.bind_some]
      by_cases hz : i = 0
      · subst hz
        have e0 : ¬ (((0 : Nat) : Int) > 0) := by omega
        simp only [hx, decide_eq_false e0, cond_false, Nat.lt_irrefl, decide_false, Bool.false_and, Bool.or_false]
        cases isDr r[0] <;> rfl
      · obtain ⟨j, rfl⟩ : ∃ j, i = j + 1 := ⟨i - 1, by omega⟩
        have hy : r[j]? = some r[j] := by simp
        have e2 : w64 (((j + 1 : Nat) : Int) - 1) = (j : Int) := by rw [w64_id (by omega) (by omega)]; omega
        rw [cond_true_dec (by omega), e2, rdL_at hy, cmpI_at]
        simp only [Option.bind_some, Nat.add_sub_cancel, hx, hy, show 0 < j + 1 by omega, decide_true, Bool.true_and]
        cases isDr r[j + 1]
        · rfl
        · simp only [Bool.not_true, Bool.not_false, Bool.false_or, cond_true]
    · simp only [s57_0]
      rw [cond_false_dec (by simp)]
theorem cmpPZ_lt (p q : Place) : cmpP p q < 0 ↔ ltZ p q = true := by
  unfold cmpP cmpI ltZ
  rw [decide_eq_true_eq]
  by_cases h1 : p.X < q.X
  · simp [h1]
  · by_cases h2 : p.X > q.X
    · simp [h1, h2]; omega
    · have h3 : p.X = q.X := by omega
      by_cases h4 : p.Y < q.Y
      · simp [h3, h4]
      · by_cases h5 : p.Y > q.Y <;> simp [h3, h4, h5]
theorem ltZ_trans {x y z : Place} (h1 : ltZ x y = true) (h2 : ltZ y z = true) : ltZ x z = true := by
  unfold ltZ at *; simp at *; omega
theorem ltZ_irr (x : Place) : ltZ x x = false := by unfold ltZ; simp
theorem sorted_pair : ∀ {r : List Place}, SortedP r → r.Pairwise fun x y => ltZ x y = true
  | [], _ => List.Pairwise.nil
  | [x], _ => List.pairwise_singleton _ _
  | x :: y :: l, h => by
    have hxy := (cmpPZ_lt x y).1 (h.lt 0 x y rfl rfl)
    have ih := sorted_pair (r := y :: l) ⟨fun i a b ha hb => h.lt (i + 1) a b (by simpa using ha) (by simpa using hb)⟩
    refine List.pairwise_cons.mpr ⟨fun z hz => ?_, ih⟩
    rcases List.mem_cons.mp hz with rfl | hz
    · exact hxy
    · exact ltZ_trans hxy ((List.pairwise_cons.mp ih).1 z hz)
noncomputable def ordL (q : List Place) : List Place := q.mergeSort fun x y => !(ltOf cmpZ) y x
theorem ordL_perm (q : List Place) : (ordL q).Perm q := List.mergeSort_perm _ _
theorem ordL_pair {q : List Place} (hn : q.Nodup) : (ordL q).Pairwise fun x y => ltZ x y = true := by
  have h := List.pairwise_mergeSort (le := fun x y => !(ltOf cmpZ) y x) (fun a b c => by
      simp only [ltZ_is]; unfold ltZ; simp; omega) (fun a b => by
      simp only [ltZ_is]; unfold ltZ; simp; omega) q
  have hn' : (ordL q).Nodup := (ordL_perm q).nodup_iff.mpr hn
  have := List.Pairwise.and h hn'
  refine this.imp fun {x y} ⟨h1, h2⟩ => ?_
  simp only [ltZ_is] at h1
  unfold ltZ at *
  simp at h1 ⊢
  have : ¬ (x.X = y.X ∧ x.Y = y.Y) := fun e => h2 (place_ext e.1 e.2)
  omega
theorem cloneP (l : List Place) (hl : l.length ≤ 1048576) : G63 (l, ()) = some (l, ()) := by
  unfold G63 F63 emptyK
  cases l with
  | nil => rw [capK_le (by simp)]; exact both_self'
  | cons x l => rw [capK_le (by simp at hl ⊢; omega)]; rfl
theorem compact_is {l : List Place} (hl : l.length ≤ 1048576) (h : l.Pairwise fun x y => ltZ x y = true) : G66 (l, ()) = some (l, (), ()) := by
  unfold G66 F66
  by_cases h2 : l.length < 2
  · rw [cond_true_dec (by simp only [Int.ofNat_eq_natCast]; omega)]
  · rw [cond_false_dec (by simp only [Int.ofNat_eq_natCast]; omega)]
    refine (iterF_for (f := s66_0) (K := fun t9 => some (t9.1, (), ())) (fun i => (l, ((i + 1 : Nat) : Int), ())) (l.length - 1) (by omega) ?_ ?_).trans rfl
    · intro i hi rec K
      have hx : l[i + 1]? = some l[i + 1] := by simp [show i + 1 < l.length by omega]
      have hy : l[i]? = some l[i] := by simp [show i < l.length by omega]
      have e1 : w64 (((i + 1 : Nat) : Int) + 1) = ((i + 1 + 1 : Nat) : Int) := w64_id (by omega) (by omega)
      have e2 : w64 (((i + 1 : Nat) : Int) - 1) = (i : Int) := by rw [w64_id (by omega) (by omega)]; omega
      have hlt := (List.pairwise_iff_getElem.mp h) i (i + 1) (by omega) (by omega) (by omega)
      simp only [s66_0]
      rw [cond_true_dec (by simp only [Int.ofNat_eq_natCast]; omega), rdL_at hx]
      simp only [hx, Int.toNat_natCast, Option.bind_some, e2]
      rw [rdL_at hy]
      simp only [hy, Int.toNat_natCast, Option.bind_some, e1]
      have hne : (decide (l[i + 1].X = l[i].X) && (decide (l[i + 1].Y = l[i].Y) && true)) = false := by
        unfold ltZ at hlt
        simp at hlt ⊢
        omega
      rw [hne, cond_false]
    · intro rec K
      simp only [s66_0]
      rw [cond_false_dec (by simp only [Int.ofNat_eq_natCast]; omega)]
theorem sortedI_is {q : List Place} (hq : q.length ≤ 1048576) (hn : q.Nodup) : G25 (q, ()) = some (ordL q, ()) := by
  have hl : (ordL q).length = q.length := (ordL_perm q).length_eq
  unfold G25 F25
  rw [cloneP q hq]
  simp only [Option.bind_some]
  have e : G64 (q, ()) = some (ordL q, ()) := by
    unfold G64 ordL
    rw [if_pos (by simp only; omega)]
  rw [e]
  simp only [Option.bind_some]
  rw [compact_is (by omega) (ordL_pair hn)]
  rfl
/-! The turned rose. -/
theorem rose_nodup {r : List Place} (h : RoseV r) : r.Nodup := (sorted_pair (roseI_lt h)).imp fun {x y} hxy e => by
  subst e; rw [ltZ_irr] at hxy; cases hxy
theorem rt1_inj {x y : Place} (h : rt 1 x = rt 1 y) : x = y := by
  rw [rt_one, rt_one] at h
  injection h with h1 h2
  exact place_ext h2 (by omega)
theorem turned_nodup {r : List Place} (h : RoseV r) : (r.map (rt 1)).Nodup := (rose_nodup h).map (rt 1) fun x y hne e => hne (rt1_inj e)
theorem turned_rose {r : List Place} (h : RoseV r) : RoseV (ordL (r.map (rt 1))) := by
  have hp := ordL_perm (r.map (rt 1))
  have hl : (ordL (r.map (rt 1))).length = r.length := by rw [hp.length_eq]; simp
  have hd : ∀ p ∈ ordL (r.map (rt 1)), isDr p = true := fun p hp' => by
    have := hp.mem_iff.mp hp'
    obtain ⟨a, ha, rfl⟩ := List.mem_map.mp this
    have hs := rt_sm (dr_sm (h.sm a ha)) 1
    unfold isDr
    rw [wi_of hs.1.1 hs.1.2, wi_of hs.2.1 hs.2.2]; rfl
  have hs : SortedP (ordL (r.map (rt 1))) := by
    refine ⟨fun i a b ha hb => (cmpPZ_lt a b).2 ?_⟩
    obtain ⟨h1, rfl⟩ := List.getElem?_eq_some_iff.mp ha
    obtain ⟨h2, rfl⟩ := List.getElem?_eq_some_iff.mp hb
    exact (List.pairwise_iff_getElem.mp (ordL_pair (turned_nodup h))) i (i + 1) h1 h2 (by omega)
  exact ⟨by rw [hl]; exact h.len, hd, roseI_sorted hs hd (by rw [hl]; exact h.len.1) (by rw [hl]; exact h.len.2)⟩
theorem turned_box {r : List Place} {C : Box} (hC : BoxP r C) : BoxP (ordL (r.map (rt 1))) (tb C) := by
  have hp := ordL_perm (r.map (rt 1))
  have mem : ∀ a ∈ r, rt 1 a ∈ ordL (r.map (rt 1)) := fun a ha => hp.mem_iff.mpr (List.mem_map.mpr ⟨a, ha, rfl⟩)
  refine ⟨fun p hp' => ?_, ?_, ?_, ?_, ?_⟩
  · obtain ⟨a, ha, rfl⟩ := List.mem_map.mp (hp.mem_iff.mp hp')
    have := hC.inn a ha
    rw [rt_one]; unfold tb
    simp only
    omega
  · obtain ⟨a, ha, e⟩ := hC.hy
    exact ⟨_, mem a ha, by rw [rt_one]; unfold tb; simp only; omega⟩
  · obtain ⟨a, ha, e⟩ := hC.ly
    exact ⟨_, mem a ha, by rw [rt_one]; unfold tb; simp only; omega⟩
  · obtain ⟨a, ha, e⟩ := hC.lx
    exact ⟨_, mem a ha, by rw [rt_one]; unfold tb; simp only; omega⟩
  · obtain ⟨a, ha, e⟩ := hC.hx
    exact ⟨_, mem a ha, by rw [rt_one]; unfold tb; simp only; omega⟩
/-! The turned hull. -/
theorem corns_mem {C : Box} {l : List Throw} {p : Place} : p ∈ corns C l ↔ ∃ x ∈ l, p = (lbE x.jet C).Low ∨ p = (lbE x.jet C).High := by
  unfold corns
  rw [List.mem_flatMap]
  constructor
  · rintro ⟨x, hx, hp⟩
    exact ⟨x, hx, by simpa using hp⟩
  · rintro ⟨x, hx, hp⟩
    exact ⟨x, hx, by simpa using hp⟩
theorem turned_hull {r : List Place} {C : Box} (hC : BoxP r C) {l : List Throw} (hj : ∀ x ∈ l, isJet x.jet = true) {B : Box} (h : BoxP (corns C l) B) : BoxP (corns (tb C) (l.map (mvT (tnJ 1)))) (tb B) := by
  have two : ∀ x ∈ l, ((B.Low.X ≤ (lbE x.jet C).Low.X ∧ (lbE x.jet C).Low.X ≤ (lbE x.jet C).High.X ∧ (lbE x.jet C).High.X ≤ B.High.X) ∧ B.Low.Y ≤ (lbE x.jet C).Low.Y ∧ (lbE x.jet C).Low.Y ≤ (lbE x.jet C).High.Y ∧ (lbE x.jet C).High.Y ≤ B.High.Y) := fun x hx => by
    have a := h.inn _ (corns_mem.2 ⟨x, hx, .inl rfl⟩)
    have b := h.inn _ (corns_mem.2 ⟨x, hx, .inr rfl⟩)
    have c := lbE_le' hC x.jet
    omega
  have lo : ∀ x ∈ l, (tb (lbE x.jet C)).Low ∈ corns (tb C) (l.map (mvT (tnJ 1))) ∧ (tb (lbE x.jet C)).High ∈ corns (tb C) (l.map (mvT (tnJ 1))) := fun x hx => by
    have e : lbE (mvT (tnJ 1) x).jet (tb C) = tb (lbE x.jet C) := lbE_tb (hj x hx) C
    exact ⟨corns_mem.2 ⟨_, List.mem_map.mpr ⟨x, hx, rfl⟩, .inl (by rw [e])⟩, corns_mem.2 ⟨_, List.mem_map.mpr ⟨x, hx, rfl⟩, .inr (by rw [e])⟩⟩
  refine ⟨fun p hp => ?_, ?_, ?_, ?_, ?_⟩
  · obtain ⟨y, hy, hp⟩ := corns_mem.1 hp
    obtain ⟨x, hx, rfl⟩ := List.mem_map.mp hy
    have e : lbE (mvT (tnJ 1) x).jet (tb C) = tb (lbE x.jet C) := lbE_tb (hj x hx) C
    have := two x hx
    rcases hp with rfl | rfl <;> rw [e] <;> unfold tb <;> simp only <;> omega
  · obtain ⟨p, hp, e⟩ := h.hy
    obtain ⟨x, hx, hp⟩ := corns_mem.1 hp
    have := two x hx
    refine ⟨_, (lo x hx).1, ?_⟩
    unfold tb
    simp only
    rcases hp with rfl | rfl <;> omega
  · obtain ⟨p, hp, e⟩ := h.ly
    obtain ⟨x, hx, hp⟩ := corns_mem.1 hp
    have := two x hx
    refine ⟨_, (lo x hx).2, ?_⟩
    unfold tb
    simp only
    rcases hp with rfl | rfl <;> omega
  · obtain ⟨p, hp, e⟩ := h.lx
    obtain ⟨x, hx, hp⟩ := corns_mem.1 hp
    have := two x hx
    refine ⟨_, (lo x hx).1, ?_⟩
    unfold tb
    simp only
    rcases hp with rfl | rfl <;> omega
  · obtain ⟨p, hp, e⟩ := h.hx
    obtain ⟨x, hx, hp⟩ := corns_mem.1 hp
    have := two x hx
    refine ⟨_, (lo x hx).2, ?_⟩
    unfold tb
    simp only
    rcases hp with rfl | rfl <;> omega
theorem isBx_of {B : Box} {m : Int} (hm : m ≤ 4096) (h1 : Sm m B.Low) (h2 : Sm m B.High) (h3 : B.Low.X ≤ B.High.X) (h4 : B.Low.Y ≤ B.High.Y) : isBx B = true := by
  unfold isBx isPl
  have a := h1.1; have b := h1.2; have c := h2.1; have d := h2.2
  rw [wi_of (by omega) (by omega), wi_of (by omega) (by omega), wi_of (by omega) (by omega), wi_of (by omega) (by omega), decide_eq_true h3, decide_eq_true h4]; rfl
theorem bx_of {B : Box} (h : isBx B = true) : Sm 4096 B.Low ∧ Sm 4096 B.High ∧ B.Low.X ≤ B.High.X ∧ B.Low.Y ≤ B.High.Y := by
  unfold isBx isPl at h
  simp only [Bool.and_eq_true, wi_true, decide_eq_true_eq] at h
  unfold Sm
  omega
theorem tb_bx {B : Box} (h : isBx B = true) : isBx (tb B) = true := by
  obtain ⟨h1, h2, h3, h4⟩ := bx_of h
  unfold Sm at h1 h2
  exact isBx_of (m := 4096) (by omega) ⟨⟨by unfold tb; simp only; omega, by unfold tb; simp only; omega⟩, by unfold tb; simp only; omega, by unfold tb; simp only; omega⟩ ⟨⟨by unfold tb; simp only; omega, by unfold tb; simp only; omega⟩, by unfold tb; simp only; omega, by unfold tb; simp only; omega⟩ (by unfold tb; simp only; omega) (by unfold tb; simp only; omega)
theorem turnBox_is {B : Box} (h : isBx B = true) : G27 (B, 1, ()) = some (tb B, ()) := by
  obtain ⟨h1, h2, h3, h4⟩ := bx_of h
  have t : ∀ p : Place, Sm 4096 p → G44 (p, 1, ()) = some (⟨-p.Y, p.X⟩, ()) := fun p hp => by
    have e : G44 (p, 1, ()) = some (rotN (q4 1) p, ()) := turnI' p 1
    rw [e, q4_one, rot_rt (m := 4096) (by omega) hp (by omega), rt_one]
  unfold Sm at h1 h2
  obtain ⟨D, d1, d2⟩ := boxI_P (r := [⟨-B.Low.Y, B.Low.X⟩, ⟨-B.High.Y, B.High.X⟩]) (by simp) (by simp) (fun p hp => by
    simp only [List.mem_cons, List.not_mem_nil, or_false] at hp
    unfold isPl
    rcases hp with rfl | rfl
    · rw [wi_of (by simp only; omega) (by simp only; omega), wi_of (by simp only; omega) (by simp only; omega)]; rfl
    · rw [wi_of (by simp only; omega) (by simp only; omega), wi_of (by simp only; omega) (by simp only; omega)]; rfl)
  have hD : D = tb B := by
    refine boxP_uniq d2 ⟨fun p hp => ?_, ?_, ?_, ?_, ?_⟩ (fun p => Iff.rfl)
    · simp only [List.mem_cons, List.not_mem_nil, or_false] at hp
      unfold tb
      rcases hp with rfl | rfl <;> simp only <;> omega
    · exact ⟨⟨-B.High.Y, B.High.X⟩, by simp, rfl⟩
    · exact ⟨⟨-B.Low.Y, B.Low.X⟩, by simp, rfl⟩
    · exact ⟨⟨-B.Low.Y, B.Low.X⟩, by simp, rfl⟩
    · exact ⟨⟨-B.High.Y, B.High.X⟩, by simp, rfl⟩
  unfold G27 F27
  simp only [boxI_is, h, Option.bind_some, Bool.not_true, cond_false, t B.Low ⟨h1.1, h1.2⟩, t B.High ⟨h2.1, h2.2⟩, d1, hD]
theorem safe_tb {C : Box} {s : ShowT} (hv : ShowV s) {c : Box} : SafeP (tb C) (mvS 1 s) (tb c) ↔ SafeP C s c := by
  unfold SafeP
  rw [turned_throws hv 1]
  have key : ∀ x ∈ throwsL s, (InP (tb c) (lbE (mvT (tnJ 1) x).jet (tb C)).Low ∧ InP (tb c) (lbE (mvT (tnJ 1) x).jet (tb C)).High) ↔ (InP c (lbE x.jet C).Low ∧ InP c (lbE x.jet C).High) := fun x hx => by
    have e : lbE (mvT (tnJ 1) x).jet (tb C) = tb (lbE x.jet C) := lbE_tb (throws_fly hv hx).jet C
    rw [e]
    unfold InP tb
    simp only
    constructor
    · intro h; omega
    · intro h; omega
  constructor
  · intro h x hx
    exact (key x hx).1 (h _ (List.mem_map.mpr ⟨x, hx, rfl⟩))
  · intro h y hy
    obtain ⟨x, hx, rfl⟩ := List.mem_map.mp hy
    exact (key x hx).2 (h x hx)
theorem turnP {p : Place} (hp : Sm 8 p) : G14 (p, 1, ()) = some (rt 1 p, ()) := by
  have q1 : G43 (p, ()) = some (isPl p, ()) := placeI p
  have p1 : isPl p = true := by
    unfold isPl
    rw [wi_of (by have := hp.1; omega) (by have := hp.1; omega), wi_of (by have := hp.2; omega) (by have := hp.2; omega)]; rfl
  have q2 : G44 (p, 1, ()) = some (rotN (q4 1) p, ()) := turnI' p 1
  unfold G14 F14
  simp only [q1, p1, q2, Option.bind_some, Bool.not_true, cond_false]
  rw [rot_rt (m := 8) (by omega) hp (q4_lt 1), q4_one]
theorem G5_eq (b : List Int) (hw : (∀ d ∈ b, Wf .u8 d) ∧ b.length ≤ maxLen) : G5 (b, ()) = some (true, ()) := by
  unfold G5 F5 G6 F6
  simp only [Option.bind_some]
  by_cases hb : b.length ≤ 4096
  · rw [cond_false_dec (by simp; omega)]
    obtain ⟨⟨s, r, c, w, u⟩, e, hD⟩ := drawBasin_w hb
    have hD : DrawB s r c w := hD
    rw [e]
    have hv := hD.show_
    have hr := hD.rose
    have hc := hD.box
    have hl4 := hr.len.2
    simp only [Option.bind_some, es_show]
    refine (iterF_for (f := s5_0 G6 G22 G14 G9 G23 G24 G25 G27 G26) (fun i => (s, r, c, (r.take i).map (rt 1), (i : Int), ())) r.length (by omega) ?_ ?_).trans ?_
    · intro i hi rec K
      have hx : r[i]? = some r[i] := by simp
      have hx' := fun (K : Place → Option (Bool × Unit)) => rdL_at (K := K) hx
      have e1 : w64 ((i : Int) + 1) = ((i + 1 : Nat) : Int) := w64_id (by omega) (by omega)
      have ht := turnP (dr_sm (hr.sm r[i] (by simp)))
      simp only [s5_0, es_show]
      rw [cond_true_dec (by simp; omega), hx', ht]
      simp only [Option.bind_some, e1]
      rw [capK_le (by simp; omega)]
      have : (r.take i).map (rt 1) ++ [rt 1 r[i]] = (r.take (i + 1)).map (rt 1) := by
        rw [List.take_add_one, hx, List.map_append]; rfl
      rw [this]
    · intro rec K
      simp only [s5_0, es_show]
      rw [cond_false_dec (by simp)]
    · simp only [es_show, List.take_length]
      have hS := turned_rose hr
      have hso := sortedI_is (q := r.map (rt 1)) (by simp; omega) (turned_nodup hr)
      obtain ⟨C, hC1, hC, hB⟩ := roseBox_is hr
      obtain ⟨C', hC1', hC', hB'⟩ := roseBox_is hS
      obtain rfl : C' = tb C := boxP_uniq hC1' (turned_box hC1) (fun p => Iff.rfl)
      have hv' := turned_valid hv 1
      have hts := turned_throws hv 1
      obtain ⟨v, ev, hiff⟩ := safeI_is hv hr hC hB c
      obtain ⟨v', ev', hiff'⟩ := safeI_is hv' hS hC' hB' (tb c)
      have hvv : v' = v := by
        rw [Bool.eq_iff_iff, hiff, hiff', safe_tb hv]
        simp only [hc, tb_bx hc]
      obtain ⟨B0, v0, l1, l2⟩ := least_ok s hv.ok r (by omega)
      have l2 : G23 (s, r, ()) = some (B0, v0, ()) := by first | exact l2 | exact l2.1
      have l1 : G24 (s, r, ()) = some (B0, v0, ()) := by first | exact l1 | exact l1.1
      simp only [turnShowT hv 1, l1, l2, hso, Option.bind_some, turnBox_is hc, ev, decide_true, Bool.not_true, cond_false]
      have es2 : ((mvS 1 s).1, (mvS 1 s).2.1, (mvS 1 s).2.2.1, (mvS 1 s).2.2.2.1, ()) = mvS 1 s := rfl
      simp only [es2, ev', Option.bind_some, hvv, decide_true, cond_true]
      rcases leastI_is hv hr hC hB with ⟨h0, eq⟩ | ⟨h0, B, eq, hP, hsm1, hsm2⟩
      · rw [l2] at eq
        cases eq
        rcases leastI_is hv' hS hC' hB' with ⟨h0', eq'⟩ | ⟨h0', B', eq', _⟩
        · simp only [eq', Option.bind_some, decide_true, cond_true]
          rfl
        · exact absurd (by rw [hts, h0]; rfl) h0'
      · rw [l2] at eq
        cases eq
        rcases leastI_is hv' hS hC' hB' with ⟨h0', eq'⟩ | ⟨h0', B', eq', hP', _⟩
        · rw [hts] at h0'
          exact absurd (List.map_eq_nil_iff.mp h0') h0
        · rw [hts] at hP'
          obtain rfl : B' = tb B0 := boxP_uniq hP' (turned_hull hC1 (fun x hx => (throws_fly hv hx).jet) hP) (fun p => Iff.rfl)
          obtain ⟨a, ha, _⟩ := hP.lx
          have hin := hP.inn a ha
          have hBx : isBx B0 = true := isBx_of (m := 1816) (by omega) hsm1 hsm2 (by omega) (by omega)
          simp only [eq', Option.bind_some, decide_true, cond_true, Bool.not_true, Bool.not_false, turnBox_is hBx, Bool.and_self]
  · rw [cond_true_dec (by simp; omega)]
end Ev
namespace Go.Proofs.YtpnlcamcnhpbhaaGreat.fnSafeTurned
open Go.ChangeShapes Go.WideShapes Go.ChangeAt Go.RowKit
open Go.ChangeMaps (open_string shut_string)
theorem own : ownKnob Tryz.prog.godebug = none := by kernel_rfl
theorem laidOut : laidOutB Tryz.prog = true := by kernel_rfl
theorem lifted (os : Os) (started : os.Started) (H : Type) (enc : TypeId × Value → H) :
    ReturnsInHanded {} Tryz.checked os 5 .any (Rows.fnSafeTurnedSpec.pre6 enc Tryz.prog Tryz.f5 Rows.fnSafeTurnedRow.domain false) (Rows.fnSafeTurnedSpec.post enc Tryz.prog Tryz.f5 false true false false) := by
  refine returnsInHanded_of_change_sized (C := Tryz.checked) own started (by kernel_rfl) Tryz.func5
    (ChangeSpec.witness6 (enc := enc) (C := Tryz.checked) false ⟨#[], #[.slice none 0 0], []⟩ 8 (by kernel_rfl) (by kernel_rfl) (by kernel_rfl) (by kernel_rfl)) ?_
  intro W base args ds gs before hval0 hW hcnd hsz0 _
  have hval : ∀ (j : Nat) t v, Tryz.f5.params[j]? = some t → args[j]? = some v → Value.okWide Tryz.prog W .any base t v := hval0
  have hW' := hW
  obtain ⟨p, q, hA0, hV, rfl, hfz, hnd⟩ := hW
  have hA : DataW.TrodAll enc Tryz.prog W 0 (fun _ => true) true Tryz.f5.params.toList args.toList ds p := hA0
  rw [Tryz.params5] at hA hval
  obtain ⟨v0, vs0, d0, ds0, p0, q0, hargs, rfl, rfl, h0, r0⟩ := trodAll_cons hA
  obtain ⟨rfl, rfl, rfl⟩ := trodAll_nil r0
  obtain rfl : args = #[v0] := by cases args; simp_all
  obtain ⟨rfl, rfl⟩ := trodVars_none hV
  obtain ⟨a0, len0, cap0, rfl⟩ := okWide_slice Tryz.underlying22 (hval 0 22 v0 rfl rfl)
  have k0 := h0
  have lt0 : ∀ x ∈ p0, x.block < W.heap.size := by obtain ⟨m, hm⟩ := k0; exact DataW.trod_lt m _ _ _ hm
  obtain ⟨zs0, hrel0, wf0, ml0⟩ : ∃ l : List (Ev.Ty.den .u8), Ev.RelA (fun _ => none) (fun b => b < W.heap.size) W (.lst .u8 l) (.slice a0 len0 cap0) ∧ (∀ d ∈ l, Ev.Wf .u8 d) ∧ l.length ≤ maxLen := by
    obtain ⟨fuel, hf⟩ := h0
    exact Ev.open_rows (l := [(5, .u8)]) (by kernel_rfl) (by kernel_rfl) hf
  clear hA0 hval0 hsz0
  refine (Ev.calls_true (av := [.lst .u8 zs0]) (out := []) Ev.okG5 (by
    exact Ev.sem_of (ps := Ev.p5) (rs := Ev.r5) (a := (zs0, ())) rfl (Ev.G5_eq zs0 (And.intro wf0 ml0))) (w := W) (ca := #[.slice a0 len0 cap0]) (fun x hx => absurd (show x ∈ ([] : List (Nat × (Array Value → Prop))) from hx) (by simp)) rfl (Ev.args_arr (Ev.argsS (hrel0) Ev.args0))).mono fun e W' ⟨he, bel⟩ => ?_
  subst he
  exact ⟨_, rfl, _, _, _, [], _, [], hW', trodAll_mk1 (shut_bool Tryz.underlying4 _), (trodAll_cons_mk (Below.trod laidOut (by kernel_rfl) (of_decide_eq_true (by kernel_rfl)) k0 bel lt0) trodAll_mk0), rfl, bel.frame _, fun h => by cases h⟩
theorem over : Rows.fnSafeTurnedRow.holds Tryz.pinned (OpenSpec.ofChange Rows.fnSafeTurnedSpec) :=
  OpenClaim.holds_of_wide 5 Tryz.f5 rfl rfl rfl rfl rfl rfl rfl ⟨rfl, rfl, rfl, rfl, rfl⟩ rfl rfl rfl rfl rfl (by kernel_rfl) Tryz.func5 (by kernel_rfl)
    (of_decide_eq_true (by kernel_rfl)) (by unfold Func.isWrapper; first | (rw [if_pos (by decide +kernel)]; kernel_rfl) | (rw [if_neg (by decide +kernel)]; exact ⟨rfl, rfl⟩))
    (fun os started H enc _ => lifted os started H enc)
theorem proved : Rows.FnSafeTurnedSaid := over
#print axioms proved
end Go.Proofs.YtpnlcamcnhpbhaaGreat.fnSafeTurned
