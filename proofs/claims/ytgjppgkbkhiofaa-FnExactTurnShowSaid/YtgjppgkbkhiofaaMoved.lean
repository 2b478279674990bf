/- Rigs and winds that are turned. -/
import Derived.Test.YtgjppgkbkhiofaaShow
set_option linter.unusedVariables false
set_option linter.unusedSimpArgs false
set_option maxRecDepth 100000
namespace Ev
open Go
/-! ### Devices, to the letter -/
def devB (d : Device) : Bool := isNm d.Name && (if d.Kind = 1 then decide (d.Line = []) && (decide (d.At.X = 0) && (decide (d.At.Y = 0) && (decide (d.Heading = 0) && (decide (d.Tilt = 0) && wi d.Most 0 512))))
  else if d.Kind = 2 then isNm d.Line && (!decide (d.Line = d.Name) && (isJet (devJ d) && wi d.Most 0 32))
  else if d.Kind = 3 then decide (d.Heading = 0) && (decide (d.Tilt = 0) && (decide (d.Most = 0) && (isNm d.Line && (!decide (d.Line = d.Name) && isPl d.At)))) else false)
theorem devB_mk (nm : Str) (k : Int) (ln : Str) (p : Place) (h t m : Int) : devB ⟨nm, k, ln, p, h, t, m⟩ = (isNm nm && (if k = 1 then decide (ln = []) && (decide (p.X = 0) && (decide (p.Y = 0) && (decide (h = 0) && (decide (t = 0) && wi m 0 512))))
  else if k = 2 then isNm ln && (!decide (ln = nm) && (isJet (devJ ⟨nm, k, ln, p, h, t, m⟩) && wi m 0 32))
  else if k = 3 then decide (h = 0) && (decide (t = 0) && (decide (m = 0) && (isNm ln && (!decide (ln = nm) && isPl p)))) else false)) := rfl
theorem devB_is (d : Device) (h1 : d.Name.length ≤ 1048576) (h2 : d.Line.length ≤ 1048576) : gDevS (d, ()) = some (devB d, ()) ∧ gDev (d, ()) = some (devB d, ()) := by
  have jI : gJet ((⟨⟨d.At.X, d.At.Y⟩, d.Heading, d.Tilt, 1⟩ : Jet), ()) = some (isJet (devJ d), ()) := jetI (devJ d)
  unfold gDevS F90 gDev F81 devB
  simp only [nameS d.Name h1, nameS d.Line h2, nameI d.Name h1, nameI d.Line h2, supS, supI, djS, jI, in_is, within_is, placeS, placeI, Option.bind_some, decide_true, Bool.true_and, Bool.and_true]
  by_cases k1 : d.Kind = 1
  · simp only [k1, decide_true, cond_true, if_true]
    cases isNm d.Name <;> cases isNm d.Line <;> cases decide (d.Line = []) <;> cases decide (d.At.X = 0) <;> cases decide (d.At.Y = 0) <;> cases decide (d.Heading = 0) <;> cases decide (d.Tilt = 0) <;> cases wi d.Most 0 512 <;> exact ⟨rfl, rfl⟩
  · by_cases k2 : d.Kind = 2
    · simp only [k2, decide_true, cond_true, show ¬ (2 : Int) = 1 by decide, decide_false, cond_false, if_true, if_false]
      cases isNm d.Name <;> cases isNm d.Line <;> cases decide (d.Line = d.Name) <;> cases isJet (devJ d) <;> cases wi d.Most 0 32 <;> exact ⟨rfl, rfl⟩
    · by_cases k3 : d.Kind = 3
      · simp only [k3, decide_true, cond_true, show ¬ (3 : Int) = 1 by decide, show ¬ (3 : Int) = 2 by decide, decide_false, cond_false, if_true, if_false]
        cases isNm d.Name <;> cases isNm d.Line <;> cases decide (d.Line = d.Name) <;> cases isPl d.At <;> cases decide (d.Heading = 0) <;> cases decide (d.Tilt = 0) <;> cases decide (d.Most = 0) <;> exact ⟨rfl, rfl⟩
      · simp only [k1, k2, k3, decide_false, cond_false, if_false]
        cases isNm d.Name <;> cases isNm d.Line <;> exact ⟨rfl, rfl⟩
/-! ### Turns by any number -/
theorem mod4 (n : Int) : Int.tmod n 4 = n % 4 - (if 0 ≤ n ∨ (4 : Int) ∣ n then 0 else 4) := by
  rw [Int.tmod_eq_emod]; by_cases h : 0 ≤ n ∨ (4 : Int) ∣ n
  · rw [if_pos h, if_pos h]; rfl
  · rw [if_neg h, if_neg h]; rfl
theorem l2Mod_is (n : Int) : F107 (n, ()) = some (n % 4, ()) := by
  unfold F107
  simp only
  have h := mod4 n
  by_cases hc : 0 ≤ n ∨ (4 : Int) ∣ n
  · rw [if_pos hc] at h
    rw [cond_false_dec (by omega), h]; simp
  · rw [if_neg hc] at h
    have : Int.tmod n 4 < 0 := by omega
    rw [cond_true_dec this, w64_id (by omega) (by omega), h]
    congr 2; omega
theorem tmod_small (a : Int) (h0 : 0 ≤ a) : Int.tmod a 4 = a % 4 := by
  rw [mod4, if_pos (.inl h0)]; omega
theorem turns_is (n : Int) : F108 (n, ()) = some (n % 4, ()) := by
  unfold F108
  simp only
  have h := mod4 n
  have hb : 0 ≤ Int.tmod n 4 + 4 ∧ Int.tmod n 4 + 4 ≤ 8 := by split at h <;> omega
  rw [w64_id (by omega) (by omega), tmod_small _ hb.1]
  congr 2
  split at h <;> omega
def q4 (n : Int) : Nat := (n % 4).toNat
theorem q4_lt (n : Int) : q4 n < 4 := by unfold q4; omega
theorem q4_is (n : Int) : ((q4 n : Nat) : Int) = n % 4 := by unfold q4; omega
theorem turnS' (p : Place) (n : Int) : gTurnS (p, n, ()) = some (rotN (q4 n) p, ()) := by
  unfold gTurnS F87
  simp only [l2Mod_is, Option.bind_some]
  obtain ⟨m, hm⟩ := fuel_ge 9 (by omega)
  obtain ⟨c, hc⟩ := turn_loopS F107 p ⟨0, 0⟩ m (q4 n) (q4_lt n) (fun t3 => some (t3.1, ()))
  rw [q4_is] at hc
  rw [hm, hc]
theorem turnI' (p : Place) (n : Int) : gTurn (p, n, ()) = some (rotN (q4 n) p, ()) := by
  unfold gTurn F88
  simp only [turns_is, Option.bind_some]
  obtain ⟨m, hm⟩ := fuel_ge 9 (by omega)
  obtain ⟨c, hc⟩ := turn_loopI F108 p ⟨0, 0⟩ m (q4 n) (q4_lt n) (fun t3 => some (t3.1, ()))
  rw [q4_is] at hc
  rw [hm, hc]
def hd4 (h n : Int) : Int := if wi h 0 3 = true then (h + n % 4) % 4 else 0
noncomputable abbrev gThS := F102 F117 F107
noncomputable abbrev gTh := F89 gHead F108
theorem thS (h n : Int) : gThS (h, n, ()) = some (hd4 h n, ()) := by
  unfold gThS F102 hd4
  simp only [headS, Option.bind_some]
  cases hw : wi h 0 3
  · rfl
  · have := wi_true.1 hw
    simp only [Bool.not_true, cond_false, l2Mod_is, Option.bind_some, if_true]
    rw [w64_id (by omega) (by omega)]
theorem thI (h n : Int) : gTh (h, n, ()) = some (hd4 h n, ()) := by
  unfold gTh F89 hd4
  simp only [headI, Option.bind_some]
  cases hw : wi h 0 3
  · rfl
  · have := wi_true.1 hw
    simp only [Bool.not_true, cond_false, turns_is, Option.bind_some, if_true]
    rw [w64_id (by omega) (by omega), tmod_small _ (by omega)]
theorem rot_small (m : Int) (hb : m ≤ 1099511627776) (p : Place) (hx : -m ≤ p.X ∧ p.X ≤ m) (hy : -m ≤ p.Y ∧ p.Y ≤ m) (k : Nat) (hk : k < 4) : (-m ≤ (rotN k p).X ∧ (rotN k p).X ≤ m) ∧ (-m ≤ (rotN k p).Y ∧ (rotN k p).Y ≤ m) := by
  obtain ⟨x, y⟩ := p
  simp only at hx hy
  have e1 : w64 (0 - x) = -x := by rw [w64_id (by omega) (by omega)]; omega
  have e2 : w64 (0 - y) = -y := by rw [w64_id (by omega) (by omega)]; omega
  have e3 : w64 (0 - -x) = x := by rw [w64_id (by omega) (by omega)]; omega
  have e4 : w64 (0 - -y) = y := by rw [w64_id (by omega) (by omega)]; omega
  rcases k4 hk with rfl | rfl | rfl | rfl <;> simp only [rotN, e1, e2, e3, e4] <;> omega
theorem rot_zero (k : Nat) (hk : k < 4) : rotN k ⟨0, 0⟩ = ⟨0, 0⟩ := by
  rcases k4 hk with rfl | rfl | rfl | rfl <;> kernel_rfl
/-! ### Rigs -/
def mvD (n : Int) (d : Device) : Device := ⟨d.Name, d.Kind, d.Line, ⟨(rotN (q4 n) d.At).X, (rotN (q4 n) d.At).Y⟩, if d.Kind = 2 then hd4 d.Heading n else d.Heading, d.Tilt, d.Most⟩
theorem dev_bound {d : Device} (h : devB d = true) : (-4096 ≤ d.At.X ∧ d.At.X ≤ 4096) ∧ (-4096 ≤ d.At.Y ∧ d.At.Y ≤ 4096) ∧ (d.Kind = 1 → d.At.X = 0 ∧ d.At.Y = 0) := by
  unfold devB at h
  rw [Bool.and_eq_true] at h
  have h := h.2
  by_cases k1 : d.Kind = 1
  · rw [if_pos k1] at h
    simp only [Bool.and_eq_true, decide_eq_true_eq] at h
    omega
  · rw [if_neg k1] at h
    by_cases k2 : d.Kind = 2
    · rw [if_pos k2] at h
      simp only [Bool.and_eq_true] at h
      have J := jet_ok h.2.2.1
      have jx := J.x; have jy := J.y
      simp only [devJ] at jx jy
      omega
    · rw [if_neg k2] at h
      by_cases k3 : d.Kind = 3
      · rw [if_pos k3] at h
        simp only [Bool.and_eq_true, isPl, wi_true] at h
        omega
      · rw [if_neg k3] at h; cases h
theorem mv_ok (n : Int) {d : Device} (h : devB d = true) : devB (mvD n d) = true := by
  have hb := dev_bound h
  unfold devB at h
  unfold mvD
  rw [devB_mk]
  rw [Bool.and_eq_true] at h ⊢
  refine ⟨h.1, ?_⟩
  have h := h.2
  by_cases k1 : d.Kind = 1
  · rw [if_pos k1] at h ⊢
    have hz : d.At = ⟨0, 0⟩ := by
      have := hb.2.2 k1
      cases hA : d.At
      rw [hA] at this
      simp only at this
      rw [this.1, this.2]
    rw [hz, rot_zero _ (q4_lt n)]
    rw [if_neg (by omega)]
    rw [hz] at h
    exact h
  · rw [if_neg k1] at h ⊢
    by_cases k2 : d.Kind = 2
    · rw [if_pos k2] at h ⊢
      rw [if_pos k2]
      simp only [Bool.and_eq_true] at h ⊢
      refine ⟨h.1, h.2.1, ?_, h.2.2.2⟩
      have J := jet_ok h.2.2.1
      have jx := J.x; have jy := J.y; have jh := J.h; have jt := J.t
      simp only [devJ] at jx jy jh jt
      have hr := rot_small 1024 (by omega) d.At jx jy (q4 n) (q4_lt n)
      have hh : hd4 d.Heading n = (d.Heading + n % 4) % 4 := by unfold hd4; rw [if_pos (wi_of jh.1 jh.2)]
      unfold isJet devJ
      simp only
      rw [wi_of hr.1.1 hr.1.2, wi_of hr.2.1 hr.2.2, hh, wi_of (by omega) (by omega), wi_of jt.1 jt.2, wi_of (by omega) (by omega)]
      rfl
    · rw [if_neg k2] at h ⊢
      rw [if_neg k2]
      by_cases k3 : d.Kind = 3
      · rw [if_pos k3] at h ⊢
        simp only [Bool.and_eq_true] at h ⊢
        refine ⟨h.1, h.2.1, h.2.2.1, h.2.2.2.1, h.2.2.2.2.1, ?_⟩
        have hr := rot_small 4096 (by omega) d.At hb.1 hb.2.1 (q4 n) (q4_lt n)
        unfold isPl
        rw [wi_of hr.1.1 hr.1.2, wi_of hr.2.1 hr.2.2]; rfl
      · rw [if_neg k3] at h; cases h
theorem take_snoc' {α : Type} (r : List α) (i : Nat) (h : i < r.length) : r.take (i + 1) = r.take i ++ [r[i]] := by
  rw [List.take_add_one]; simp [h]
theorem map_take_snoc {α β : Type} (f : α → β) (r : List α) (i : Nat) (h : i < r.length) : (r.take i).map f ++ [f r[i]] = (r.take (i + 1)).map f := by
  rw [take_snoc' r i h, List.map_append]; rfl
noncomputable abbrev gMvS := F74 gTurnS F101 gThS gDevS
theorem moved_is (l : List Device) (hl : l.length ≤ 1048576) (hn : DevsOK l) (hd : ∀ d ∈ l, devB d = true) (n : Int) : gMvS (l, n, (⟨0, 0⟩ : Place), ()) = some (l.map (mvD n), true, ()) := by
  unfold gMvS F74
  obtain ⟨t, ⟨_, rfl⟩, e⟩ := iterF_all (f := s74_0 gTurnS F101 gThS gDevS) (K := fun t11 => some (t11.2.2.1, true, ())) (t := (n, (⟨0, 0⟩ : Place), ([] : List Device), l, Int.ofNat l.length, 0, ())) l.length
    (fun i t => True ∧ t = (n, (⟨0, 0⟩ : Place), (l.take i).map (mvD n), l, Int.ofNat l.length, (i : Int), ())) (by omega) ⟨trivial, rfl⟩
    (by
      rintro i _ hi ⟨_, rfl⟩
      have hx : l[i]? = some l[i] := by simp
      have e1 : w64 ((i : Int) + 1) = ((i + 1 : Nat) : Int) := w64_id (by omega) (by omega)
      have hmem : l[i] ∈ l := by simp
      obtain ⟨q1, q2⟩ := hn l[i] hmem
      have hv := hd l[i] hmem
      have hb := dev_bound hv
      have hr := rot_small 4096 (by omega) l[i].At hb.1 hb.2.1 (q4 n) (q4_lt n)
      have ex : w64 ((rotN (q4 n) l[i].At).X + 0) = (rotN (q4 n) l[i].At).X := by rw [w64_id (by omega) (by omega)]; omega
      have ey : w64 ((rotN (q4 n) l[i].At).Y + 0) = (rotN (q4 n) l[i].At).Y := by rw [w64_id (by omega) (by omega)]; omega
      have hm := (devB_is (mvD n l[i]) q1 q2).1
      rw [mv_ok n hv] at hm
      have hcap : ((l.take i).map (mvD n)).length + 1 ≤ 1099511627776 := by simp; omega
      refine ⟨_, ⟨trivial, rfl⟩, fun rec K => ?_⟩
      rw [← map_take_snoc (mvD n) l i hi]
      simp only [s74_0]
      rw [cond_true_dec (by simp; omega), rdL_at hx]
      by_cases k1 : l[i].Kind = 1
      · have hz : l[i].At = ⟨0, 0⟩ := by
          have := hb.2.2 k1
          cases hA : l[i].At
          rw [hA] at this
          simp only at this
          rw [this.1, this.2]
        have hmv : mvD n l[i] = ⟨l[i].Name, l[i].Kind, l[i].Line, ⟨l[i].At.X, l[i].At.Y⟩, l[i].Heading, l[i].Tilt, l[i].Most⟩ := by
          unfold mvD
          rw [hz, rot_zero _ (q4_lt n), if_neg (by omega)]
        rw [hmv] at hm ⊢
        rw [decide_eq_true k1]
        simp only [Bool.not_true, cond_false]
        rw [cond_false_dec (by omega), hm]
        simp only [Option.bind_some, Bool.not_true, cond_false]
        rw [capK_le (by simpa using hcap), e1]
      · rw [decide_eq_false k1]
        simp only [Bool.not_false, cond_true, turnS', F101, Option.bind_some, ex, ey]
        by_cases k2 : l[i].Kind = 2
        · have hmv : mvD n l[i] = ⟨l[i].Name, l[i].Kind, l[i].Line, ⟨(rotN (q4 n) l[i].At).X, (rotN (q4 n) l[i].At).Y⟩, hd4 l[i].Heading n, l[i].Tilt, l[i].Most⟩ := by
            unfold mvD; rw [if_pos k2]
          rw [hmv] at hm ⊢
          rw [cond_true_dec k2]
          simp only [thS, Option.bind_some, hm, Bool.not_true, cond_false]
          rw [capK_le (by simpa using hcap), e1]
        · have hmv : mvD n l[i] = ⟨l[i].Name, l[i].Kind, l[i].Line, ⟨(rotN (q4 n) l[i].At).X, (rotN (q4 n) l[i].At).Y⟩, l[i].Heading, l[i].Tilt, l[i].Most⟩ := by
            unfold mvD; rw [if_neg k2]
          rw [hmv] at hm ⊢
          rw [cond_false_dec k2]
          simp only [Option.bind_some, hm, Bool.not_true, cond_false]
          rw [capK_le (by simpa using hcap), e1])
    (by
      rintro _ ⟨_, rfl⟩ rec K
      simp only [s74_0]
      rw [cond_false_dec (by simp)])
  rw [List.take_length] at e
  exact e
noncomputable abbrev gTRS := F51 gRigS gMvS
noncomputable abbrev gTR := F54 gRig gTurn gTh
theorem turnRig_ok (l : List Device) (hl : l.length ≤ 1048576) (hn : DevsOK l) (hr1 : gRigS (l, ()) = some (true, ())) (hr2 : gRig (l, ()) = some (true, ())) (hd : ∀ d ∈ l, devB d = true) (n : Int) :
    gTRS (l, n, ()) = some (l.map (mvD n), ()) ∧ gTR (l, n, ()) = some (l.map (mvD n), ()) := by
  refine ⟨?_, ?_⟩
  · unfold gTRS F51
    simp only [hr1, Option.bind_some, Bool.not_true, cond_false]
    rw [moved_is l hl hn hd n]; rfl
  · unfold gTR F54
    simp only [hr2, Option.bind_some, Bool.not_true, cond_false]
    obtain ⟨t, ⟨_, rfl⟩, e⟩ := iterF_all (f := s54_0 gRig gTurn gTh) (K := fun t6 => some (t6.2.1, ())) (t := (n, ([] : List Device), l, Int.ofNat l.length, 0, ())) l.length
      (fun i t => True ∧ t = (n, (l.take i).map (mvD n), l, Int.ofNat l.length, (i : Int), ())) (by omega) ⟨trivial, rfl⟩
      (by
        rintro i _ hi ⟨_, rfl⟩
        have hx : l[i]? = some l[i] := by simp
        have e1 : w64 ((i : Int) + 1) = ((i + 1 : Nat) : Int) := w64_id (by omega) (by omega)
        have hcap : ((l.take i).map (mvD n)).length + 1 ≤ 1099511627776 := by simp; omega
        refine ⟨_, ⟨trivial, rfl⟩, fun rec K => ?_⟩
        rw [← map_take_snoc (mvD n) l i hi]
        simp only [s54_0]
        rw [cond_true_dec (by simp; omega), rdL_at hx]
        simp only [turnI', thI, Option.bind_some]
        by_cases k2 : l[i].Kind = 2
        · rw [cond_true_dec k2, capK_le (by simpa using hcap), e1]
          unfold mvD; rw [if_pos k2]
        · rw [cond_false_dec k2, capK_le (by simpa using hcap), e1]
          unfold mvD; rw [if_neg k2])
      (by
        rintro _ ⟨_, rfl⟩ rec K
        simp only [s54_0]
        rw [cond_false_dec (by simp)])
    rw [List.take_length] at e
    exact e
/-! ### Winds -/
def mvG (n : Int) (g : Gust) : Gust := ⟨g.From, ⟨(rotN (q4 n) g.Drift).X, (rotN (q4 n) g.Drift).Y⟩⟩
noncomputable abbrev gTWS := F53 gWindS gTurnS
noncomputable abbrev gTW := F56 gWind gTurn
theorem turnWind_ok (l : List Gust) (hl : l.length ≤ 1048576) (hw1 : gWindS (l, ()) = some (true, ())) (hw2 : gWind (l, ()) = some (true, ())) (n : Int) :
    gTWS (l, n, ()) = some (l.map (mvG n), ()) ∧ gTW (l, n, ()) = some (l.map (mvG n), ()) := by
  refine ⟨?_, ?_⟩
  · unfold gTWS F53
    obtain ⟨t, ⟨_, rfl⟩, e⟩ := iterF_all (f := s53_0 gWindS gTurnS) (K := fun t5 => some (t5.2.2.1, ())) (t := (l, n, ([] : List Gust), l, Int.ofNat l.length, 0, ())) l.length
      (fun i t => True ∧ t = (l, n, (l.take i).map (mvG n), l, Int.ofNat l.length, (i : Int), ())) (by omega) ⟨trivial, rfl⟩
      (by
        rintro i _ hi ⟨_, rfl⟩
        have hx : l[i]? = some l[i] := by simp
        have e1 : w64 ((i : Int) + 1) = ((i + 1 : Nat) : Int) := w64_id (by omega) (by omega)
        have hcap : ((l.take i).map (mvG n)).length + 1 ≤ 1099511627776 := by simp; omega
        refine ⟨_, ⟨trivial, rfl⟩, fun rec K => ?_⟩
        rw [← map_take_snoc (mvG n) l i hi]
        simp only [s53_0]
        rw [cond_true_dec (by simp; omega), rdL_at hx]
        simp only [hw1, turnS', Option.bind_some, cond_true]
        rw [capK_le (by simpa using hcap), e1]
        rfl)
      (by
        rintro _ ⟨_, rfl⟩ rec K
        simp only [s53_0]
        rw [cond_false_dec (by simp)])
    rw [List.take_length] at e
    exact e
  · unfold gTW F56
    simp only [hw2, Option.bind_some, Bool.not_true, cond_false]
    obtain ⟨t, ⟨_, rfl⟩, e⟩ := iterF_all (f := s56_0 gWind gTurn) (K := fun t5 => some (t5.2.1, ())) (t := (n, ([] : List Gust), l, Int.ofNat l.length, 0, ())) l.length
      (fun i t => True ∧ t = (n, (l.take i).map (mvG n), l, Int.ofNat l.length, (i : Int), ())) (by omega) ⟨trivial, rfl⟩
      (by
        rintro i _ hi ⟨_, rfl⟩
        have hx : l[i]? = some l[i] := by simp
        have e1 : w64 ((i : Int) + 1) = ((i + 1 : Nat) : Int) := w64_id (by omega) (by omega)
        have hcap : ((l.take i).map (mvG n)).length + 1 ≤ 1099511627776 := by simp; omega
        refine ⟨_, ⟨trivial, rfl⟩, fun rec K => ?_⟩
        rw [← map_take_snoc (mvG n) l i hi]
        simp only [s56_0]
        rw [cond_true_dec (by simp; omega), rdL_at hx]
        simp only [turnI', Option.bind_some]
        rw [capK_le (by simpa using hcap), e1]
        rfl)
      (by
        rintro _ ⟨_, rfl⟩ rec K
        simp only [s56_0]
        rw [cond_false_dec (by simp)])
    rw [List.take_length] at e
    exact e
theorem both_self' {R : Type} {a : Option R} : both a a = a := by unfold both; rw [if_pos rfl]
theorem cloneCue (l : List Cue) (hl : l.length ≤ 1048576) : F55 (l, ()) = some (l, ()) := by
  unfold F55 emptyK
  cases l with
  | nil => rw [capK_le (by simp)]; exact both_self'
  | cons x l => rw [capK_le (by simp at hl ⊢; omega)]; rfl
theorem copyCue (l : List Cue) (hl : l.length ≤ 1048576) : F52 (l, ()) = some (l, ()) := by
  unfold F52
  rw [capK_le (by simp; omega)]; rfl
/-! ### Shows -/
def mvS (n : Int) (s : ShowT) : ShowT := (s.1.map (mvD n), s.2.1, s.2.2.1.map (mvG n), s.2.2.2.1, ())
noncomputable abbrev gTSS := F19 gShowS gTRS F52 gTWS
noncomputable abbrev gTS := F20 gShow gTR F55 gTW
theorem turnShow_ok (s : ShowT) (h : ShowOK s) (n : Int) : ∃ r : ShowT, gTSS (s, n, ()) = some (r, ()) ∧ gTS (s, n, ()) = some (r, ()) ∧ r.1.length ≤ 1048576 ∧ r.2.1.length ≤ 1048576 ∧ r.2.2.1.length ≤ 1048576 := by
  obtain ⟨rig, score, wind, ticks, u⟩ := s
  obtain ⟨b1, r1, r2, r3⟩ := rig_ok rig h.rig h.devs
  obtain ⟨b2, c2, _⟩ := score_ok score h.names h.score
  have c1 : gScoreS (score, ()) = some (b2, ()) := by rw [score_same score h.names]; exact c2
  obtain ⟨b3, w2⟩ := wind_some wind h.wind
  have w1 : gWindS (wind, ()) = some (b3, ()) := by rw [wind_same]; exact w2
  have hs : gShowS ((rig, score, wind, ticks, ()), ()) = some (b1 && (b2 && (b3 && wi ticks 0 64)), ()) := by
    unfold gShowS F22
    simp only [r1, c1, w1, in_is, Option.bind_some]
    cases b1 <;> cases b2 <;> cases b3 <;> rfl
  have hi : gShow ((rig, score, wind, ticks, ()), ()) = some (b1 && (b2 && (b3 && wi ticks 0 64)), ()) := by
    unfold gShow F27
    simp only [r2, c2, w2, within_is, Option.bind_some]
    cases b1 <;> cases b2 <;> cases b3 <;> rfl
  unfold gTSS F19 gTS F20
  simp only [hs, hi, Option.bind_some]
  cases hb : b1 && (b2 && (b3 && wi ticks 0 64))
  · exact ⟨([], [], [], 0, ()), rfl, rfl, by simp, by simp, by simp⟩
  · simp only [Bool.and_eq_true] at hb
    obtain ⟨rfl, rfl, rfl, ht⟩ := hb
    obtain ⟨_, r4⟩ := r3 rfl
    have hd : ∀ d ∈ rig, devB d = true := fun d hd => by
      have h1 := r4 d hd
      obtain ⟨q1, q2⟩ := h.devs d hd
      rw [(devB_is d q1 q2).2] at h1
      simpa using h1
    obtain ⟨t1, t2⟩ := turnRig_ok rig h.rig h.devs r1 r2 hd n
    obtain ⟨v1, v2⟩ := turnWind_ok wind h.wind w1 w2 n
    refine ⟨mvS n (rig, score, wind, ticks, ()), ?_, ?_, by simpa [mvS] using h.rig, h.score, by simpa [mvS] using h.wind⟩
    · simp only [t1, v1, copyCue score h.score, Option.bind_some, Bool.not_true, cond_false]; rfl
    · simp only [t2, v2, cloneCue score h.score, Option.bind_some, Bool.not_true, cond_false]; rfl
/-- Equal shows, whatever they are. -/
theorem eqShow_any (s : ShowT) (h1 : s.1.length ≤ 1048576) (h2 : s.2.1.length ≤ 1048576) (h3 : s.2.2.1.length ≤ 1048576) : gEqSh (s, s, ()) = some (true, ()) := by
  obtain ⟨rig, score, wind, ticks, u⟩ := s
  unfold gEqSh F16
  simp only [eq_device rig h1, eqCues score h2, eq_gust wind h3, Option.bind_some, decide_true, Bool.not_true, cond_false]
end Ev
