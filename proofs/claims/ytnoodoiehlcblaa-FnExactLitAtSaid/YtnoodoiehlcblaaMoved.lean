/- Rigs and winds that are turned. -/
import Derived.Test.YtnoodoiehlcblaaShow
set_option linter.unusedVariables false
set_option linter.unusedSimpArgs false
set_option maxRecDepth 100000
namespace Ev
open Go
/-! ### Devices, to the letter -/
def devB (d : Device) : Bool := isNm d.Name && (if d.Kind = 1 then decide (d.Line = []) && (decide (d.At.X = 0) && (decide (d.At.Y = 0) && (decide (d.Heading = 0) && (decide (d.Tilt = 0) && wi d.Most 0 512))))
  else if d.Kind = 2 then isNm d.Line && (!decide (d.Line = d.Name) && (isJet (devJ d) && wi d.Most 0 32))
  else if d.Kind = 3 then decide (d.Heading = 0) && (decide (d.Tilt = 0) && (decide (d.Most = 0) && (isNm d.Line && (!decide (d.Line = d.Name) && isPl d.At)))) else false)
theorem devB_mk (nm : Str) (k : Int) (ln : Str) (p : Place) (h t m : Int) : devB ⟨nm, k, ln, p, h, t, m⟩ = (isNm nm && (if k = 1 then decide (ln = []) && (decide (p.X = 0) && (decide (p.Y = 0) && (decide (h = 0) && (decide (t = 0) && wi m 0 512))))
  else if k = 2 then isNm ln && (!decide (ln = nm) && (isJet (devJ ⟨nm, k, ln, p, h, t, m⟩) && wi m 0 32))
  else if k = 3 then decide (h = 0) && (decide (t = 0) && (decide (m = 0) && (isNm ln && (!decide (ln = nm) && isPl p)))) else false)) := rfl
theorem devB_is (d : Device) (h1 : d.Name.length ≤ 1048576) (h2 : d.Line.length ≤ 1048576) : gDevS (d, ()) = some (devB d, ()) ∧ gDev (d, ()) = some (devB d, ()) := by
  have jI : gJet ((⟨⟨d.At.X, d.At.Y⟩, d.Heading, d.Tilt, 1⟩ : Jet), ()) = some (isJet (devJ d), ()) := jetI (devJ d)
  unfold gDevS F95 gDev F107 devB
  simp only [nameS d.Name h1, nameS d.Line h2, nameI d.Name h1, nameI d.Line h2, supS, supI, djS, jI, in_is, within_is, placeS, placeI, Option.bind_some, decide_true, Bool.true_and, Bool.and_true]
  by_cases k1 : d.Kind = 1
  · simp only [k1, decide_true, cond_true, if_true]
    cases isNm d.Name <;> cases isNm d.Line <;> cases decide (d.Line = []) <;> cases decide (d.At.X = 0) <;> cases decide (d.At.Y = 0) <;> cases decide (d.Heading = 0) <;> cases decide (d.Tilt = 0) <;> cases wi d.Most 0 512 <;> exact ⟨rfl, rfl⟩
  · by_cases k2 : d.Kind = 2
    · simp only [k2, decide_true, cond_true, show ¬ (2 : Int) = 1 by decide, decide_false, cond_false, if_true, if_false]
      cases isNm d.Name <;> cases isNm d.Line <;> cases decide (d.Line = d.Name) <;> cases isJet (devJ d) <;> cases wi d.Most 0 32 <;> exact ⟨rfl, rfl⟩
    · by_cases k3 : d.Kind = 3
      · simp only [k3, decide_true, cond_true, show ¬ (3 : Int) = 1 by decide, show ¬ (3 : Int) = 2 by decide, decide_false, cond_false, if_true, if_false]
        cases isNm d.Name <;> cases isNm d.Line <;> cases decide (d.Line = d.Name) <;> cases isPl d.At <;> cases decide (d.Heading = 0) <;> cases decide (d.Tilt = 0) <;> cases decide (d.Most = 0) <;> exact ⟨rfl, rfl⟩
      · simp only [k1, k2, k3, decide_false, cond_false, if_false]
        cases isNm d.Name <;> cases isNm d.Line <;> exact ⟨rfl, rfl⟩
/-! ### Turns by any number -/
theorem mod4 (n : Int) : Int.tmod n 4 = n % 4 - (if 0 ≤ n ∨ (4 : Int) ∣ n then 0 else 4) := by
  rw [Int.tmod_eq_emod]; by_cases h : 0 ≤ n ∨ (4 : Int) ∣ n
  · rw [if_pos h, if_pos h]; rfl
  · rw [if_neg h, if_neg h]; rfl
theorem tmod_small (a : Int) (h0 : 0 ≤ a) : Int.tmod a 4 = a % 4 := by
  rw [mod4, if_pos (.inl h0)]; omega
def q4 (n : Int) : Nat := (n % 4).toNat
theorem q4_lt (n : Int) : q4 n < 4 := by unfold q4; omega
theorem q4_is (n : Int) : ((q4 n : Nat) : Int) = n % 4 := by unfold q4; omega
def hd4 (h n : Int) : Int := if wi h 0 3 = true then (h + n % 4) % 4 else 0
theorem rot_small (m : Int) (hb : m ≤ 1099511627776) (p : Place) (hx : -m ≤ p.X ∧ p.X ≤ m) (hy : -m ≤ p.Y ∧ p.Y ≤ m) (k : Nat) (hk : k < 4) : (-m ≤ (rotN k p).X ∧ (rotN k p).X ≤ m) ∧ (-m ≤ (rotN k p).Y ∧ (rotN k p).Y ≤ m) := by
  obtain ⟨x, y⟩ := p
  simp only at hx hy
  have e1 : w64 (0 - x) = -x := by rw [w64_id (by omega) (by omega)]; omega
  have e2 : w64 (0 - y) = -y := by rw [w64_id (by omega) (by omega)]; omega
  have e3 : w64 (0 - -x) = x := by rw [w64_id (by omega) (by omega)]; omega
  have e4 : w64 (0 - -y) = y := by rw [w64_id (by omega) (by omega)]; omega
  rcases k4 hk with rfl | rfl | rfl | rfl <;> simp only [rotN, e1, e2, e3, e4] <;> omega
theorem rot_zero (k : Nat) (hk : k < 4) : rotN k ⟨0, 0⟩ = ⟨0, 0⟩ := by
  rcases k4 hk with rfl | rfl | rfl | rfl <;> kernel_rfl
/-! ### Rigs -/
def mvD (n : Int) (d : Device) : Device := ⟨d.Name, d.Kind, d.Line, ⟨(rotN (q4 n) d.At).X, (rotN (q4 n) d.At).Y⟩, if d.Kind = 2 then hd4 d.Heading n else d.Heading, d.Tilt, d.Most⟩
theorem dev_bound {d : Device} (h : devB d = true) : (-4096 ≤ d.At.X ∧ d.At.X ≤ 4096) ∧ (-4096 ≤ d.At.Y ∧ d.At.Y ≤ 4096) ∧ (d.Kind = 1 → d.At.X = 0 ∧ d.At.Y = 0) := by
  unfold devB at h
  rw [Bool.and_eq_true] at h
  have h := h.2
  by_cases k1 : d.Kind = 1
  · rw [if_pos k1] at h
    simp only [Bool.and_eq_true, decide_eq_true_eq] at h
    omega
  · rw [if_neg k1] at h
    by_cases k2 : d.Kind = 2
    · rw [if_pos k2] at h
      simp only [Bool.and_eq_true] at h
      have J := jet_ok h.2.2.1
      have jx := J.x; have jy := J.y
      simp only [devJ] at jx jy
      omega
    · rw [if_neg k2] at h
      by_cases k3 : d.Kind = 3
      · rw [if_pos k3] at h
        simp only [Bool.and_eq_true, isPl, wi_true] at h
        omega
      · rw [if_neg k3] at h; cases h
theorem mv_ok (n : Int) {d : Device} (h : devB d = true) : devB (mvD n d) = true := by
  have hb := dev_bound h
  unfold devB at h
  unfold mvD
  rw [devB_mk]
  rw [Bool.and_eq_true] at h ⊢
  refine ⟨h.1, ?_⟩
  have h := h.2
  by_cases k1 : d.Kind = 1
  · rw [if_pos k1] at h ⊢
    have hz : d.At = ⟨0, 0⟩ := by
      have := hb.2.2 k1
      cases hA : d.At
      rw [hA] at this
      simp only at this
      rw [this.1, this.2]
    rw [hz, rot_zero _ (q4_lt n)]
    rw [if_neg (by omega)]
    rw [hz] at h
    exact h
  · rw [if_neg k1] at h ⊢
    by_cases k2 : d.Kind = 2
    · rw [if_pos k2] at h ⊢
      rw [if_pos k2]
      simp only [Bool.and_eq_true] at h ⊢
      refine ⟨h.1, h.2.1, ?_, h.2.2.2⟩
      have J := jet_ok h.2.2.1
      have jx := J.x; have jy := J.y; have jh := J.h; have jt := J.t
      simp only [devJ] at jx jy jh jt
      have hr := rot_small 1024 (by omega) d.At jx jy (q4 n) (q4_lt n)
      have hh : hd4 d.Heading n = (d.Heading + n % 4) % 4 := by unfold hd4; rw [if_pos (wi_of jh.1 jh.2)]
      unfold isJet devJ
      simp only
      rw [wi_of hr.1.1 hr.1.2, wi_of hr.2.1 hr.2.2, hh, wi_of (by omega) (by omega), wi_of jt.1 jt.2, wi_of (by omega) (by omega)]
      rfl
    · rw [if_neg k2] at h ⊢
      rw [if_neg k2]
      by_cases k3 : d.Kind = 3
      · rw [if_pos k3] at h ⊢
        simp only [Bool.and_eq_true] at h ⊢
        refine ⟨h.1, h.2.1, h.2.2.1, h.2.2.2.1, h.2.2.2.2.1, ?_⟩
        have hr := rot_small 4096 (by omega) d.At hb.1 hb.2.1 (q4 n) (q4_lt n)
        unfold isPl
        rw [wi_of hr.1.1 hr.1.2, wi_of hr.2.1 hr.2.2]; rfl
      · rw [if_neg k3] at h; cases h
theorem take_snoc' {α : Type} (r : List α) (i : Nat) (h : i < r.length) : r.take (i + 1) = r.take i ++ [r[i]] := by
  rw [List.take_add_one]; simp [h]
theorem map_take_snoc {α β : Type} (f : α → β) (r : List α) (i : Nat) (h : i < r.length) : (r.take i).map f ++ [f r[i]] = (r.take (i + 1)).map f := by
  rw [take_snoc' r i h, List.map_append]; rfl
/-! ### Winds -/
def mvG (n : Int) (g : Gust) : Gust := ⟨g.From, ⟨(rotN (q4 n) g.Drift).X, (rotN (q4 n) g.Drift).Y⟩⟩
theorem both_self' {R : Type} {a : Option R} : both a a = a := by unfold both; rw [if_pos rfl]
/-! ### Shows -/
def mvS (n : Int) (s : ShowT) : ShowT := (s.1.map (mvD n), s.2.1, s.2.2.1.map (mvG n), s.2.2.2.1, ())
/-- Equal shows, whatever they are. -/
theorem eqShow_any (s : ShowT) (h1 : s.1.length ≤ 1048576) (h2 : s.2.1.length ≤ 1048576) (h3 : s.2.2.1.length ≤ 1048576) : gEqSh (s, s, ()) = some (true, ()) := by
  obtain ⟨rig, score, wind, ticks, u⟩ := s
  unfold gEqSh F15
  simp only [eq_device rig h1, eqCues score h2, eq_gust wind h3, Option.bind_some, decide_true, Bool.not_true, cond_false]
end Ev
