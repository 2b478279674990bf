/- Rigs and winds that are turned. Rigs: what it is that a valid rig is. Water that is shared out. The lifts of a show at a tick. All that a show throws. What is told of all that a show throws: water, counts, the greatest height, the lamps, a jet. -/
import Derived.Test.YtpnlcamcnhpbhaaGreatBaseA
set_option linter.unusedVariables false
set_option linter.unusedSimpArgs false
set_option maxRecDepth 100000
namespace Ev
open Go
/-! ### Devices, to the letter -/
def devB (d : Device) : Bool := isNm d.Name && (if d.Kind = 1 then decide (d.Line = []) && (decide (d.At.X = 0) && (decide (d.At.Y = 0) && (decide (d.Heading = 0) && (decide (d.Tilt = 0) && wi d.Most 0 512))))
  else if d.Kind = 2 then isNm d.Line && (!decide (d.Line = d.Name) && (isJet (devJ d) && wi d.Most 0 32))
  else if d.Kind = 3 then decide (d.Heading = 0) && (decide (d.Tilt = 0) && (decide (d.Most = 0) && (isNm d.Line && (!decide (d.Line = d.Name) && isPl d.At)))) else false)
theorem devB_mk (nm : Str) (k : Int) (ln : Str) (p : Place) (h t m : Int) : devB ⟨nm, k, ln, p, h, t, m⟩ = (isNm nm && (if k = 1 then decide (ln = []) && (decide (p.X = 0) && (decide (p.Y = 0) && (decide (h = 0) && (decide (t = 0) && wi m 0 512))))
  else if k = 2 then isNm ln && (!decide (ln = nm) && (isJet (devJ ⟨nm, k, ln, p, h, t, m⟩) && wi m 0 32))
  else if k = 3 then decide (h = 0) && (decide (t = 0) && (decide (m = 0) && (isNm ln && (!decide (ln = nm) && isPl p)))) else false)) := rfl
theorem devB_is (d : Device) (h1 : d.Name.length ≤ 1048576) (h2 : d.Line.length ≤ 1048576) : gDevS (d, ()) = some (devB d, ()) ∧ gDev (d, ()) = some (devB d, ()) := by
  have jI : gJet ((⟨⟨d.At.X, d.At.Y⟩, d.Heading, d.Tilt, 1⟩ : Jet), ()) = some (isJet (devJ d), ()) := jetI (devJ d)
  unfold gDevS F97 gDev F85 devB
  simp only [nameS d.Name h1, nameS d.Line h2, nameI d.Name h1, nameI d.Line h2, supS, supI, djS, jI, in_is, within_is, placeS, placeI, Option.bind_some, decide_true, Bool.true_and, Bool.and_true]
  by_cases k1 : d.Kind = 1
  · simp only [k1, decide_true, cond_true, if_true]
    cases isNm d.Name <;> cases isNm d.Line <;> cases decide (d.Line = []) <;> cases decide (d.At.X = 0) <;> cases decide (d.At.Y = 0) <;> cases decide (d.Heading = 0) <;> cases decide (d.Tilt = 0) <;> cases wi d.Most 0 512 <;> exact ⟨rfl, rfl⟩
  · by_cases k2 : d.Kind = 2
    · simp only [k2, decide_true, cond_true, show ¬ (2 : Int) = 1 by decide, decide_false, cond_false, if_true, if_false]
      cases isNm d.Name <;> cases isNm d.Line <;> cases decide (d.Line = d.Name) <;> cases isJet (devJ d) <;> cases wi d.Most 0 32 <;> exact ⟨rfl, rfl⟩
    · by_cases k3 : d.Kind = 3
      · simp only [k3, decide_true, cond_true, show ¬ (3 : Int) = 1 by decide, show ¬ (3 : Int) = 2 by decide, decide_false, cond_false, if_true, if_false]
        cases isNm d.Name <;> cases isNm d.Line <;> cases decide (d.Line = d.Name) <;> cases isPl d.At <;> cases decide (d.Heading = 0) <;> cases decide (d.Tilt = 0) <;> cases decide (d.Most = 0) <;> exact ⟨rfl, rfl⟩
      · simp only [k1, k2, k3, decide_false, cond_false, if_false]
        cases isNm d.Name <;> cases isNm d.Line <;> exact ⟨rfl, rfl⟩
/-! ### Turns by any number -/
theorem mod4 (n : Int) : Int.tmod n 4 = n % 4 - (if 0 ≤ n ∨ (4 : Int) ∣ n then 0 else 4) := by
  rw [Int.tmod_eq_emod]; by_cases h : 0 ≤ n ∨ (4 : Int) ∣ n
  · rw [if_pos h, if_pos h]; rfl
  · rw [if_neg h, if_neg h]; rfl
theorem l2Mod_is (n : Int) : F190 (n, ()) = some (n % 4, ()) := by
  unfold F190
  simp only
  have h := mod4 n
  by_cases hc : 0 ≤ n ∨ (4 : Int) ∣ n
  · rw [if_pos hc] at h
    rw [cond_false_dec (by omega), h]; simp
  · rw [if_neg hc] at h
    have : Int.tmod n 4 < 0 := by omega
    rw [cond_true_dec this, w64_id (by omega) (by omega), h]
    congr 2; omega
theorem tmod_small (a : Int) (h0 : 0 ≤ a) : Int.tmod a 4 = a % 4 := by
  rw [mod4, if_pos (.inl h0)]; omega
theorem turns_is (n : Int) : F91 (n, ()) = some (n % 4, ()) := by
  unfold F91
  simp only
  have h := mod4 n
  have hb : 0 ≤ Int.tmod n 4 + 4 ∧ Int.tmod n 4 + 4 ≤ 8 := by split at h <;> omega
  rw [w64_id (by omega) (by omega), tmod_small _ hb.1]
  congr 2
  split at h <;> omega
def q4 (n : Int) : Nat := (n % 4).toNat
theorem q4_lt (n : Int) : q4 n < 4 := by unfold q4; omega
theorem q4_is (n : Int) : ((q4 n : Nat) : Int) = n % 4 := by unfold q4; omega
theorem turnS' (p : Place) (n : Int) : gTurnS (p, n, ()) = some (rotN (q4 n) p, ()) := by
  unfold gTurnS F177
  simp only [l2Mod_is, Option.bind_some]
  obtain ⟨m, hm⟩ := fuel_ge 9 (by omega)
  obtain ⟨c, hc⟩ := turn_loopS F190 p ⟨0, 0⟩ m (q4 n) (q4_lt n) (fun t3 => some (t3.1, ()))
  rw [q4_is] at hc
  rw [hm, hc]
theorem turnI' (p : Place) (n : Int) : gTurn (p, n, ()) = some (rotN (q4 n) p, ()) := by
  unfold gTurn F44
  simp only [turns_is, Option.bind_some]
  obtain ⟨m, hm⟩ := fuel_ge 9 (by omega)
  obtain ⟨c, hc⟩ := turn_loopI F91 p ⟨0, 0⟩ m (q4 n) (q4_lt n) (fun t3 => some (t3.1, ()))
  rw [q4_is] at hc
  rw [hm, hc]
def hd4 (h n : Int) : Int := if wi h 0 3 = true then (h + n % 4) % 4 else 0
noncomputable abbrev gTh := F79 gHead F91
theorem thI (h n : Int) : gTh (h, n, ()) = some (hd4 h n, ()) := by
  unfold gTh F79 hd4
  simp only [headI, Option.bind_some]
  cases hw : wi h 0 3
  · rfl
  · have := wi_true.1 hw
    simp only [Bool.not_true, cond_false, turns_is, Option.bind_some, if_true]
    rw [w64_id (by omega) (by omega), tmod_small _ (by omega)]
theorem rot_small (m : Int) (hb : m ≤ 1099511627776) (p : Place) (hx : -m ≤ p.X ∧ p.X ≤ m) (hy : -m ≤ p.Y ∧ p.Y ≤ m) (k : Nat) (hk : k < 4) : (-m ≤ (rotN k p).X ∧ (rotN k p).X ≤ m) ∧ (-m ≤ (rotN k p).Y ∧ (rotN k p).Y ≤ m) := by
  obtain ⟨x, y⟩ := p
  simp only at hx hy
  have e1 : w64 (0 - x) = -x := by rw [w64_id (by omega) (by omega)]; omega
  have e2 : w64 (0 - y) = -y := by rw [w64_id (by omega) (by omega)]; omega
  have e3 : w64 (0 - -x) = x := by rw [w64_id (by omega) (by omega)]; omega
  have e4 : w64 (0 - -y) = y := by rw [w64_id (by omega) (by omega)]; omega
  rcases k4 hk with rfl | rfl | rfl | rfl <;> simp only [rotN, e1, e2, e3, e4] <;> omega
theorem rot_zero (k : Nat) (hk : k < 4) : rotN k ⟨0, 0⟩ = ⟨0, 0⟩ := by
  rcases k4 hk with rfl | rfl | rfl | rfl <;> kernel_rfl
/-! ### Rigs -/
def mvD (n : Int) (d : Device) : Device := ⟨d.Name, d.Kind, d.Line, ⟨(rotN (q4 n) d.At).X, (rotN (q4 n) d.At).Y⟩, if d.Kind = 2 then hd4 d.Heading n else d.Heading, d.Tilt, d.Most⟩
theorem dev_bound {d : Device} (h : devB d = true) : (-4096 ≤ d.At.X ∧ d.At.X ≤ 4096) ∧ (-4096 ≤ d.At.Y ∧ d.At.Y ≤ 4096) ∧ (d.Kind = 1 → d.At.X = 0 ∧ d.At.Y = 0) := by
  unfold devB at h
  rw [Bool.and_eq_true] at h
  have h := h.2
  by_cases k1 : d.Kind = 1
  · rw [if_pos k1] at h
    simp only [Bool.and_eq_true, decide_eq_true_eq] at h
    omega
  · rw [if_neg k1] at h
    by_cases k2 : d.Kind = 2
    · rw [if_pos k2] at h
      simp only [Bool.and_eq_true] at h
      have J := jet_ok h.2.2.1
      have jx := J.x; have jy := J.y
      simp only [devJ] at jx jy
      omega
    · rw [if_neg k2] at h
      by_cases k3 : d.Kind = 3
      · rw [if_pos k3] at h
        simp only [Bool.and_eq_true, isPl, wi_true] at h
        omega
      · rw [if_neg k3] at h; cases h
theorem mv_ok (n : Int) {d : Device} (h : devB d = true) : devB (mvD n d) = true := by
  have hb := dev_bound h
  unfold devB at h
  unfold mvD
  rw [devB_mk]
  rw [Bool.and_eq_true] at h ⊢
  refine ⟨h.1, ?_⟩
  have h := h.2
  by_cases k1 : d.Kind = 1
  · rw [if_pos k1] at h ⊢
    have hz : d.At = ⟨0, 0⟩ := by
      have := hb.2.2 k1
      cases hA : d.At
      rw [hA] at this
      simp only at this
      rw [this.1, this.2]
    rw [hz, rot_zero _ (q4_lt n)]
    rw [if_neg (by omega)]
    rw [hz] at h
    exact h
  · rw [if_neg k1] at h ⊢
    by_cases k2 : d.Kind = 2
    · rw [if_pos k2] at h ⊢
      rw [if_pos k2]
      simp only [Bool.and_eq_true] at h ⊢
      refine ⟨h.1, h.2.1, ?_, h.2.2.2⟩
      have J := jet_ok h.2.2.1
      have jx := J.x; have jy := J.y; have jh := J.h; have jt := J.t
      simp only [devJ] at jx jy jh jt
      have hr := rot_small 1024 (by omega) d.At jx jy (q4 n) (q4_lt n)
      have hh : hd4 d.Heading n = (d.Heading + n % 4) % 4 := by unfold hd4; rw [if_pos (wi_of jh.1 jh.2)]
      unfold isJet devJ
      simp only
      rw [wi_of hr.1.1 hr.1.2, wi_of hr.2.1 hr.2.2, hh, wi_of (by omega) (by omega), wi_of jt.1 jt.2, wi_of (by omega) (by omega)]
      rfl
    · rw [if_neg k2] at h ⊢
      rw [if_neg k2]
      by_cases k3 : d.Kind = 3
      · rw [if_pos k3] at h ⊢
        simp only [Bool.and_eq_true] at h ⊢
        refine ⟨h.1, h.2.1, h.2.2.1, h.2.2.2.1, h.2.2.2.2.1, ?_⟩
        have hr := rot_small 4096 (by omega) d.At hb.1 hb.2.1 (q4 n) (q4_lt n)
        unfold isPl
        rw [wi_of hr.1.1 hr.1.2, wi_of hr.2.1 hr.2.2]; rfl
      · rw [if_neg k3] at h; cases h
theorem take_snoc' {α : Type} (r : List α) (i : Nat) (h : i < r.length) : r.take (i + 1) = r.take i ++ [r[i]] := by
  rw [List.take_add_one]; simp [h]
theorem map_take_snoc {α β : Type} (f : α → β) (r : List α) (i : Nat) (h : i < r.length) : (r.take i).map f ++ [f r[i]] = (r.take (i + 1)).map f := by
  rw [take_snoc' r i h, List.map_append]; rfl
noncomputable abbrev gTR := F33 gRig gTurn gTh
/-! ### Winds -/
def mvG (n : Int) (g : Gust) : Gust := ⟨g.From, ⟨(rotN (q4 n) g.Drift).X, (rotN (q4 n) g.Drift).Y⟩⟩
noncomputable abbrev gTW := F35 gWind gTurn
theorem both_self' {R : Type} {a : Option R} : both a a = a := by unfold both; rw [if_pos rfl]
theorem cloneCue (l : List Cue) (hl : l.length ≤ 1048576) : F34 (l, ()) = some (l, ()) := by
  unfold F34 emptyK
  cases l with
  | nil => rw [capK_le (by simp)]; exact both_self'
  | cons x l => rw [capK_le (by simp at hl ⊢; omega)]; rfl
theorem copyCue (l : List Cue) (hl : l.length ≤ 1048576) : F122 (l, ()) = some (l, ()) := by
  unfold F122
  rw [capK_le (by simp; omega)]; rfl
/-! ### Shows -/
def mvS (n : Int) (s : ShowT) : ShowT := (s.1.map (mvD n), s.2.1, s.2.2.1.map (mvG n), s.2.2.2.1, ())
noncomputable abbrev gTS := F9 gShow gTR F34 gTW
end Ev

namespace Ev
open Go
/-! ### The order of texts -/
theorem less_irrefl : ∀ a : Str, Op.bytesLess a a = false
  | [] => rfl
  | x :: a => by simp [Op.bytesLess, less_irrefl a, UInt8.lt_irrefl]
theorem less_trans : ∀ a b c : Str, Op.bytesLess a b = true → Op.bytesLess b c = true → Op.bytesLess a c = true
  | [], [], _, h, _ => by simp [Op.bytesLess] at h
  | [], _ :: _, [], _, h => by simp [Op.bytesLess] at h
  | [], _ :: _, _ :: _, _, _ => rfl
  | _ :: _, [], _, h, _ => by simp [Op.bytesLess] at h
  | _ :: _, _ :: _, [], _, h => by simp [Op.bytesLess] at h
  | x :: a, y :: b, z :: c, h1, h2 => by
    simp only [Op.bytesLess, Bool.or_eq_true, Bool.and_eq_true, decide_eq_true_eq, beq_iff_eq] at h1 h2 ⊢
    rcases h1 with h1 | ⟨rfl, h1⟩
    · rcases h2 with h2 | ⟨rfl, h2⟩
      · exact .inl (UInt8.lt_trans h1 h2)
      · exact .inl h1
    · rcases h2 with h2 | ⟨rfl, h2⟩
      · exact .inl h2
      · exact .inr ⟨rfl, less_trans a b c h1 h2⟩
theorem less_ne {a b : Str} (h : Op.bytesLess a b = true) : a ≠ b := fun e => by subst e; rw [less_irrefl] at h; cases h
/-! ### Searches -/
def fndFrom (s : Str) : Nat → List Device → Int
  | _, [] => -1
  | i, d :: ds => if d.Name = s then (i : Int) else fndFrom s (i + 1) ds
def fnd (l : List Device) (s : Str) : Int := fndFrom s 0 l
theorem fndFrom_at (s : Str) : ∀ (l : List Device) (i : Nat), (fndFrom s i l = -1 ∧ ∀ d ∈ l, d.Name ≠ s) ∨ ∃ (k : Nat) (d : Device), fndFrom s i l = ((i + k : Nat) : Int) ∧ l[k]? = some d ∧ d.Name = s
  | [], i => .inl ⟨rfl, by simp⟩
  | x :: l, i => by
    unfold fndFrom
    by_cases h : x.Name = s
    · rw [if_pos h]; exact .inr ⟨0, x, by simp, rfl, h⟩
    · rw [if_neg h]
      rcases fndFrom_at s l (i + 1) with ⟨e, k⟩ | ⟨k, d, e, k1, k2⟩
      · refine .inl ⟨e, fun d hd => ?_⟩
        rcases List.mem_cons.mp hd with rfl | hd
        · exact h
        · exact k d hd
      · exact .inr ⟨k + 1, d, by rw [e]; congr 1; omega, by simpa using k1, k2⟩
theorem fnd_spec (l : List Device) (s : Str) : (fnd l s = -1 ∧ ∀ d ∈ l, d.Name ≠ s) ∨ ∃ (k : Nat) (d : Device), fnd l s = (k : Int) ∧ l[k]? = some d ∧ d.Name = s := by
  rcases fndFrom_at s l 0 with h | ⟨k, d, e, h⟩
  · exact .inl h
  · exact .inr ⟨k, d, by simpa [fnd] using e, h⟩
theorem findS_is (l : List Device) (hl : l.length ≤ 1048576) (s : Str) : G146 (l, s, ()) = some (fnd l s, ()) := by
  have key : ∀ (d i n : Nat), i + d = l.length → d < n → iterF s146_0 n (s, l, Int.ofNat l.length, (i : Int), ()) (fun t3 => some ((-1), ())) = some (fndFrom s i (l.drop i), ()) := by
    intro d
    induction d with
    | zero =>
      intro i n hd hn
      obtain ⟨n, rfl⟩ : ∃ k, n = k + 1 := ⟨n - 1, by omega⟩
      rw [iterF_succ]; simp only [s146_0]; rw [cond_false_dec (by simp; omega), List.drop_of_length_le (by omega)]; rfl
    | succ d ih =>
      intro i n hd hn
      obtain ⟨n, rfl⟩ : ∃ k, n = k + 1 := ⟨n - 1, by omega⟩
      have hi : i < l.length := by omega
      have hx : l[i]? = some l[i] := by simp
      have e1 : w64 ((i : Int) + 1) = ((i + 1 : Nat) : Int) := w64_id (by omega) (by omega)
      rw [drop_cons' l i hi]
      unfold fndFrom
      rw [iterF_succ]; simp only [s146_0]
      rw [cond_true_dec (by simp; omega), rdL_at hx]
      by_cases hc : l[i].Name = s
      · rw [cond_true_dec hc, if_pos hc]
      · rw [cond_false_dec hc, if_neg hc, e1]; exact ih (i + 1) n (by omega) (by omega)
  have := key l.length 0 fuel (by omega) (by rw [fuel_eq]; omega)
  rw [List.drop_zero] at this
  exact this
theorem findI_is (l : List Device) (hl : l.length ≤ 1048576) (s : Str) : G135 (l, s, ()) = some (fnd l s, ()) := by
  obtain ⟨v, h1, h2, _⟩ := find_ok l hl s
  have h3 := findS_is l hl s
  have : v = fnd l s := by
    have : some (v, ()) = some (fnd l s, ()) := h1.symm.trans h3
    injection this with this
    injection this
  subst this
  exact h2
/-! ### What hangs -/
def kindAt (l : List Device) (i : Nat) : Int := ((l[i]?).map fun d => d.Kind).getD 0
def nameAt (l : List Device) (i : Nat) : Str := ((l[i]?).map fun d => d.Name).getD []
def hungB (l : List Device) (d : Device) : Bool := decide (d.Kind = 1) || (decide (0 ≤ fnd l d.Line) && decide (kindAt l (fnd l d.Line).toNat = d.Kind - 1))
theorem hungI_is (l : List Device) (hl : l.length ≤ 1048576) (d : Device) (hk : d.Kind = 1 ∨ d.Kind = 2 ∨ d.Kind = 3) : G86 (l, d, ()) = some (hungB l d, ()) := by
  unfold G86 F86 hungB
  dsimp only
  by_cases k1 : d.Kind = 1
  · rw [cond_true_dec k1, decide_eq_true k1]; rfl
  · rw [cond_false_dec k1, decide_eq_false k1, Bool.false_or, findI_is l hl]
    simp only [Option.bind_some, ge_iff_le]
    rcases fnd_spec l d.Line with ⟨e, _⟩ | ⟨k, x, e, h1, _⟩
    · rw [e]; rfl
    · rw [e, cond_true_dec (by omega), rdL_at h1, decide_eq_true (show (0 : Int) ≤ (k : Int) by omega), Bool.true_and]
      unfold kindAt
      rw [Int.toNat_natCast, h1, w64_id (by omega) (by omega)]; rfl
theorem hungS_is (l : List Device) (hl : l.length ≤ 1048576) (d : Device) (hk : d.Kind = 1 ∨ d.Kind = 2 ∨ d.Kind = 3) : G98 (l, d, ()) = some (hungB l d, ()) := by
  obtain ⟨b, h1, h2⟩ := hung_ok l hl d hk
  have h3 := hungI_is l hl d hk
  have e : some (b, ()) = some (hungB l d, ()) := h2.symm.trans h3
  exact h1.trans e
/-! ### Rigs -/
def rigAt (l : List Device) (i : Nat) : Bool := match l[i]? with
  | some d => devB d && ((decide (i = 0) || Op.bytesLess (nameAt l (i - 1)) d.Name) && hungB l d)
  | none => true
def rigB (l : List Device) : Bool := decide (l.length ≤ 8) && (List.range l.length).all (rigAt l)
theorem dev_kind {d : Device} (h : devB d = true) : d.Kind = 1 ∨ d.Kind = 2 ∨ d.Kind = 3 := by
  unfold devB at h
  by_cases k1 : d.Kind = 1
  · exact .inl k1
  · by_cases k2 : d.Kind = 2
    · exact .inr (.inl k2)
    · by_cases k3 : d.Kind = 3
      · exact .inr (.inr k3)
      · rw [if_neg k1, if_neg k2, if_neg k3] at h; simp at h
theorem rigI_is (l : List Device) (hl : l.length ≤ 1048576) (hn : DevsOK l) : G39 (l, ()) = some (rigB l, ()) := by
  unfold G39 F39 rigB
  dsimp only
  by_cases h8 : Int.ofNat l.length > 8
  · rw [cond_true_dec h8, decide_eq_false (by simp at h8; omega)]; rfl
  · rw [cond_false_dec h8, decide_eq_true (by simp at h8; omega), Bool.true_and]
    have := iterF_chk (f := s39_0 G85 G86) (K := fun t7 => some (true, ())) (fun i => (l, l, Int.ofNat l.length, (i : Int), ())) (rigAt l) (some (false, ())) l.length (by omega)
      (by
        intro i hi rec K
        have hx : l[i]? = some l[i] := by simp
        have e1 : w64 ((i : Int) + 1) = ((i + 1 : Nat) : Int) := w64_id (by omega) (by omega)
        obtain ⟨q1, q2⟩ := hn l[i] (by simp)
        have hd : G85 (l[i], ()) = some (devB l[i], ()) := (devB_is l[i] q1 q2).2
        unfold rigAt
        rw [hx]
        simp only [s39_0]
        rw [cond_true_dec (by simp; omega), rdL_at hx, hd]
        simp only [Option.bind_some, Bool.not_not]
        cases hb : devB l[i]
        · rfl
        · simp only [cond_true, Bool.true_and]
          rw [hungI_is l hl _ (dev_kind hb), e1]
          simp only [Option.bind_some]
          by_cases hz : i = 0
          · subst hz
            rw [cond_false_dec (by omega)]
            simp only [decide_true, Bool.true_or, Bool.true_and]
            cases hungB l l[0] <;> rfl
          · obtain ⟨j, rfl⟩ : ∃ j, i = j + 1 := ⟨i - 1, by omega⟩
            have hy : l[j]? = some l[j] := by simp
            have e2 : w64 (((j + 1 : Nat) : Int) - 1) = (j : Int) := by rw [w64_id (by omega) (by omega)]; omega
            have ho : (Op.bytesLess l[j + 1].Name l[j].Name || decide (l[j + 1].Name = l[j].Name)) = !Op.bytesLess l[j].Name l[j + 1].Name := (less_total _ _).symm
            rw [cond_true_dec (by omega), e2, rdL_at hy, ho, decide_eq_false hz]
            unfold nameAt
            rw [Nat.add_sub_cancel, hy]
            simp only [Bool.not_not, Bool.false_or, Option.map_some, Option.getD_some]
            cases Op.bytesLess l[j].Name l[j + 1].Name
            · rfl
            · simp only [cond_true, Bool.true_and]
              cases hungB l l[j + 1] <;> rfl)
      (by
        intro rec K
        simp only [s39_0]
        rw [cond_false_dec (by simp)])
    refine this.trans ?_
    cases (List.range l.length).all (rigAt l) <;> rfl
theorem rigS_is (l : List Device) (hl : l.length ≤ 1048576) (hn : DevsOK l) : G49 (l, ()) = some (rigB l, ()) := by
  obtain ⟨b, h1, h2, _⟩ := rig_ok l hl hn
  have h3 := rigI_is l hl hn
  have e : some (b, ()) = some (rigB l, ()) := h2.symm.trans h3
  exact h1.trans e
structure RigP (l : List Device) : Prop where
  len : l.length ≤ 8
  dev : ∀ d ∈ l, devB d = true
  lt : ∀ i d e, l[i]? = some d → l[i + 1]? = some e → Op.bytesLess d.Name e.Name = true
  hung : ∀ d ∈ l, hungB l d = true
theorem rigB_iff (l : List Device) : rigB l = true ↔ RigP l := by
  unfold rigB
  rw [Bool.and_eq_true, decide_eq_true_eq, List.all_eq_true]
  constructor
  · rintro ⟨h8, h⟩
    have at' : ∀ (i : Nat) (d : Device), l[i]? = some d → devB d = true ∧ (i = 0 ∨ Op.bytesLess (nameAt l (i - 1)) d.Name = true) ∧ hungB l d = true := fun i d hd => by
      have hi : i < l.length := (List.getElem?_eq_some_iff.mp hd).1
      have := h i (by simpa using hi)
      unfold rigAt at this
      rw [hd] at this
      simpa using this
    refine ⟨h8, fun d hd => ?_, fun i d e hd he => ?_, fun d hd => ?_⟩
    · obtain ⟨i, hi⟩ := List.mem_iff_getElem?.mp hd
      exact (at' i d hi).1
    · rcases (at' (i + 1) e he).2.1 with h | h
      · omega
      · rw [Nat.add_sub_cancel] at h
        unfold nameAt at h
        rw [hd] at h
        exact h
    · obtain ⟨i, hi⟩ := List.mem_iff_getElem?.mp hd
      exact (at' i d hi).2.2
  · rintro ⟨h8, h1, h2, h3⟩
    refine ⟨h8, fun i hi => ?_⟩
    have hi : i < l.length := by simpa using hi
    have hx : l[i]? = some l[i] := by simp
    unfold rigAt
    rw [hx]
    simp only [Bool.and_eq_true, Bool.or_eq_true, decide_eq_true_eq]
    refine ⟨h1 _ (by simp), ?_, h3 _ (by simp)⟩
    by_cases hz : i = 0
    · exact .inl hz
    · right
      obtain ⟨j, rfl⟩ : ∃ j, i = j + 1 := ⟨i - 1, by omega⟩
      have hy : l[j]? = some l[j] := by simp
      unfold nameAt
      rw [Nat.add_sub_cancel, hy]
      exact h2 j _ _ hy hx
theorem rig_lt {l : List Device} (h : RigP l) : ∀ (k i : Nat) (d e : Device), l[i]? = some d → l[i + k + 1]? = some e → Op.bytesLess d.Name e.Name = true := by
  intro k
  induction k with
  | zero => intro i d e hd he; exact h.lt i d e hd he
  | succ k ih =>
    intro i d e hd he
    have hi : i + k + 1 + 1 < l.length := (List.getElem?_eq_some_iff.mp he).1
    have hx : l[i + k + 1]? = some l[i + k + 1] := by simp
    exact less_trans _ _ _ (ih i d _ hd hx) (h.lt (i + k + 1) _ e hx he)
theorem rig_uniq {l : List Device} (h : RigP l) {i j : Nat} {d e : Device} (hd : l[i]? = some d) (he : l[j]? = some e) (hn : d.Name = e.Name) : i = j := by
  rcases Nat.lt_trichotomy i j with hl | hl | hl
  · obtain ⟨k, rfl⟩ : ∃ k, j = i + k + 1 := ⟨j - i - 1, by omega⟩
    exact absurd hn (less_ne (rig_lt h k i d e hd he))
  · exact hl
  · obtain ⟨k, rfl⟩ : ∃ k, i = j + k + 1 := ⟨i - j - 1, by omega⟩
    exact absurd hn.symm (less_ne (rig_lt h k j e d he hd))
/-- What a nozzle hangs on is a pump, and what a lamp hangs on a nozzle. -/
theorem rig_line {l : List Device} (h : RigP l) {d : Device} (hd : d ∈ l) (hk : d.Kind ≠ 1) : ∃ (k : Nat) (x : Device), fnd l d.Line = (k : Int) ∧ l[k]? = some x ∧ x.Name = d.Line ∧ x.Kind = d.Kind - 1 := by
  have := h.hung d hd
  unfold hungB at this
  rw [decide_eq_false hk, Bool.false_or, Bool.and_eq_true, decide_eq_true_eq, decide_eq_true_eq] at this
  rcases fnd_spec l d.Line with ⟨e, _⟩ | ⟨k, x, e, h1, h2⟩
  · omega
  · refine ⟨k, x, e, h1, h2, ?_⟩
    have h3 := this.2
    unfold kindAt at h3
    rw [e, Int.toNat_natCast, h1] at h3
    exact h3
theorem fnd_self {l : List Device} (h : RigP l) {i : Nat} {d : Device} (hd : l[i]? = some d) : fnd l d.Name = (i : Int) := by
  rcases fnd_spec l d.Name with ⟨e, hn⟩ | ⟨k, x, e, h1, h2⟩
  · exact absurd rfl (hn d (List.mem_iff_getElem?.mpr ⟨i, hd⟩))
  · rw [e, rig_uniq h h1 hd h2]
end Ev

namespace Ev
open Go
/-! ### Sums -/
def sumL : List Int → Int
  | [] => 0
  | x :: l => x + sumL l
theorem sumL_app : ∀ a b : List Int, sumL (a ++ b) = sumL a + sumL b
  | [], b => by simp [sumL]
  | x :: a, b => by simp [sumL, sumL_app a b]; omega
theorem take_snocG {α : Type} (r : List α) (i : Nat) (h : i < r.length) : r.take (i + 1) = r.take i ++ [r[i]] := by
  rw [List.take_add_one]; simp [h]
theorem sumL_take (l : List Int) (i : Nat) (h : i < l.length) : sumL (l.take (i + 1)) = sumL (l.take i) + l[i] := by
  rw [take_snocG l i h, sumL_app]; simp [sumL]
theorem sumL_bound (m : Int) (hm : 0 ≤ m) : ∀ l : List Int, (∀ x ∈ l, 0 ≤ x ∧ x ≤ m) → 0 ≤ sumL l ∧ sumL l ≤ m * l.length
  | [], _ => by simp [sumL]
  | x :: l, h => by
    have h1 := h x (by simp)
    have h2 := sumL_bound m hm l fun y hy => h y (by simp [hy])
    simp only [sumL, List.length_cons, Int.natCast_add, Int.mul_add]
    omega
theorem sumL_set : ∀ (l : List Int) (i : Nat) (x y : Int), l[i]? = some x → sumL (l.set i y) = sumL l - x + y
  | [], i, x, y, h => by simp at h
  | a :: l, 0, x, y, h => by simp at h; subst h; simp [sumL]; omega
  | a :: l, i + 1, x, y, h => by
    simp at h
    simp only [List.set_cons_succ, sumL, sumL_set l i x y (by simpa using h)]
    omega
theorem sumL_le : ∀ (a b : List Int), a.length = b.length → (∀ (i : Nat) x y, a[i]? = some x → b[i]? = some y → x ≤ y) → sumL a ≤ sumL b
  | [], [], _, _ => by simp [sumL]
  | [], _ :: _, h, _ => by simp at h
  | _ :: _, [], h, _ => by simp at h
  | x :: a, y :: b, h, k => by
    have h1 := k 0 x y rfl rfl
    have h2 := sumL_le a b (by simpa using h) fun i x y hx hy => k (i + 1) x y (by simpa using hx) (by simpa using hy)
    simp only [sumL]; omega
theorem sumS_is (m : Int) (hm : 0 ≤ m) (hm2 : m ≤ 4294967296) (l : List Int) (hl : l.length ≤ 1048576) (h : ∀ x ∈ l, 0 ≤ x ∧ x ≤ m) : G183 (l, ()) = some (sumL l, ()) := by
  unfold G183 F183
  refine (iterF_for (f := s183_0) (K := fun t3 => some (t3.1, ())) (fun i => (sumL (l.take i), l, Int.ofNat l.length, (i : Int), ())) l.length (by omega) ?_ ?_).trans (by simp)
  · intro i hi rec K
    have hx : l[i]? = some l[i] := by simp
    have e1 : w64 ((i : Int) + 1) = ((i + 1 : Nat) : Int) := w64_id (by omega) (by omega)
    have hb := sumL_bound m hm (l.take i) fun x hx => h x (List.mem_of_mem_take hx)
    have hb2 : m * ((l.take i).length : Int) ≤ 4294967296 * 1048576 := by
      have : ((l.take i).length : Int) ≤ 1048576 := by simp; omega
      exact Int.mul_le_mul hm2 this (by omega) (by omega)
    have hx1 := h l[i] (by simp)
    simp only [s183_0]
    rw [cond_true_dec (by simp; omega), rdL_at hx, e1, sumL_take l i hi, w64_id (by omega) (by omega)]
  · intro rec K
    simp only [s183_0]
    rw [cond_false_dec (by simp)]
theorem sumI_is (m : Int) (hm : 0 ≤ m) (hm2 : m ≤ 4294967296) (l : List Int) (hl : l.length ≤ 1048576) (h : ∀ x ∈ l, 0 ≤ x ∧ x ≤ m) : G171 (l, ()) = some (sumL l, ()) := by
  have e : G171 (l, ()) = G183 (l, ()) := rfl
  rw [e]; exact sumS_is m hm hm2 l hl h
/-! ### Demands -/
def demB (l : List Int) : Bool := (List.range l.length).all (fun i => wi ((l[i]?).getD 0) 0 64) && decide (l.length ≤ 8)
theorem demB_iff (l : List Int) : demB l = true ↔ l.length ≤ 8 ∧ ∀ x ∈ l, 0 ≤ x ∧ x ≤ 64 := by
  unfold demB
  rw [Bool.and_eq_true, decide_eq_true_eq, List.all_eq_true]
  constructor
  · rintro ⟨h, h8⟩
    refine ⟨h8, fun x hx => ?_⟩
    obtain ⟨i, hi⟩ := List.mem_iff_getElem?.mp hx
    have := h i (by simpa using (List.getElem?_eq_some_iff.mp hi).1)
    rw [hi] at this
    exact wi_true.1 this
  · rintro ⟨h8, h⟩
    refine ⟨fun i hi => ?_, h8⟩
    have hi : i < l.length := by simpa using hi
    have hx : l[i]? = some l[i] := by simp
    rw [hx]
    exact wi_true.2 (h _ (by simp))
theorem demS_is (l : List Int) (hl : l.length ≤ 1048576) : G180 (l, ()) = some (demB l, ()) := by
  unfold G180 F180 demB
  refine (iterF_chk (f := s180_0 G52) (fun i => (l, l, Int.ofNat l.length, (i : Int), ())) (fun i => wi ((l[i]?).getD 0) 0 64) (some (false, ())) l.length (by omega) ?_ ?_).trans ?_
  · intro i hi rec K
    have hx : l[i]? = some l[i] := by simp
    have e1 : w64 ((i : Int) + 1) = ((i + 1 : Nat) : Int) := w64_id (by omega) (by omega)
    have hw : G52 (l[i], 0, 64, ()) = some (wi l[i] 0 64, ()) := in_is _ _ _
    simp only [s180_0]
    rw [cond_true_dec (by simp; omega), rdL_at hx, hw, e1, hx]
    simp only [Option.bind_some, Option.getD_some]
    cases wi l[i] 0 64 <;> rfl
  · intro rec K
    simp only [s180_0]
    rw [cond_false_dec (by simp)]
  · have : decide ((Int.ofNat l.length) ≤ 8) = decide (l.length ≤ 8) := by
      by_cases h : l.length ≤ 8
      · rw [decide_eq_true h, decide_eq_true (by simp; omega)]
      · rw [decide_eq_false h, decide_eq_false (by simp; omega)]
    cases (List.range l.length).all (fun i => wi ((l[i]?).getD 0) 0 64)
    · rfl
    · simp only [cond_true, Bool.true_and, this]
theorem demI_is (l : List Int) (hl : l.length ≤ 1048576) : G168 (l, ()) = some (demB l, ()) := by
  unfold G168 F168 demB
  refine (iterF_chk (f := s168_0 G42) (fun i => (l, l, Int.ofNat l.length, (i : Int), ())) (fun i => wi ((l[i]?).getD 0) 0 64) (some (false, ())) l.length (by omega) ?_ ?_).trans ?_
  · intro i hi rec K
    have hx : l[i]? = some l[i] := by simp
    have e1 : w64 ((i : Int) + 1) = ((i + 1 : Nat) : Int) := w64_id (by omega) (by omega)
    have hw : G42 (l[i], 0, 64, ()) = some (wi l[i] 0 64, ()) := within_is _ _ _
    simp only [s168_0]
    rw [cond_true_dec (by simp; omega), rdL_at hx, hw, e1, hx]
    simp only [Option.bind_some, Option.getD_some]
    cases wi l[i] 0 64 <;> rfl
  · intro rec K
    simp only [s168_0]
    rw [cond_false_dec (by simp)]
  · have : decide ((Int.ofNat l.length) ≤ 8) = decide (l.length ≤ 8) := by
      by_cases h : l.length ≤ 8
      · rw [decide_eq_true h, decide_eq_true (by simp; omega)]
      · rw [decide_eq_false h, decide_eq_false (by simp; omega)]
    cases (List.range l.length).all (fun i => wi ((l[i]?).getD 0) 0 64)
    · rfl
    · simp only [cond_true, Bool.true_and, this]
/-! ### Cut demands -/
def cutL (l : List Int) (v : Int) : List Int := l.map fun x => mn x v
theorem cutL_at (l : List Int) (v : Int) (i : Nat) : (cutL l v)[i]? = (l[i]?).map fun x => mn x v := by simp [cutL]
theorem cut_snoc (l : List Int) (v : Int) (i : Nat) (h : i < l.length) : cutL (l.take i) v ++ [mn l[i] v] = cutL (l.take (i + 1)) v := by
  rw [take_snocG l i h]; unfold cutL; rw [List.map_append]; rfl
theorem mn_le (a b : Int) : mn a b ≤ a ∧ mn a b ≤ b ∧ (mn a b = a ∨ mn a b = b) := by
  rw [mn_eq]; split <;> omega
theorem cut_bound {l : List Int} (h : ∀ x ∈ l, 0 ≤ x ∧ x ≤ 64) {v : Int} (hv : 0 ≤ v) : ∀ x ∈ cutL l v, 0 ≤ x ∧ x ≤ 64 := by
  intro x hx
  obtain ⟨y, hy, rfl⟩ := List.mem_map.mp hx
  have := h y hy
  have := mn_le y v
  omega
theorem cutS_is (l : List Int) (hl : l.length ≤ 1048576) (v : Int) : G182 (l, v, ()) = some (cutL l v, ()) := by
  unfold G182 F182
  refine (iterF_for (f := s182_0 G78) (K := fun t4 => some (t4.2.1, ())) (fun i => (v, cutL (l.take i) v, l, Int.ofNat l.length, (i : Int), ())) l.length (by omega) ?_ ?_).trans (by simp)
  · intro i hi rec K
    have hx : l[i]? = some l[i] := by simp
    have e1 : w64 ((i : Int) + 1) = ((i + 1 : Nat) : Int) := w64_id (by omega) (by omega)
    have hm : G78 (l[i], v, ()) = some (mn l[i] v, ()) := min_is _ _
    simp only [s182_0]
    rw [cond_true_dec (by simp; omega), rdL_at hx, hm, e1]
    simp only [Option.bind_some]
    rw [capK_le (by simp [cutL]; omega), cut_snoc l v i hi]
  · intro rec K
    simp only [s182_0]
    rw [cond_false_dec (by simp)]
theorem cutI_is (l : List Int) (hd : demB l = true) (v : Int) (hv : 0 ≤ v) : G170 (l, v, ()) = some (cutL l v, ()) := by
  have hl := ((demB_iff l).1 hd).1
  unfold G170 F170
  dsimp only
  rw [demI_is l (by omega), hd]
  simp only [Option.bind_some, Bool.not_true, Bool.not_false, cond_true]
  rw [cond_false_dec (by omega)]
  refine (iterF_for (f := s170_0 G168) (K := fun t4 => some (t4.2.1, ())) (fun i => (v, cutL (l.take i) v, l, Int.ofNat l.length, (i : Int), ())) l.length (by omega) ?_ ?_).trans (by simp)
  · intro i hi rec K
    have hx : l[i]? = some l[i] := by simp
    have e1 : w64 ((i : Int) + 1) = ((i + 1 : Nat) : Int) := w64_id (by omega) (by omega)
    simp only [s170_0]
    rw [cond_true_dec (by simp; omega), rdL_at hx, e1]
    rw [capK_le (by simp [cutL]; omega), cut_snoc l v i hi]
  · intro rec K
    simp only [s170_0]
    rw [cond_false_dec (by simp)]
/-! ### The level -/
def fitsN (s : Int) (l : List Int) (n : Nat) : Bool := decide (sumL (cutL l (n : Int)) ≤ s)
def best (P : Nat → Bool) : Nat → Nat
  | 0 => 0
  | n + 1 => if P (n + 1) = true then n + 1 else best P n
theorem best_le (P : Nat → Bool) : ∀ n, best P n ≤ n
  | 0 => by simp [best]
  | n + 1 => by
    have := best_le P n
    unfold best; split <;> omega
theorem best_ok (P : Nat → Bool) (h0 : P 0 = true) : ∀ n, P (best P n) = true
  | 0 => h0
  | n + 1 => by
    unfold best
    by_cases h : P (n + 1) = true
    · rw [if_pos h]; exact h
    · rw [if_neg h]; exact best_ok P h0 n
theorem best_next (P : Nat → Bool) : ∀ n, best P n = n ∨ P (best P n + 1) = false
  | 0 => .inl rfl
  | n + 1 => by
    unfold best
    by_cases h : P (n + 1) = true
    · rw [if_pos h]; exact .inl rfl
    · rw [if_neg h]
      rcases best_next P n with e | e
      · rw [e]; exact .inr (by simpa using h)
      · exact .inr e
theorem fits_zero {s : Int} {l : List Int} (hs : 0 ≤ s) (h : ∀ x ∈ l, 0 ≤ x ∧ x ≤ 64) : fitsN s l 0 = true := by
  unfold fitsN
  have : ∀ l : List Int, (∀ x ∈ l, 0 ≤ x ∧ x ≤ 64) → sumL (cutL l ((0 : Nat) : Int)) = 0 := by
    intro l
    induction l with
    | nil => intro _; rfl
    | cons x l ih =>
      intro h
      have h1 := h x (by simp)
      have h2 := ih fun y hy => h y (by simp [hy])
      simp only [cutL, List.map_cons, sumL] at h2 ⊢
      rw [h2, mn_eq]; split <;> omega
  rw [this l h]; simpa using hs
theorem supS_is (x : Int) : G144 (x, ()) = some (wi x 0 512, ()) := by
  unfold G144 F144
  rw [show G52 (x, 0, 512, ()) = some (wi x 0 512, ()) from in_is _ _ _]; rfl
theorem supI_is (x : Int) : G134 (x, ()) = some (wi x 0 512, ()) := by
  unfold G134 F134
  rw [show G42 (x, 0, 512, ()) = some (wi x 0 512, ()) from within_is _ _ _]; rfl
theorem levelS_is (s : Int) (l : List Int) (hs : wi s 0 512 = true) (hd : demB l = true) : G181 (s, l, ()) = some (((best (fitsN s l) 64 : Nat) : Int), ()) := by
  obtain ⟨h8, h⟩ := (demB_iff l).1 hd
  unfold G181 F181
  refine (iterF_for (f := s181_0 G180 G144 G182 G183) (K := fun t6 => some (t6.2.2.1, ())) (fun i => (s, l, ((best (fitsN s l) i : Nat) : Int), ((i + 1 : Nat) : Int), ())) 64 (by omega) ?_ ?_).trans rfl
  · intro i hi rec K
    have e1 : w64 (((i + 1 : Nat) : Int) + 1) = ((i + 1 + 1 : Nat) : Int) := w64_id (by omega) (by omega)
    simp only [s181_0]
    rw [cond_true_dec (by omega), demS_is l (by omega), hd, supS_is, hs, cutS_is l (by omega), e1]
    simp only [Option.bind_some, cond_true]
    rw [sumS_is 64 (by omega) (by omega) _ (by simp [cutL]; omega) (cut_bound h (by omega))]
    simp only [Option.bind_some]
    by_cases hf : sumL (cutL l ((i + 1 : Nat) : Int)) ≤ s
    · rw [cond_true_dec hf]
      have : best (fitsN s l) (i + 1) = i + 1 := by
        unfold best; rw [if_pos (by unfold fitsN; exact decide_eq_true hf)]
      rw [this]
    · rw [cond_false_dec hf]
      have : best (fitsN s l) (i + 1) = best (fitsN s l) i := by
        conv => lhs; unfold best
        rw [if_neg (by unfold fitsN; rw [decide_eq_false hf]; simp)]
      rw [this]
  · intro rec K
    simp only [s181_0]
    rw [cond_false_dec (by omega)]
theorem levelI_is (s : Int) (l : List Int) (hs : wi s 0 512 = true) (hd : demB l = true) : G169 (s, l, ()) = some (((best (fitsN s l) 64 : Nat) : Int), ()) := by
  obtain ⟨h8, h⟩ := (demB_iff l).1 hd
  have hs' := wi_true.1 hs
  have key : ∀ (n m : Nat), n ≤ 64 → n < m → iterF (s169_0 G168 G134 G170 G171) m (s, l, (n : Int), ()) (fun t6 => some (t6.2.2.1, ())) = some (((best (fitsN s l) n : Nat) : Int), ()) := by
    intro n
    induction n with
    | zero =>
      intro m _ hm
      obtain ⟨m, rfl⟩ : ∃ k, m = k + 1 := ⟨m - 1, by omega⟩
      have hf := fits_zero hs'.1 h
      unfold fitsN at hf
      rw [iterF_succ]
      simp only [s169_0]
      rw [cutI_is l hd _ (by omega)]
      simp only [Option.bind_some]
      rw [sumI_is 64 (by omega) (by omega) _ (by simp [cutL]; omega) (cut_bound h (by omega))]
      simp only [Option.bind_some]
      rw [cond_false_dec (by have := of_decide_eq_true hf; omega)]
      rfl
    | succ n ih =>
      intro m hn hm
      obtain ⟨m, rfl⟩ : ∃ k, m = k + 1 := ⟨m - 1, by omega⟩
      have e1 : w64 (((n + 1 : Nat) : Int) - 1) = (n : Int) := by rw [w64_id (by omega) (by omega)]; omega
      rw [iterF_succ]
      simp only [s169_0]
      rw [cutI_is l hd _ (by omega)]
      simp only [Option.bind_some]
      rw [sumI_is 64 (by omega) (by omega) _ (by simp [cutL]; omega) (cut_bound h (by omega))]
      simp only [Option.bind_some]
      by_cases hf : sumL (cutL l ((n + 1 : Nat) : Int)) ≤ s
      · rw [cond_false_dec (by omega)]
        have : best (fitsN s l) (n + 1) = n + 1 := by
          unfold best; rw [if_pos (by unfold fitsN; exact decide_eq_true hf)]
        rw [this]
      · rw [cond_true_dec (by omega), e1]
        have : best (fitsN s l) (n + 1) = best (fitsN s l) n := by
          conv => lhs; unfold best
          rw [if_neg (by unfold fitsN; rw [decide_eq_false hf]; simp)]
        rw [this]
        exact ih m (by omega) (by omega)
  unfold G169 F169
  dsimp only
  rw [demI_is l (by omega), hd, supI_is, hs]
  simp only [Option.bind_some, Bool.not_true, Bool.not_false, cond_true, cond_false]
  exact key 64 fuel (by omega) (by rw [fuel_eq]; omega)
/-! ### Shares -/
/-- Shares of a supply, of a level and one more for some. -/
structure SharesP (s : Int) (l R : List Int) : Prop where
  len : R.length = l.length
  ex : ∃ (v : Nat) (left : Int), v ≤ 64 ∧ fitsN s l v = true ∧ (v = 64 ∨ fitsN s l (v + 1) = false) ∧ 0 ≤ left ∧ sumL R + left = s ∧
    (∀ (j : Nat) x y, R[j]? = some x → l[j]? = some y → (y ≤ v ∧ x = y) ∨ (v < y ∧ (x = v ∨ x = v + 1) ∧ (left = 0 ∨ x = v + 1)))
theorem share_loop (s : Int) (l : List Int) (hs : wi s 0 512 = true) (hd : demB l = true) (K : Int × List Int × Int × List Int × Int × Int × Unit → Option (List Int × Unit)) :
    ∃ R left, SharesP s l R ∧ iterF (s128_0 G168 G134 G169 G170 G171) fuel ((best (fitsN s l) 64 : Nat), cutL l (best (fitsN s l) 64 : Nat), w64 (s - sumL (cutL l (best (fitsN s l) 64 : Nat))), l, Int.ofNat l.length, 0, ()) K = K ((best (fitsN s l) 64 : Nat), R, left, l, Int.ofNat l.length, Int.ofNat l.length, ()) := by
  obtain ⟨h8, h⟩ := (demB_iff l).1 hd
  have hs' := wi_true.1 hs
  have hv := best_le (fitsN s l) 64
  have hP := best_ok (fitsN s l) (fits_zero hs'.1 h) 64
  have hN := best_next (fitsN s l) 64
  generalize best (fitsN s l) 64 = v at hv hP hN ⊢
  have hc := sumL_bound 64 (by omega) (cutL l v) (cut_bound h (by omega))
  have hcl : (cutL l (v : Int)).length = l.length := by simp [cutL]
  have hf := of_decide_eq_true hP
  rw [w64_id (by omega) (by omega)]
  obtain ⟨t, ⟨R, left, rfl, i1, i2, i3, i4, i5⟩, e⟩ := iterF_all (f := s128_0 G168 G134 G169 G170 G171) (K := K) (t := ((v : Int), cutL l v, s - sumL (cutL l v), l, Int.ofNat l.length, 0, ())) l.length
    (fun i t => ∃ (R : List Int) (left : Int), t = ((v : Int), R, left, l, Int.ofNat l.length, (i : Int), ()) ∧ R.length = l.length ∧ (0 ≤ left ∧ left ≤ 512) ∧ sumL R + left = s ∧
      (∀ (j : Nat) x y, j < i → R[j]? = some x → l[j]? = some y → (y ≤ v ∧ x = y) ∨ (v < y ∧ (x = v ∨ x = v + 1) ∧ (left = 0 ∨ x = v + 1))) ∧ (∀ (j : Nat) x y, i ≤ j → R[j]? = some x → l[j]? = some y → x = mn y v))
    (by omega) ⟨cutL l v, _, rfl, hcl, ⟨by omega, by omega⟩, by omega, fun j x y hj => by omega, fun j x y _ hx hy => by rw [cutL_at, hy] at hx; simpa using hx.symm⟩
    (by
      rintro i _ hi ⟨R, left, rfl, i1, i2, i3, i4, i5⟩
      have hx : l[i]? = some l[i] := by simp
      have hr : R[i]? = some R[i] := by simp
      have e1 : w64 ((i : Int) + 1) = ((i + 1 : Nat) : Int) := w64_id (by omega) (by omega)
      have hcur := i5 i _ _ (Nat.le_refl _) hr hx
      have hmn := mn_le l[i] v
      have hb := h l[i] (by simp)
      by_cases hg : l[i] > (v : Int)
      · have hcv : R[i] = v := by rw [hcur, mn_eq, if_pos (by omega)]
        by_cases hz : left > 0
        · refine ⟨_, ⟨R.set i (v + 1), left - 1, rfl, by simp [i1], ⟨by omega, by omega⟩, ?_, ?_, ?_⟩, fun rec K => ?_⟩
          · rw [sumL_set R i R[i] _ hr]; omega
          · intro j x y hj hx' hy'
            rw [List.getElem?_set] at hx'
            by_cases hji : i = j
            · subst hji
              rw [if_pos rfl, if_pos (by omega)] at hx'
              rw [hx] at hy'
              cases hx'; cases hy'
              exact .inr ⟨hg, .inr rfl, .inr rfl⟩
            · rw [if_neg hji] at hx'
              rcases i4 j x y (by omega) hx' hy' with q | ⟨q1, q2, q3⟩
              · exact .inl q
              · exact .inr ⟨q1, q2, by omega⟩
          · intro j x y hj hx' hy'
            rw [List.getElem?_set, if_neg (by omega)] at hx'
            exact i5 j x y (by omega) hx' hy'
          · simp only [s128_0]
            rw [cond_true_dec (by simp; omega), rdL_at hx, cond_true_dec hg, cond_true_dec hz]
            have hr' := fun (K : Int → Option (List Int × Unit)) => rdL_at (K := K) hr
            simp only [hr', Int.toNat_natCast, hr, Option.bind_some]
            rw [e1, w64_id (n := left - 1) (by omega) (by omega), hcv, w64_id (by omega) (by omega)]
        · refine ⟨_, ⟨R, left, rfl, i1, i2, i3, ?_, fun j x y hj => i5 j x y (by omega)⟩, fun rec K => ?_⟩
          · intro j x y hj hx' hy'
            by_cases hji : j = i
            · subst hji
              rw [hr] at hx'; rw [hx] at hy'
              cases hx'; cases hy'
              exact .inr ⟨hg, .inl hcv, .inl (by omega)⟩
            · exact i4 j x y (by omega) hx' hy'
          · simp only [s128_0]
            rw [cond_true_dec (by simp; omega), rdL_at hx, cond_true_dec hg, cond_false_dec hz, e1]
      · refine ⟨_, ⟨R, left, rfl, i1, i2, i3, ?_, fun j x y hj => i5 j x y (by omega)⟩, fun rec K => ?_⟩
        · intro j x y hj hx' hy'
          by_cases hji : j = i
          · subst hji
            rw [hr] at hx'; rw [hx] at hy'
            cases hx'; cases hy'
            exact .inl ⟨by omega, by rw [hcur, mn_eq, if_neg (by omega)]⟩
          · exact i4 j x y (by omega) hx' hy'
        · simp only [s128_0]
          rw [cond_true_dec (by simp; omega), rdL_at hx, cond_false_dec hg, e1])
    (by
      rintro _ ⟨R, left, rfl, _⟩ rec K
      simp only [s128_0]
      rw [cond_false_dec (by simp)])
  exact ⟨R, left, ⟨i1, v, left, hv, hP, hN, i2.1, i3, fun j x y hx hy => i4 j x y (by rw [← i1]; exact (List.getElem?_eq_some_iff.mp hx).1) hx hy⟩, e⟩
/-- What is shared out: nothing, of no demands, or shares. -/
theorem share_ok (s : Int) (l : List Int) (hl : l.length ≤ 1048576) : ∃ R, G149 (s, l, ()) = some (R, ()) ∧ G128 (s, l, ()) = some (R, ()) ∧ ((R = [] ∧ (demB l && wi s 0 512) = false) ∨ ((demB l && wi s 0 512) = true ∧ SharesP s l R)) := by
  unfold G149 F149 G128 F128
  dsimp only
  rw [demS_is l hl, demI_is l hl]
  simp only [Option.bind_some]
  cases hd : demB l
  · exact ⟨[], rfl, rfl, .inl ⟨rfl, rfl⟩⟩
  · simp only [Bool.not_true, Bool.not_false, cond_true, supS_is, supI_is, Option.bind_some]
    cases hs : wi s 0 512
    · exact ⟨[], rfl, rfl, .inl ⟨rfl, rfl⟩⟩
    · obtain ⟨h8, h⟩ := (demB_iff l).1 hd
      have hb := cut_bound h (v := (best (fitsN s l) 64 : Nat)) (by omega)
      have hcl : (cutL l ((best (fitsN s l) 64 : Nat) : Int)).length ≤ 1048576 := by simp [cutL]; omega
      simp only [Bool.not_true, Bool.not_false, cond_false, levelS_is s l hs hd, levelI_is s l hs hd, Option.bind_some, cutS_is l hl, cutI_is l hd _ (show (0 : Int) ≤ ((best (fitsN s l) 64 : Nat) : Int) by omega), sumS_is 64 (by omega) (by omega) _ hcl hb, sumI_is 64 (by omega) (by omega) _ hcl hb]
      obtain ⟨R, left, hR, e⟩ := share_loop s l hs hd (fun t10 => some (t10.2.1, ()))
      have e' : s149_0 G180 G144 G181 G182 G183 = s128_0 G168 G134 G169 G170 G171 := rfl
      rw [e']
      exact ⟨R, e, e, .inr ⟨rfl, hR⟩⟩
/-- No share is above what was wanted. -/
theorem shares_le {s : Int} {l R : List Int} (h : SharesP s l R) (hd : demB l = true) {j : Nat} {x y : Int} (hx : R[j]? = some x) (hy : l[j]? = some y) : 0 ≤ x ∧ x ≤ y := by
  obtain ⟨v, left, h1, h2, h3, h4, h5, h6⟩ := h.ex
  have := ((demB_iff l).1 hd).2 y (List.mem_iff_getElem?.mpr ⟨j, hy⟩)
  rcases h6 j x y hx hy with q | q <;> omega
end Ev

namespace Ev
open Go
/-! ### Valid shows -/
noncomputable def scB (l : List Cue) : Bool := ((G40 (l, ())).map fun x => x.1).getD false
noncomputable def wdB (l : List Gust) : Bool := ((G41 (l, ())).map fun x => x.1).getD false
theorem scI_is (l : List Cue) (hn : NamesOK l) (hl : l.length ≤ 1048576) : G40 (l, ()) = some (scB l, ()) := by
  obtain ⟨b, h, _⟩ := score_ok l hn hl
  have h : G40 (l, ()) = some (b, ()) := h
  unfold scB; rw [h]; rfl
theorem scS_is (l : List Cue) (hn : NamesOK l) (hl : l.length ≤ 1048576) : G50 (l, ()) = some (scB l, ()) := (score_same l hn).trans (scI_is l hn hl)
theorem wdI_is (l : List Gust) (hl : l.length ≤ 1048576) : G41 (l, ()) = some (wdB l, ()) := by
  obtain ⟨b, h⟩ := wind_some l hl
  have h : G41 (l, ()) = some (b, ()) := h
  unfold wdB; rw [h]; rfl
theorem wdS_is (l : List Gust) (hl : l.length ≤ 1048576) : G51 (l, ()) = some (wdB l, ()) := by
  have e : G51 = G41 := wind_same
  rw [e]; exact wdI_is l hl
noncomputable def showB (s : ShowT) : Bool := rigB s.1 && (scB s.2.1 && (wdB s.2.2.1 && wi s.2.2.2.1 0 64))
theorem showI_is (s : ShowT) (h : ShowOK s) : G12 (s, ()) = some (showB s, ()) := by
  unfold G12 F12 showB
  dsimp only
  rw [rigI_is s.1 h.rig h.devs]
  simp only [Option.bind_some]
  cases rigB s.1
  · rfl
  · simp only [cond_true, Bool.true_and]
    rw [scI_is s.2.1 h.names h.score]
    simp only [Option.bind_some]
    cases scB s.2.1
    · rfl
    · simp only [cond_true, Bool.true_and]
      rw [wdI_is s.2.2.1 h.wind]
      simp only [Option.bind_some]
      cases wdB s.2.2.1
      · rfl
      · simp only [cond_true, Bool.true_and]
        rw [show G42 (s.2.2.2.1, 0, 64, ()) = some (wi s.2.2.2.1 0 64, ()) from within_is _ _ _]; rfl
theorem showS_is (s : ShowT) (h : ShowOK s) : G16 (s, ()) = some (showB s, ()) := by
  unfold G16 F16 showB
  dsimp only
  rw [rigS_is s.1 h.rig h.devs]
  simp only [Option.bind_some]
  cases rigB s.1
  · rfl
  · simp only [cond_true, Bool.true_and]
    rw [scS_is s.2.1 h.names h.score]
    simp only [Option.bind_some]
    cases scB s.2.1
    · rfl
    · simp only [cond_true, Bool.true_and]
      rw [wdS_is s.2.2.1 h.wind]
      simp only [Option.bind_some]
      cases wdB s.2.2.1
      · rfl
      · simp only [cond_true, Bool.true_and]
        rw [show G52 (s.2.2.2.1, 0, 64, ()) = some (wi s.2.2.2.1 0 64, ()) from in_is _ _ _]; rfl
structure ShowV (s : ShowT) : Prop where
  ok : ShowOK s
  rig : RigP s.1
  score : scB s.2.1 = true
  wind : wdB s.2.2.1 = true
  tick : 0 ≤ s.2.2.2.1 ∧ s.2.2.2.1 ≤ 64
theorem showV_of {s : ShowT} (h : ShowOK s) (hb : showB s = true) : ShowV s := by
  unfold showB at hb
  simp only [Bool.and_eq_true] at hb
  exact ⟨h, (rigB_iff _).1 hb.1, hb.2.1, hb.2.2.1, wi_true.1 hb.2.2.2⟩
theorem showB_of {s : ShowT} (h : ShowV s) : showB s = true := by
  unfold showB
  rw [(rigB_iff _).2 h.rig, h.score, h.wind, wi_of h.tick.1 h.tick.2]; rfl
/-! ### Levels -/
theorem lev_eq {l : List Cue} (hn : NamesOK l) (hl : l.length ≤ 1048576) (hv : scB l = true) (name : Str) {t : Int} (ht : 0 ≤ t) : G148 (l, name, t, ()) = G127 (l, name, t, ()) := by
  unfold G148 F148 G127 F127
  dsimp only
  rw [scI_is l hn hl, hv]
  simp only [Option.bind_some, Bool.not_true, Bool.not_false, cond_true]
  rw [cond_false_dec (by omega)]
  have e : s148_0 G179 = s127_0 G40 G167 := by
    have : G179 = G167 := ramp_same
    rw [this]; rfl
  have e2 : G179 = G167 := ramp_same
  rw [e, e2]
noncomputable def lvl (l : List Cue) (name : Str) (t : Int) : Int := ((G127 (l, name, t, ())).map fun x => x.1).getD 0
theorem lvlI_is {l : List Cue} (hn : NamesOK l) (hl : l.length ≤ 1048576) (name : Str) (t : Int) : G127 (l, name, t, ()) = some (lvl l name t, ()) := by
  obtain ⟨v, h⟩ := lev_some l hn hl name t
  have h : G127 (l, name, t, ()) = some (v, ()) := h
  unfold lvl; rw [h]; rfl
theorem lvlS_is {l : List Cue} (hn : NamesOK l) (hl : l.length ≤ 1048576) (hv : scB l = true) (name : Str) {t : Int} (ht : 0 ≤ t) : G148 (l, name, t, ()) = some (lvl l name t, ()) := (lev_eq hn hl hv name ht).trans (lvlI_is hn hl name t)
/-! ### Who hangs on a line -/
def pickB (f : Device → Bool) (r : List Device) (i : Nat) : Bool := match r[i]? with
  | some d => f d
  | none => false
def pickL (f : Device → Bool) (r : List Device) (n : Nat) : List Nat := (List.range n).filter (pickB f r)
theorem pickL_succ (f : Device → Bool) (r : List Device) (i : Nat) (h : i < r.length) : pickL f r (i + 1) = pickL f r i ++ (if f r[i] = true then [i] else []) := by
  unfold pickL
  rw [List.range_succ, List.filter_append]
  congr 1
  have hx : r[i]? = some r[i] := by simp
  simp only [List.filter_cons, List.filter_nil, pickB, hx]
theorem pickL_mem {f : Device → Bool} {r : List Device} {n i : Nat} (h : i ∈ pickL f r n) : ∃ d, r[i]? = some d ∧ f d = true := by
  unfold pickL at h
  have h := (List.mem_filter.mp h).2
  unfold pickB at h
  cases hd : r[i]? with
  | none => rw [hd] at h; cases h
  | some d => rw [hd] at h; exact ⟨d, rfl, h⟩
theorem pickL_len (f : Device → Bool) (r : List Device) (n : Nat) : (pickL f r n).length ≤ n := by
  unfold pickL
  exact Nat.le_trans (List.length_filter_le _ _) (by simp)
theorem pickL_congr {f g : Device → Bool} {r : List Device} (h : ∀ d ∈ r, f d = g d) (n : Nat) : pickL f r n = pickL g r n := by
  unfold pickL
  refine List.filter_congr fun i _ => ?_
  unfold pickB
  cases hd : r[i]? with
  | none => rfl
  | some d => exact h d (List.mem_iff_getElem?.mpr ⟨i, hd⟩)
theorem pickL_nil {f : Device → Bool} {r : List Device} (h : ∀ d ∈ r, f d = false) (n : Nat) : pickL f r n = [] := by
  rw [pickL_congr h n]
  unfold pickL
  rw [List.filter_eq_nil_iff]
  intro i _
  unfold pickB
  cases r[i]? <;> simp
/-- What a device asks for. -/
noncomputable def dem (sc : List Cue) (t : Int) (d : Device) : Int := mn (lvl sc d.Name t) d.Most
noncomputable def demAt (sc : List Cue) (t : Int) (r : List Device) (i : Nat) : Int := ((r[i]?).map (dem sc t)).getD 0
theorem demAt_is {sc : List Cue} {t : Int} {r : List Device} {i : Nat} {d : Device} (h : r[i]? = some d) : demAt sc t r i = dem sc t d := by
  unfold demAt; rw [h]; rfl
def onI (p : Device) (d : Device) : Bool := decide (d.Line = p.Name)
def onS (p : Device) (b : Bool) (d : Device) : Bool := decide (d.Kind = 2) && (decide (d.Line = p.Name) && b)
section
variable {s : ShowT} (h : ShowV s) (t : Int)
include h
theorem pickS_is (p : Device) (out : List Int) (rng : List Device) (n i0 : Int) (ht : wi t 0 (w64 (s.2.2.2.1 - 1)) = true → 0 ≤ t) (K : Int × (List Device × List Cue × List Gust × Int × Unit) × List Int × Device × List Int × List Int × List Device × Int × Int × List Device × Int × Int × Unit → Option (List Int × Unit)) :
    iterF (s107_2 G52 G148 G78 G149) fuel (t, s, out, p, ([] : List Int), ([] : List Int), rng, n, i0, s.1, Int.ofNat s.1.length, 0, ()) K =
      K (t, s, out, p, (pickL (onS p (wi t 0 (w64 (s.2.2.2.1 - 1)))) s.1 s.1.length).map (demAt s.2.1 t s.1), (pickL (onS p (wi t 0 (w64 (s.2.2.2.1 - 1)))) s.1 s.1.length).map Int.ofNat, rng, n, i0, s.1, Int.ofNat s.1.length, Int.ofNat s.1.length, ()) := by
  have hlen := h.rig.len
  refine iterF_for (f := s107_2 G52 G148 G78 G149) (K := K) (fun i => (t, s, out, p, (pickL (onS p (wi t 0 (w64 (s.2.2.2.1 - 1)))) s.1 i).map (demAt s.2.1 t s.1), (pickL (onS p (wi t 0 (w64 (s.2.2.2.1 - 1)))) s.1 i).map Int.ofNat, rng, n, i0, s.1, Int.ofNat s.1.length, (i : Int), ())) s.1.length (by omega) ?_ ?_
  · intro i hi rec K
    have hx : s.1[i]? = some s.1[i] := by simp
    have e1 : w64 ((i : Int) + 1) = ((i + 1 : Nat) : Int) := w64_id (by omega) (by omega)
    have hl1 := pickL_len (onS p (wi t 0 (w64 (s.2.2.2.1 - 1)))) s.1 i
    rw [pickL_succ _ _ i hi]
    simp only [s107_2]
    rw [cond_true_dec (by simp; omega), rdL_at hx, e1, show G52 (t, 0, w64 (s.2.2.2.1 - 1), ()) = some (wi t 0 (w64 (s.2.2.2.1 - 1)), ()) from in_is _ _ _]
    simp only [Option.bind_some]
    by_cases k2 : s.1[i].Kind = 2
    · rw [cond_true_dec k2]
      by_cases kl : s.1[i].Line = p.Name
      · rw [cond_true_dec kl]
        cases hw : wi t 0 (w64 (s.2.2.2.1 - 1))
        · rw [if_neg (by simp [onS])]
          simp
        · rw [if_pos (by simp [onS, k2, kl]), lvlS_is h.ok.names h.ok.score h.score _ (ht hw)]
          simp only [Option.bind_some, cond_true]
          rw [show G78 (lvl s.2.1 s.1[i].Name t, s.1[i].Most, ()) = some (mn (lvl s.2.1 s.1[i].Name t) s.1[i].Most, ()) from min_is _ _]
          simp only [Option.bind_some]
          rw [hw] at hl1
          rw [capK_le (by simp; omega), capK_le (by simp; omega), List.map_append, List.map_append]
          simp only [List.map_cons, List.map_nil, demAt_is hx]
          rfl
      · rw [cond_false_dec kl, if_neg (by simp [onS, kl])]
        simp
    · rw [cond_false_dec k2, if_neg (by simp [onS, k2])]
      simp
  · intro rec K
    simp only [s107_2]
    rw [cond_false_dec (by simp)]
theorem pickI_is (p : Device) (out : List Int) (rng : List Device) (n i0 : Int) (K : Int × (List Device × List Cue × List Gust × Int × Unit) × List Int × Device × List Int × List Int × List Device × Int × Int × List Device × Int × Int × Unit → Option (List Int × Unit)) :
    iterF (s80_2 G12 G42 G127 G128) fuel (t, s, out, p, ([] : List Int), ([] : List Int), rng, n, i0, s.1, Int.ofNat s.1.length, 0, ()) K =
      K (t, s, out, p, (pickL (onI p) s.1 s.1.length).map Int.ofNat, (pickL (onI p) s.1 s.1.length).map (demAt s.2.1 t s.1), rng, n, i0, s.1, Int.ofNat s.1.length, Int.ofNat s.1.length, ()) := by
  have hlen := h.rig.len
  refine iterF_for (f := s80_2 G12 G42 G127 G128) (K := K) (fun i => (t, s, out, p, (pickL (onI p) s.1 i).map Int.ofNat, (pickL (onI p) s.1 i).map (demAt s.2.1 t s.1), rng, n, i0, s.1, Int.ofNat s.1.length, (i : Int), ())) s.1.length (by omega) ?_ ?_
  · intro i hi rec K
    have hx : s.1[i]? = some s.1[i] := by simp
    have e1 : w64 ((i : Int) + 1) = ((i + 1 : Nat) : Int) := w64_id (by omega) (by omega)
    have hl1 := pickL_len (onI p) s.1 i
    rw [pickL_succ _ _ i hi]
    simp only [s80_2]
    rw [cond_true_dec (by simp; omega), rdL_at hx, e1]
    by_cases kl : s.1[i].Line = p.Name
    · rw [cond_true_dec kl, if_pos (by simp [onI, kl]), capK_le (by simp; omega), lvlI_is h.ok.names h.ok.score]
      simp only [Option.bind_some]
      rw [capK_le (by simp; omega), List.map_append, List.map_append]
      simp only [List.map_cons, List.map_nil, demAt_is hx]
      rfl
    · rw [cond_false_dec kl, if_neg (by simp [onI, kl])]
      simp
  · intro rec K
    simp only [s80_2]
    rw [cond_false_dec (by simp)]
end
/-! ### What each gets -/
def asg (out : List Int) (ws : List Nat) (xs : List Int) : List Int := (ws.zip xs).foldl (fun o p => o.set p.1 p.2) out
theorem asg_snoc (out : List Int) (ws : List Nat) (xs : List Int) (w : Nat) (x : Int) (h : ws.length = xs.length) : asg out (ws ++ [w]) (xs ++ [x]) = (asg out ws xs).set w x := by
  unfold asg
  rw [List.zip_append h, List.foldl_append]; rfl
theorem foldset_len : ∀ (ps : List (Nat × Int)) (out : List Int), (ps.foldl (fun o p => o.set p.1 p.2) out).length = out.length
  | [], out => rfl
  | p :: ps, out => by rw [List.foldl_cons, foldset_len ps]; simp
theorem asg_len (out : List Int) (ws : List Nat) (xs : List Int) : (asg out ws xs).length = out.length := foldset_len _ _
theorem asg_nil (out : List Int) (xs : List Int) : asg out [] xs = out := by simp [asg]
theorem asg_nil' (out : List Int) (ws : List Nat) : asg out ws [] = out := by simp [asg]
theorem foldset_at : ∀ (ps : List (Nat × Int)) (out : List Int) (i : Nat) (x : Int), (ps.foldl (fun o p => o.set p.1 p.2) out)[i]? = some x → out[i]? = some x ∨ (i, x) ∈ ps
  | [], out, i, x, h => .inl h
  | p :: ps, out, i, x, h => by
    rw [List.foldl_cons] at h
    rcases foldset_at ps _ i x h with h | h
    · rw [List.getElem?_set] at h
      by_cases hp : p.1 = i
      · rw [if_pos hp] at h
        by_cases hl : p.1 < out.length
        · rw [if_pos (by omega)] at h
          cases h
          exact .inr (by rw [← hp]; simp)
        · rw [if_neg (by omega)] at h; cases h
      · rw [if_neg hp] at h; exact .inl h
    · exact .inr (by simp [h])
theorem asg_at {out : List Int} {ws : List Nat} {xs : List Int} {i : Nat} {x : Int} (h : (asg out ws xs)[i]? = some x) : out[i]? = some x ∨ ∃ k : Nat, ws[k]? = some i ∧ xs[k]? = some x := by
  rcases foldset_at _ _ i x h with h | h
  · exact .inl h
  · obtain ⟨k, hk⟩ := List.mem_iff_getElem?.mp h
    rw [List.getElem?_zip_eq_some] at hk
    exact .inr ⟨k, hk⟩
theorem asg_loop (s : ShowT) (t : Int) (out : List Int) (ws : List Nat) (rng : List Device) (n i0 : Int) (R : List Int) (hR : R.length ≤ ws.length) (hw : ∀ w ∈ ws, w < out.length) (hl : ws.length ≤ 1048576) (K : Int × (List Device × List Cue × List Gust × Int × Unit) × List Int × List Int × List Device × Int × Int × List Int × Int × Int × Unit → Option (List Int × Unit)) :
    iterF (s80_4 G12 G42 G127 G128) fuel (t, s, out, ws.map Int.ofNat, rng, n, i0, R, Int.ofNat R.length, 0, ()) K =
      K (t, s, asg out ws R, ws.map Int.ofNat, rng, n, i0, R, Int.ofNat R.length, Int.ofNat R.length, ()) := by
  have e := iterF_for (f := s80_4 G12 G42 G127 G128) (K := K) (fun k => (t, s, asg out (ws.take k) (R.take k), ws.map Int.ofNat, rng, n, i0, R, Int.ofNat R.length, (k : Int), ())) R.length (by omega)
    (by
      intro k hk rec K
      have hx : R[k]? = some R[k] := by simp
      have hkw : k < ws.length := by omega
      have hy : (ws.map Int.ofNat)[k]? = some ((ws[k] : Nat) : Int) := by rw [List.getElem?_map, List.getElem?_eq_getElem hkw]; rfl
      have e1 : w64 ((k : Int) + 1) = ((k + 1 : Nat) : Int) := w64_id (by omega) (by omega)
      have hlt : ws[k] < (asg out (ws.take k) (R.take k)).length := by rw [asg_len]; exact hw _ (by simp)
      have hz : (asg out (ws.take k) (R.take k))[ws[k]]? = some (asg out (ws.take k) (R.take k))[ws[k]] := by simp
      have hx' := fun (K : Int → Option (List Int × Unit)) => rdL_at (K := K) hx
      have hy' := fun (K : Int → Option (List Int × Unit)) => rdL_at (K := K) hy
      have hz' := fun (K : Int → Option (List Int × Unit)) => rdL_at (K := K) hz
      rw [take_snocG ws k hkw, take_snocG R k hk, asg_snoc _ _ _ _ _ (by simp; omega)]
      simp only [s80_4]
      rw [cond_true_dec (by simp; omega)]
      simp only [hx', hx, hy', hy, hz', hz, Int.toNat_natCast, Option.bind_some, e1])
    (by
      intro rec K
      simp only [s80_4]
      rw [cond_false_dec (by simp)])
  have e0 : asg out (ws.take 0) (R.take 0) = out := by simp [asg]
  have e2 : asg out (ws.take R.length) (R.take R.length) = asg out ws R := by
    unfold asg
    rw [List.take_length]
    congr 1
    conv => rhs; rw [List.zip_eq_zip_take_min]
    rw [Nat.min_eq_right hR, List.take_length]
  simp only [e2] at e
  rw [e0] at e
  exact e
noncomputable def shr (m : Int) (l : List Int) : List Int := ((G128 (m, l, ())).map fun x => x.1).getD []
theorem shr_is (m : Int) (l : List Int) (hl : l.length ≤ 1048576) : G149 (m, l, ()) = some (shr m l, ()) ∧ G128 (m, l, ()) = some (shr m l, ()) ∧ ((shr m l = [] ∧ (demB l && wi m 0 512) = false) ∨ ((demB l && wi m 0 512) = true ∧ SharesP m l (shr m l))) := by
  obtain ⟨R, h1, h2, h3⟩ := share_ok m l hl
  have : shr m l = R := by unfold shr; rw [h2]; rfl
  rw [this]
  exact ⟨h1, h2, h3⟩
theorem shr_len (m : Int) (l : List Int) (hl : l.length ≤ 1048576) : (shr m l).length ≤ l.length := by
  obtain ⟨_, _, ⟨e, _⟩ | ⟨_, h⟩⟩ := shr_is m l hl
  · rw [e]; simp
  · rw [h.len]; exact Nat.le_refl _
noncomputable def wantL (s : ShowT) (t : Int) (p : Device) : List Int := (pickL (onI p) s.1 s.1.length).map (demAt s.2.1 t s.1)
noncomputable def stepL (s : ShowT) (t : Int) (out : List Int) (p : Device) : List Int := if p.Kind = 1 then asg out (pickL (onI p) s.1 s.1.length) (shr p.Most (wantL s t p)) else out
noncomputable def liftsN (s : ShowT) (t : Int) (i : Nat) : List Int := (s.1.take i).foldl (stepL s t) (List.replicate s.1.length 0)
noncomputable def liftsL (s : ShowT) (t : Int) : List Int := if wi t 0 (s.2.2.2.1 - 1) = true then liftsN s t s.1.length else List.replicate s.1.length 0
theorem stepL_len (s : ShowT) (t : Int) (out : List Int) (p : Device) : (stepL s t out p).length = out.length := by
  unfold stepL; split
  · exact asg_len _ _ _
  · rfl
theorem liftsN_succ (s : ShowT) (t : Int) (i : Nat) (h : i < s.1.length) : liftsN s t (i + 1) = stepL s t (liftsN s t i) s.1[i] := by
  unfold liftsN
  rw [take_snocG s.1 i h, List.foldl_append]; rfl
theorem liftsN_len (s : ShowT) (t : Int) : ∀ i, i ≤ s.1.length → (liftsN s t i).length = s.1.length
  | 0, _ => by simp [liftsN]
  | i + 1, h => by rw [liftsN_succ s t i h, stepL_len, liftsN_len s t i (by omega)]
theorem liftsL_len (s : ShowT) (t : Int) : (liftsL s t).length = s.1.length := by
  unfold liftsL; split
  · exact liftsN_len s t _ (Nat.le_refl _)
  · simp
theorem pickL_lt {f : Device → Bool} {r : List Device} {n : Nat} : ∀ w ∈ pickL f r n, w < r.length := fun w hw => by
  obtain ⟨d, hd, _⟩ := pickL_mem hw
  exact (List.getElem?_eq_some_iff.mp hd).1
/-- Who hangs on whom. -/
theorem name_pos {d : Device} (h : devB d = true) : 1 ≤ d.Name.length := by
  unfold devB isNm at h
  simp only [Bool.and_eq_true] at h
  have := (wi_true.1 h.1.2).1
  simp at this; omega
theorem pump_line {d : Device} (h : devB d = true) (hk : d.Kind = 1) : d.Line = [] := by
  unfold devB at h
  rw [if_pos hk] at h
  simp only [Bool.and_eq_true, decide_eq_true_eq] at h
  exact h.2.1
theorem on_kind {r : List Device} (h : RigP r) {p d : Device} (hp : p ∈ r) (hd : d ∈ r) (hl : d.Line = p.Name) : p.Kind = d.Kind - 1 ∧ d.Kind ≠ 1 := by
  have hk : d.Kind ≠ 1 := fun hk => by
    have h1 := pump_line (h.dev d hd) hk
    have h2 := name_pos (h.dev p hp)
    rw [← hl, h1] at h2
    simp at h2
  obtain ⟨k, x, _, h1, h2, h3⟩ := rig_line h hd hk
  obtain ⟨j, hj⟩ := List.mem_iff_getElem?.mp hp
  have : k = j := rig_uniq h h1 hj (h2.trans hl)
  subst this
  rw [hj] at h1
  cases h1
  exact ⟨h3, hk⟩
section
variable {s : ShowT} (h : ShowV s) (t : Int)
include h
theorem wantL_len (p : Device) : (wantL s t p).length ≤ 8 := by
  have := pickL_len (onI p) s.1 s.1.length
  have := h.rig.len
  simp [wantL]; omega
theorem liftsI_is : G80 (s, t, ()) = some (liftsL s t, ()) := by
  have hlen := h.rig.len
  have es : (s.1, s.2.1, s.2.2.1, s.2.2.2.1, ()) = s := rfl
  have ew : w64 (s.2.2.2.1 - 1) = s.2.2.2.1 - 1 := w64_id (by have := h.tick; omega) (by have := h.tick; omega)
  unfold G80 F80 liftsL
  dsimp only
  simp only [es]
  rw [showI_is s h.ok, showB_of h]
  simp only [Option.bind_some, Bool.not_true, cond_false]
  rw [okIf_pos (by simp), capK_le (by simp; omega), ew, show G42 (t, 0, s.2.2.2.1 - 1, ()) = some (wi t 0 (s.2.2.2.1 - 1), ()) from within_is _ _ _]
  simp only [Option.bind_some]
  have ez : List.replicate (Int.toNat (Int.ofNat s.1.length)) (Ty.zero .int) = List.replicate s.1.length (0 : Int) := rfl
  rw [ez]
  cases hw : wi t 0 (s.2.2.2.1 - 1)
  · rfl
  · simp only [Bool.not_true, cond_false, if_true]
    refine (iterF_for (f := s80_0 G12 G42 G127 G128) (K := fun t15 => some (t15.2.2.1, ())) (fun i => (t, s, liftsN s t i, s.1, Int.ofNat s.1.length, (i : Int), ())) s.1.length (by omega) ?_ ?_)
    · intro i hi rec K
      have hx : s.1[i]? = some s.1[i] := by simp
      have e1 : w64 ((i : Int) + 1) = ((i + 1 : Nat) : Int) := w64_id (by omega) (by omega)
      rw [liftsN_succ s t i hi]
      unfold stepL
      simp only [s80_0, es]
      rw [cond_true_dec (by simp; omega), rdL_at hx]
      by_cases k1 : s.1[i].Kind = 1
      · rw [decide_eq_true k1, if_pos k1]
        simp only [Bool.not_true, cond_false]
        rw [pickI_is h]
        simp only [es]
        have hq := shr_is s.1[i].Most (wantL s t s.1[i]) (by have := wantL_len h t s.1[i]; omega)
        have hq2 := hq.2.1
        unfold wantL at hq2
        rw [hq2]
        simp only [Option.bind_some]
        rw [asg_loop _ _ _ _ _ _ _ _ (by have := shr_len s.1[i].Most (wantL s t s.1[i]) (by have := wantL_len h t s.1[i]; omega); simpa [wantL] using this) (by rw [liftsN_len s t i (by omega)]; exact pickL_lt) (by have := pickL_len (onI s.1[i]) s.1 s.1.length; omega)]
        simp only [es, e1]
        rfl
      · rw [decide_eq_false k1, if_neg k1]
        simp only [Bool.not_false, cond_true, e1]
    · intro rec K
      simp only [s80_0]
      rw [cond_false_dec (by simp)]
theorem liftsS_is : G107 (s, t, ()) = some (liftsL s t, ()) := by
  have hlen := h.rig.len
  have es : (s.1, s.2.1, s.2.2.1, s.2.2.2.1, ()) = s := rfl
  have ew : w64 (s.2.2.2.1 - 1) = s.2.2.2.1 - 1 := w64_id (by have := h.tick; omega) (by have := h.tick; omega)
  unfold G107 F107
  dsimp only
  simp only [es]
  rw [okIf_pos (by simp), capK_le (by simp; omega)]
  have ez : List.replicate (Int.toNat (Int.ofNat s.1.length)) (Ty.zero .int) = List.replicate s.1.length (0 : Int) := rfl
  have e0 : List.replicate s.1.length (0 : Int) = if wi t 0 (s.2.2.2.1 - 1) = true then liftsN s t 0 else List.replicate s.1.length 0 := by split <;> rfl
  rw [ez, e0]
  refine (iterF_for (f := s107_0 G52 G148 G78 G149) (K := fun t15 => some (t15.2.2.1, ())) (fun i => (t, s, if wi t 0 (s.2.2.2.1 - 1) = true then liftsN s t i else List.replicate s.1.length 0, s.1, Int.ofNat s.1.length, (i : Int), ())) s.1.length (by omega) ?_ ?_).trans ?_
  · intro i hi rec K
    have hx : s.1[i]? = some s.1[i] := by simp
    have hm : s.1[i] ∈ s.1 := by simp
    have e1 : w64 ((i : Int) + 1) = ((i + 1 : Nat) : Int) := w64_id (by omega) (by omega)
    rw [liftsN_succ s t i hi]
    unfold stepL
    simp only [s107_0, es]
    rw [cond_true_dec (by simp; omega), rdL_at hx, pickS_is h t _ _ _ _ _ (fun hw => (wi_true.1 hw).1), ew]
    simp only [es]
    cases hw : wi t 0 (s.2.2.2.1 - 1)
    · have en : pickL (onS s.1[i] false) s.1 s.1.length = [] := pickL_nil (fun d _ => by simp [onS]) _
      rw [en]
      simp only [List.map_nil, List.length_nil]
      rw [cond_false_dec (by simp), e1]
      rfl
    · simp only [if_true]
      by_cases k1 : s.1[i].Kind = 1
      · have ec : pickL (onS s.1[i] true) s.1 s.1.length = pickL (onI s.1[i]) s.1 s.1.length := pickL_congr (fun d hd => by
          unfold onS onI
          by_cases hl : d.Line = s.1[i].Name
          · have := (on_kind h.rig hm hd hl).1
            rw [decide_eq_true hl, decide_eq_true (show d.Kind = 2 by omega)]; rfl
          · rw [decide_eq_false hl]; simp) _
        rw [ec, if_pos k1]
        by_cases hz : pickL (onI s.1[i]) s.1 s.1.length = []
        · rw [hz]
          simp only [List.map_nil, List.length_nil]
          rw [cond_false_dec (by simp), e1, asg_nil]
        · rw [cond_true_dec (by simp [List.length_pos_iff, hz])]
          have hq := shr_is s.1[i].Most (wantL s t s.1[i]) (by have := wantL_len h t s.1[i]; omega)
          have hq1 := hq.1
          unfold wantL at hq1
          rw [hq1]
          simp only [Option.bind_some]
          have e4 : s107_4 G52 G148 G78 G149 = s80_4 G12 G42 G127 G128 := rfl
          rw [e4]
          rw [asg_loop _ _ _ _ _ _ _ _ (by have := shr_len s.1[i].Most (wantL s t s.1[i]) (by have := wantL_len h t s.1[i]; omega); simpa [wantL] using this) (by rw [liftsN_len s t i (by omega)]; exact pickL_lt) (by have := pickL_len (onI s.1[i]) s.1 s.1.length; omega)]
          simp only [es, e1]
          rfl
      · have en : pickL (onS s.1[i] true) s.1 s.1.length = [] := pickL_nil (fun d hd => by
          unfold onS
          by_cases hl : d.Line = s.1[i].Name
          · have := (on_kind h.rig hm hd hl).1
            rw [decide_eq_false (show ¬ d.Kind = 2 by omega)]; rfl
          · rw [decide_eq_false hl]; simp) _
        rw [en, if_neg k1]
        simp only [List.map_nil, List.length_nil]
        rw [cond_false_dec (by simp), e1]
  · intro rec K
    simp only [s107_0]
    rw [cond_false_dec (by simp)]
  · rfl
/-- Only nozzles have lifts, and none above what it throws at most. -/
theorem liftsN_at : ∀ (n : Nat), n ≤ s.1.length → ∀ (i : Nat) (x : Int) (d : Device), (liftsN s t n)[i]? = some x → s.1[i]? = some d → x = 0 ∨ (d.Kind = 2 ∧ 0 ≤ x ∧ x ≤ d.Most)
  | 0, _, i, x, d, hx, hd => by
    unfold liftsN at hx
    simp only [List.take_zero, List.foldl_nil] at hx
    rw [List.getElem?_replicate] at hx
    split at hx
    · cases hx; exact .inl rfl
    · cases hx
  | n + 1, hn, i, x, d, hx, hd => by
    rw [liftsN_succ s t n hn] at hx
    unfold stepL at hx
    by_cases k1 : s.1[n].Kind = 1
    · rw [if_pos k1] at hx
      rcases asg_at hx with hx | ⟨k, h1, h2⟩
      · exact liftsN_at n (by omega) i x d hx hd
      · right
        obtain ⟨e, he, hon⟩ := pickL_mem (List.mem_iff_getElem?.mpr ⟨k, h1⟩)
        rw [hd] at he; cases he
        have hl : d.Line = s.1[n].Name := by simpa [onI] using hon
        have hk := (on_kind h.rig (by simp : s.1[n] ∈ s.1) (List.mem_iff_getElem?.mpr ⟨i, hd⟩) hl).1
        have hw : (wantL s t s.1[n])[k]? = some (dem s.2.1 t d) := by
          unfold wantL
          rw [List.getElem?_map, h1]
          simp [demAt_is hd]
        obtain ⟨_, _, ⟨e, _⟩ | ⟨hb, hS⟩⟩ := shr_is s.1[n].Most (wantL s t s.1[n]) (by have := wantL_len h t s.1[n]; omega)
        · rw [e] at h2; simp at h2
        · have := shares_le hS (by revert hb; cases demB (wantL s t s.1[n]) <;> simp) h2 hw
          have hm := mn_le (lvl s.2.1 d.Name t) d.Most
          unfold dem at this
          exact ⟨by omega, by omega, by omega⟩
    · rw [if_neg k1] at hx
      exact liftsN_at n (by omega) i x d hx hd
theorem liftsL_at {i : Nat} {x : Int} {d : Device} (hx : (liftsL s t)[i]? = some x) (hd : s.1[i]? = some d) : x = 0 ∨ (d.Kind = 2 ∧ 0 ≤ x ∧ x ≤ d.Most) := by
  unfold liftsL at hx
  split at hx
  · exact liftsN_at h t _ (Nat.le_refl _) i x d hx hd
  · rw [List.getElem?_replicate] at hx
    split at hx
    · cases hx; exact .inl rfl
    · cases hx
end
end Ev

namespace Ev
open Go
noncomputable def thr1 (s : ShowT) (t : Int) (i : Nat) : List Throw := match s.1[i]?, (liftsL s t)[i]? with
  | some d, some x => if x > 0 then [⟨d.Name, t, ⟨⟨d.At.X, d.At.Y⟩, d.Heading, d.Tilt, x⟩⟩] else []
  | _, _ => []
noncomputable def thrN (s : ShowT) (t : Int) (n : Nat) : List Throw := (List.range n).flatMap (thr1 s t)
noncomputable def thrAll (s : ShowT) (n : Nat) : List Throw := (List.range n).flatMap fun (t : Nat) => thrN s (t : Int) s.1.length
theorem thrN_succ (s : ShowT) (t : Int) (n : Nat) : thrN s t (n + 1) = thrN s t n ++ thr1 s t n := by
  unfold thrN; rw [List.range_succ, List.flatMap_append]; simp
theorem thrAll_succ (s : ShowT) (n : Nat) : thrAll s (n + 1) = thrAll s n ++ thrN s (n : Int) s.1.length := by
  unfold thrAll; rw [List.range_succ, List.flatMap_append]; simp
theorem thr1_len (s : ShowT) (t : Int) (i : Nat) : (thr1 s t i).length ≤ 1 := by
  unfold thr1
  split
  · split <;> simp
  · simp
theorem thrN_len (s : ShowT) (t : Int) : ∀ n, (thrN s t n).length ≤ n
  | 0 => by simp [thrN]
  | n + 1 => by
    have := thrN_len s t n
    have := thr1_len s t n
    rw [thrN_succ]; simp; omega
theorem thrAll_len (s : ShowT) (h : s.1.length ≤ 8) : ∀ n, (thrAll s n).length ≤ 8 * n
  | 0 => by simp [thrAll]
  | n + 1 => by
    have := thrAll_len s h n
    have := thrN_len s (n : Int) s.1.length
    rw [thrAll_succ]; simp; omega
section
variable {s : ShowT} (h : ShowV s)
include h
theorem roundS (t : Int) (acc : List Throw) (ha : acc.length ≤ 1048576) (K : (List Device × List Cue × List Gust × Int × Unit) × List Throw × Int × List Int × Int × Int × Unit → Option (List Throw × Unit)) :
    iterF (s61_2 G107 G108) fuel (s, acc, t, liftsL s t, Int.ofNat (liftsL s t).length, 0, ()) K = K (s, acc ++ thrN s t s.1.length, t, liftsL s t, Int.ofNat (liftsL s t).length, Int.ofNat (liftsL s t).length, ()) := by
  have es : (s.1, s.2.1, s.2.2.1, s.2.2.2.1, ()) = s := rfl
  have hlen := h.rig.len
  have hL := liftsL_len s t
  have e0 : acc = acc ++ thrN s t 0 := by simp [thrN]
  rw [hL]
  conv => lhs; rw [e0]
  refine iterF_for (f := s61_2 G107 G108) (K := K) (fun i => (s, acc ++ thrN s t i, t, liftsL s t, Int.ofNat s.1.length, (i : Int), ())) s.1.length (by omega) ?_ ?_
  · intro i hi rec K
    have hx : s.1[i]? = some s.1[i] := by simp
    have hy : (liftsL s t)[i]? = some (liftsL s t)[i] := by simp
    have e1 : w64 ((i : Int) + 1) = ((i + 1 : Nat) : Int) := w64_id (by omega) (by omega)
    have hn := thrN_len s t i
    have hx' := fun (K : Device → Option (List Throw × Unit)) => rdL_at (K := K) hx
    have hy' := fun (K : Int → Option (List Throw × Unit)) => rdL_at (K := K) hy
    have ej : ∀ x : Int, G108 (s.1[i], x, ()) = some ((⟨⟨s.1[i].At.X, s.1[i].At.Y⟩, s.1[i].Heading, s.1[i].Tilt, x⟩ : Jet), ()) := fun x => rfl
    rw [thrN_succ]
    unfold thr1
    rw [hx, hy]
    simp only [s61_2]
    rw [cond_true_dec (by simp; omega)]
    simp only [hx', hx, hy', hy, Int.toNat_natCast, Option.bind_some, e1, ej, es]
    by_cases hc : (liftsL s t)[i] > 0
    · rw [cond_true_dec hc, if_pos hc, capK_le (by simp; omega), List.append_assoc]
    · rw [cond_false_dec hc, if_neg hc, List.append_nil]
  · intro rec K
    simp only [s61_2]
    rw [cond_false_dec (by simp)]
theorem roundI (t n i0 : Int) (acc : List Throw) (ha : acc.length ≤ 1048576) (K : (List Device × List Cue × List Gust × Int × Unit) × List Throw × Int × Int × Int × List Int × Int × Int × Unit → Option (List Throw × Unit)) :
    iterF (s36_2 G12 G80) fuel (s, acc, t, n, i0, liftsL s t, Int.ofNat (liftsL s t).length, 0, ()) K = K (s, acc ++ thrN s t s.1.length, t, n, i0, liftsL s t, Int.ofNat (liftsL s t).length, Int.ofNat (liftsL s t).length, ()) := by
  have es : (s.1, s.2.1, s.2.2.1, s.2.2.2.1, ()) = s := rfl
  have hlen := h.rig.len
  have hL := liftsL_len s t
  have e0 : acc = acc ++ thrN s t 0 := by simp [thrN]
  rw [hL]
  conv => lhs; rw [e0]
  refine iterF_for (f := s36_2 G12 G80) (K := K) (fun i => (s, acc ++ thrN s t i, t, n, i0, liftsL s t, Int.ofNat s.1.length, (i : Int), ())) s.1.length (by omega) ?_ ?_
  · intro i hi rec K
    have hx : s.1[i]? = some s.1[i] := by simp
    have hy : (liftsL s t)[i]? = some (liftsL s t)[i] := by simp
    have e1 : w64 ((i : Int) + 1) = ((i + 1 : Nat) : Int) := w64_id (by omega) (by omega)
    have hn := thrN_len s t i
    have hx' := fun (K : Device → Option (List Throw × Unit)) => rdL_at (K := K) hx
    have hy' := fun (K : Int → Option (List Throw × Unit)) => rdL_at (K := K) hy
    rw [thrN_succ]
    unfold thr1
    rw [hx, hy]
    simp only [s36_2]
    rw [cond_true_dec (by simp; omega)]
    simp only [hx', hx, hy', hy, Int.toNat_natCast, Option.bind_some, e1, es]
    by_cases hc : (liftsL s t)[i] > 0
    · rw [cond_true_dec hc, if_pos hc, capK_le (by simp; omega), List.append_assoc]
    · rw [cond_false_dec hc, if_neg hc, List.append_nil]
  · intro rec K
    simp only [s36_2]
    rw [cond_false_dec (by simp)]
theorem tick_nat : ∃ n : Nat, s.2.2.2.1 = (n : Int) ∧ n ≤ 64 := by
  have := h.tick
  exact ⟨s.2.2.2.1.toNat, by omega, by omega⟩
noncomputable def throwsL (s : ShowT) : List Throw := thrAll s s.2.2.2.1.toNat
theorem throwsL_len : (throwsL s).length ≤ 512 := by
  have := thrAll_len s h.rig.len s.2.2.2.1.toNat
  have := h.tick
  unfold throwsL; omega
theorem allS_is : G61 (s, ()) = some (throwsL s, ()) := by
  obtain ⟨n, hn, h64⟩ := tick_nat h
  have es : (s.1, s.2.1, s.2.2.1, s.2.2.2.1, ()) = s := rfl
  have hlen := h.rig.len
  unfold G61 F61 throwsL
  simp only [es]
  rw [hn, Int.toNat_natCast]
  refine iterF_for (f := s61_0 G107 G108) (K := fun t9 => some (t9.2.1, ())) (fun i => (s, thrAll s i, (i : Int), ())) n (by omega) ?_ ?_
  · intro i hi rec K
    have e1 : w64 ((i : Int) + 1) = ((i + 1 : Nat) : Int) := w64_id (by omega) (by omega)
    have hl := thrAll_len s hlen i
    rw [thrAll_succ]
    simp only [s61_0, es]
    rw [cond_true_dec (by rw [hn]; omega), liftsS_is h]
    simp only [Option.bind_some]
    rw [roundS h _ _ (by omega), e1]
  · intro rec K
    simp only [s61_0]
    rw [cond_false_dec (by rw [hn]; omega)]
theorem allI_is : G36 (s, ()) = some (throwsL s, ()) := by
  obtain ⟨n, hn, h64⟩ := tick_nat h
  have es : (s.1, s.2.1, s.2.2.1, s.2.2.2.1, ()) = s := rfl
  have hlen := h.rig.len
  unfold G36 F36 throwsL
  simp only [es]
  rw [showI_is s h.ok, showB_of h]
  simp only [Option.bind_some, Bool.not_true, cond_false]
  rw [hn, Int.toNat_natCast]
  refine iterF_for (f := s36_0 G12 G80) (K := fun t9 => some (t9.2.1, ())) (fun i => (s, thrAll s i, (n : Int), (i : Int), ())) n (by omega) ?_ ?_
  · intro i hi rec K
    have e1 : w64 ((i : Int) + 1) = ((i + 1 : Nat) : Int) := w64_id (by omega) (by omega)
    have hl := thrAll_len s hlen i
    rw [thrAll_succ]
    simp only [s36_0, es]
    rw [cond_true_dec (by omega), liftsI_is h]
    simp only [Option.bind_some]
    rw [roundI h _ _ _ _ (by omega), e1]
  · intro rec K
    simp only [s36_0]
    rw [cond_false_dec (by omega)]
/-- What is thrown comes of a nozzle, with a lift that it has. -/
structure ThrowP (s : ShowT) (x : Throw) : Prop where
  born : 0 ≤ x.born ∧ x.born < s.2.2.2.1
  jet : isJet x.jet = true
  dev : ∃ (i : Nat) (d : Device), s.1[i]? = some d ∧ d.Kind = 2 ∧ x.name = d.Name ∧ x.jet = ⟨⟨d.At.X, d.At.Y⟩, d.Heading, d.Tilt, x.jet.Lift⟩ ∧ (liftsL s x.born)[i]? = some x.jet.Lift ∧ x.jet.Lift ≤ d.Most
omit h in
theorem noz_jet {d : Device} (hd : devB d = true) (hk : d.Kind = 2) {x : Int} (h1 : 1 ≤ x) (h2 : x ≤ d.Most) : isJet ⟨⟨d.At.X, d.At.Y⟩, d.Heading, d.Tilt, x⟩ = true := by
  unfold devB at hd
  rw [if_neg (by omega), if_pos hk] at hd
  simp only [Bool.and_eq_true] at hd
  have J := jet_ok hd.2.2.2.1
  have hm := wi_true.1 hd.2.2.2.2
  have jx := J.x; have jy := J.y; have jh := J.h; have jt := J.t
  simp only [devJ] at jx jy jh jt
  unfold isJet
  rw [wi_of jx.1 jx.2, wi_of jy.1 jy.2, wi_of jh.1 jh.2, wi_of jt.1 jt.2, wi_of (a := x) (by omega) (by omega)]
  rfl
theorem throws_mem {x : Throw} (hx : x ∈ throwsL s) : ThrowP s x := by
  have ht := h.tick
  unfold throwsL thrAll at hx
  obtain ⟨t, h1, hx⟩ := List.mem_flatMap.mp hx
  have h1 : t < s.2.2.2.1.toNat := by simpa using h1
  unfold thrN at hx
  obtain ⟨i, h2, hx⟩ := List.mem_flatMap.mp hx
  unfold thr1 at hx
  cases hd : s.1[i]? with
  | none => rw [hd] at hx; simp at hx
  | some d =>
    cases hl : (liftsL s (t : Int))[i]? with
    | none => rw [hd, hl] at hx; simp at hx
    | some y =>
      rw [hd, hl] at hx
      simp only at hx
      by_cases hy : y > 0
      · rw [if_pos hy] at hx
        simp at hx
        subst hx
        have hdev := h.rig.dev d (List.mem_iff_getElem?.mpr ⟨i, hd⟩)
        rcases liftsL_at h (t : Int) hl hd with e | ⟨hk, _, hm⟩
        · omega
        · exact ⟨⟨by simp only; omega, by simp only; omega⟩, noz_jet hdev hk (by omega) hm, i, d, hd, hk, rfl, rfl, hl, hm⟩
      · rw [if_neg hy] at hx; simp at hx
end
end Ev

namespace Ev
open Go
theorem es_show (s : ShowT) : (s.1, s.2.1, s.2.2.1, s.2.2.2.1, ()) = s := rfl
theorem throwsI_none {s : ShowT} (h : ShowOK s) (hb : showB s = false) : G36 (s, ()) = some (([] : List Throw), ()) := by
  unfold G36 F36
  simp only [es_show]
  rw [showI_is s h, hb]; rfl
theorem fold_take {α β : Type} (f : β → α → β) (b : β) (l : List α) (i : Nat) (h : i < l.length) : (l.take (i + 1)).foldl f b = f ((l.take i).foldl f b) l[i] := by
  rw [take_snocG l i h, List.foldl_append]; rfl
/-! ### Water -/
def waterF (a : Int) (x : Throw) : Int := w64 (a + x.jet.Lift)
/-! ### Drops that are thrown, and that have landed -/
def thrownF (t a : Int) (x : Throw) : Int := if x.born ≤ t then w64 (a + 1) else a
theorem flS_is (j : Jet) : G93 (j, ()) = some (fl j, ()) := flS j
theorem flI_is (j : Jet) : G81 (j, ()) = some (fl j, ()) := flI j
def landedF (t a : Int) (x : Throw) : Int := if w64 (x.born + fl x.jet) ≤ t then w64 (a + 1) else a
/-! ### Heights -/
def ht (j : Jet) (t : Int) : Int := if isJet j = true ∧ 0 ≤ t ∧ t ≤ j.Lift + 1 then t * (j.Lift + 1 - t) else 0
theorem ht_small {L t : Int} (h1 : 1 ≤ L) (h2 : L ≤ 32) (h3 : 0 ≤ t) (h4 : t ≤ L + 1) : 0 ≤ t * (L + 1 - t) ∧ t * (L + 1 - t) ≤ 2000 := by
  have a := Int.mul_nonneg h3 (show 0 ≤ L + 1 - t by omega)
  have b : t * (L + 1 - t) ≤ 33 * 33 := Int.mul_le_mul (by omega) (by omega) (by omega) (by omega)
  omega
/-- The height of the peak. -/
def pk (j : Jet) : Int := ht j (fl j / 2)
theorem fl_bound (j : Jet) : 0 ≤ fl j ∧ fl j ≤ 33 := by
  unfold fl
  by_cases hj : isJet j = true
  · have J := (jet_ok hj).l
    rw [if_pos hj]; omega
  · rw [if_neg hj]; omega
theorem ht_up {j : Jet} (hj : isJet j = true) {t : Int} (h1 : 1 ≤ t) (h2 : t ≤ fl j / 2) : ht j t > ht j (t - 1) := by
  have hf : fl j = j.Lift + 1 := by unfold fl; rw [if_pos hj]
  have J := (jet_ok hj).l
  rw [hf] at h2
  unfold ht
  rw [if_pos ⟨hj, by omega, by omega⟩, if_pos ⟨hj, by omega, by omega⟩]
  have : t * (j.Lift + 1 - t) = (t - 1) * (j.Lift + 1 - (t - 1)) + (j.Lift + 2 - 2 * t) := by
    simp only [Int.sub_mul, Int.mul_sub, Int.mul_add, Int.mul_one, Int.one_mul]
    omega
  omega
theorem ht_top {j : Jet} (hj : isJet j = true) {t : Int} (h1 : fl j / 2 ≤ t) (h2 : t ≤ fl j) : ht j t ≤ pk j := by
  have hf : fl j = j.Lift + 1 := by unfold fl; rw [if_pos hj]
  have J := (jet_ok hj).l
  unfold pk
  rw [hf] at h1 h2 ⊢
  unfold ht
  rw [if_pos ⟨hj, by omega, by omega⟩, if_pos ⟨hj, by omega, by omega⟩]
  generalize hm : (j.Lift + 1) / 2 = m at h1
  have hm2 : j.Lift + 1 ≤ 2 * m + 1 ∧ 2 * m ≤ j.Lift + 1 := by omega
  by_cases e : t = m
  · subst e; exact Int.le_refl _
  · have := Int.mul_nonneg (show 0 ≤ t - m by omega) (show 0 ≤ t + m - (j.Lift + 1) by omega)
    have e2 : (t - m) * (t + m - (j.Lift + 1)) = m * (j.Lift + 1 - m) - t * (j.Lift + 1 - t) := by
      simp only [Int.sub_mul, Int.mul_sub, Int.mul_add, Int.mul_one]
      have := Int.mul_comm m t
      omega
    omega
def highF (a : Int) (x : Throw) : Int := mx a (pk x.jet)
theorem max_is' (a b : Int) : G95 (a, b, ()) = some (mx a b, ()) := by
  unfold G95 F95
  dsimp only
  rw [mx_eq]
  by_cases h : a > b
  · rw [cond_true_dec h, if_neg (by omega)]
  · rw [cond_false_dec h]
    split
    · rfl
    · have : a = b := by omega
      subst this; rfl
/-! ### A jet -/
/-! ### Lamps -/
noncomputable def lit1 (s : ShowT) (t : Int) (d : Device) : Bool := decide (d.Kind = 3) && decide (((liftsL s t)[(fnd s.1 d.Line).toNat]?).getD 0 > 0)
noncomputable def litF (s : ShowT) (t : Int) (a : List Str) (d : Device) : List Str := if lit1 s t d = true then a ++ [d.Name] else a
theorem lit_len (s : ShowT) (t : Int) : ∀ (l : List Device) (a : List Str), (l.foldl (litF s t) a).length ≤ a.length + l.length
  | [], a => by simp
  | d :: l, a => by
    have := lit_len s t l (litF s t a d)
    have h1 : (litF s t a d).length ≤ a.length + 1 := by unfold litF; split <;> simp
    simp only [List.foldl_cons, List.length_cons]
    omega
end Ev
