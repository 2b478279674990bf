/- Places, jets, roses and boxes. -/
import Derived.Test.YtnoodoiehlcblaaAbb
import Derived.Test.YtnoodoiehlcblaaPure
set_option linter.unusedVariables false
set_option linter.unusedSimpArgs false
set_option maxRecDepth 100000
namespace Ev
open Go
theorem fuel_ge (m : Nat) (hm : m ≤ 1000) : ∃ n, fuel = n + m := ⟨fuel - m, by rw [fuel_eq]; omega⟩
def wi (a b c : Int) : Bool := decide (b ≤ a) && decide (a ≤ c)
theorem wi_true {a b c : Int} : wi a b c = true ↔ b ≤ a ∧ a ≤ c := by simp [wi]
theorem wi_of {a b c : Int} (h1 : b ≤ a) (h2 : a ≤ c) : wi a b c = true := wi_true.2 ⟨h1, h2⟩
noncomputable abbrev gIn := F70
noncomputable abbrev gW := F44
theorem in_is (a b c : Int) : gIn (a, b, c, ()) = some (wi a b c, ()) := by
  unfold gIn F70 wi
  by_cases h : b ≤ a <;> simp [h]
theorem within_is (a b c : Int) : gW (a, b, c, ()) = some (wi a b c, ()) := by
  unfold gW F44 wi
  by_cases h : b ≤ a <;> simp [h]
/-! ### Headings, measures, places, jets -/
theorem headS (h : Int) : F114 (h, ()) = some (wi h 0 3, ()) := by
  unfold F114 wi
  by_cases h0 : 0 ≤ h <;> simp [h0]
noncomputable abbrev gHead := F127 gW
theorem headI (h : Int) : gHead (h, ()) = some (wi h 0 3, ()) := by
  unfold gHead F127
  simp only [within_is, Option.bind_some]
theorem measS (x : Int) : F120 (x, ()) = some (wi x (-4096) 4096, ()) := by
  unfold F120 wi
  by_cases h0 : -4096 ≤ x <;> simp [h0]
noncomputable abbrev gMeas := F112 gW
theorem measI (x : Int) : gMeas (x, ()) = some (wi x (-4096) 4096, ()) := by
  unfold gMeas F112
  simp only [within_is, Option.bind_some]
def isPl (p : Place) : Bool := wi p.X (-4096) 4096 && wi p.Y (-4096) 4096
noncomputable abbrev gPlS := F119 F120
noncomputable abbrev gPl := F123 gMeas
theorem placeS (p : Place) : gPlS (p, ()) = some (isPl p, ()) := by
  unfold gPlS F119 isPl
  simp only [measS, Option.bind_some]
  cases wi p.X (-4096) 4096 <;> rfl
theorem placeI (p : Place) : gPl (p, ()) = some (isPl p, ()) := by
  unfold gPl F123 isPl
  simp only [measI, Option.bind_some]
  cases wi p.X (-4096) 4096 <;> rfl
def isJet (j : Jet) : Bool := wi j.At.X (-1024) 1024 && (wi j.At.Y (-1024) 1024 && (wi j.Heading 0 3 && (wi j.Tilt 0 16 && wi j.Lift 1 32)))
noncomputable abbrev gJetS := F91 gIn F114
noncomputable abbrev gJet := F115 gW gHead
theorem jetS (j : Jet) : gJetS (j, ()) = some (isJet j, ()) := by
  unfold gJetS F91 isJet
  simp only [in_is, headS, Option.bind_some]
  cases wi j.At.X (-1024) 1024 <;> cases wi j.At.Y (-1024) 1024 <;> cases wi j.Heading 0 3 <;> cases wi j.Tilt 0 16 <;> rfl
theorem jetI (j : Jet) : gJet (j, ()) = some (isJet j, ()) := by
  unfold gJet F115 isJet
  simp only [within_is, headI, Option.bind_some]
  cases wi j.At.X (-1024) 1024 <;> cases wi j.At.Y (-1024) 1024 <;> cases wi j.Heading 0 3 <;> cases wi j.Tilt 0 16 <;> rfl
structure JetOK (j : Jet) : Prop where
  x : -1024 ≤ j.At.X ∧ j.At.X ≤ 1024
  y : -1024 ≤ j.At.Y ∧ j.At.Y ≤ 1024
  h : 0 ≤ j.Heading ∧ j.Heading ≤ 3
  t : 0 ≤ j.Tilt ∧ j.Tilt ≤ 16
  l : 1 ≤ j.Lift ∧ j.Lift ≤ 32
theorem jet_ok {j : Jet} (h : isJet j = true) : JetOK j := by
  simp only [isJet, Bool.and_eq_true, wi_true] at h
  exact ⟨h.1, h.2.1, h.2.2.1, h.2.2.2.1, h.2.2.2.2⟩
/-! ### Flights -/
theorem flight_loop (f : Jet × Unit → Option (Bool × Unit)) (L : Int) (h1 : 1 ≤ L) (h2 : L ≤ 32) (n : Nat) : iterF (s59_0 f) (n + 40) (1, L, w64 (L - 2), ()) (fun t3 => some (t3.1, ())) = some (L + 1, ()) := by
  have : L = 1 ∨ L = 2 ∨ L = 3 ∨ L = 4 ∨ L = 5 ∨ L = 6 ∨ L = 7 ∨ L = 8 ∨ L = 9 ∨ L = 10 ∨ L = 11 ∨ L = 12 ∨ L = 13 ∨ L = 14 ∨ L = 15 ∨ L = 16 ∨ L = 17 ∨ L = 18 ∨ L = 19 ∨ L = 20 ∨ L = 21 ∨ L = 22 ∨ L = 23 ∨ L = 24 ∨ L = 25 ∨ L = 26 ∨ L = 27 ∨ L = 28 ∨ L = 29 ∨ L = 30 ∨ L = 31 ∨ L = 32 := by omega
  rcases this with rfl | rfl | rfl | rfl | rfl | rfl | rfl | rfl | rfl | rfl | rfl | rfl | rfl | rfl | rfl | rfl | rfl | rfl | rfl | rfl | rfl | rfl | rfl | rfl | rfl | rfl | rfl | rfl | rfl | rfl | rfl | rfl <;> (show _ = _; kernel_rfl)
noncomputable abbrev gFlS := F59 gJetS
noncomputable abbrev gFl := F92 gJet
def fl (j : Jet) : Int := if isJet j = true then j.Lift + 1 else 0
theorem flS (j : Jet) : gFlS (j, ()) = some (fl j, ()) := by
  unfold gFlS F59 fl
  simp only [jetS, Option.bind_some]
  cases h : isJet j
  · rfl
  · have J := jet_ok h
    obtain ⟨n, hn⟩ := fuel_ge 40 (by omega)
    simp only [Bool.not_true, cond_false, hn]
    rw [flight_loop _ _ J.l.1 J.l.2, if_pos trivial]
theorem flI (j : Jet) : gFl (j, ()) = some (fl j, ()) := by
  unfold gFl F92 fl
  simp only [jetI, Option.bind_some]
  cases h : isJet j
  · rfl
  · have J := jet_ok h
    have := J.l
    simp only [Bool.not_true, cond_false, if_true]
    rw [w64_id (by omega) (by omega)]
/-! ### Turns -/
def rotN : Nat → Place → Place
  | 0, p => p
  | k + 1, p => rotN k ⟨w64 (0 - p.Y), p.X⟩
theorem k4 {k : Nat} (h : k < 4) : k = 0 ∨ k = 1 ∨ k = 2 ∨ k = 3 := by omega
theorem rot_bound (x m : Int) (h0 : 0 ≤ x) (hm : x ≤ m) (hb : m ≤ 1099511627776) (k : Nat) (hk : k < 4) : -m ≤ (rotN k ⟨x, 0⟩).X ∧ (rotN k ⟨x, 0⟩).X ≤ m ∧ -m ≤ (rotN k ⟨x, 0⟩).Y ∧ (rotN k ⟨x, 0⟩).Y ≤ m := by
  have e0 : w64 (0 - 0) = 0 := w64_id (by omega) (by omega)
  have e1 : w64 (0 - x) = -x := by rw [w64_id (by omega) (by omega)]; omega
  have e2 : w64 (0 - -x) = x := by rw [w64_id (by omega) (by omega)]; omega
  rcases k4 hk with rfl | rfl | rfl | rfl <;> simp only [rotN, e0, e1, e2] <;> omega
/-! ### Landings -/
def land (j : Jet) : Place := ⟨w64 (j.At.X + (rotN j.Heading.toNat ⟨w64 ((j.Lift + 1) * j.Tilt), 0⟩).X), w64 (j.At.Y + (rotN j.Heading.toNat ⟨w64 ((j.Lift + 1) * j.Tilt), 0⟩).Y)⟩
theorem jump {j : Jet} (J : JetOK j) : w64 ((j.Lift + 1) * j.Tilt) = (j.Lift + 1) * j.Tilt ∧ 0 ≤ (j.Lift + 1) * j.Tilt ∧ (j.Lift + 1) * j.Tilt ≤ 528 := by
  have hl := J.l; have ht := J.t
  have a : 0 ≤ (j.Lift + 1) * j.Tilt := Int.mul_nonneg (by omega) ht.1
  have b : (j.Lift + 1) * j.Tilt ≤ 33 * 16 := Int.mul_le_mul (by omega) ht.2 ht.1 (by omega)
  exact ⟨w64_id (by omega) (by omega), a, by omega⟩
theorem land_bound {j : Jet} (J : JetOK j) : (-1552 ≤ (land j).X ∧ (land j).X ≤ 1552 ∧ -1552 ≤ (land j).Y ∧ (land j).Y ≤ 1552) ∧ (land j).X = j.At.X + (rotN j.Heading.toNat ⟨(j.Lift + 1) * j.Tilt, 0⟩).X ∧ (land j).Y = j.At.Y + (rotN j.Heading.toNat ⟨(j.Lift + 1) * j.Tilt, 0⟩).Y := by
  obtain ⟨e, h0, h1⟩ := jump J
  have hh := J.h; have hx := J.x; have hy := J.y
  obtain ⟨b1, b2, b3, b4⟩ := rot_bound ((j.Lift + 1) * j.Tilt) 528 h0 h1 (by omega) j.Heading.toNat (by omega)
  unfold land
  rw [e]
  simp only
  rw [w64_id (by omega) (by omega), w64_id (by omega) (by omega)]
  omega
noncomputable abbrev gAir := F116 gJet gFl gW
def landP (j : Jet) : Place × Bool := if isJet j = true then (land j, true) else (⟨0, 0⟩, false)
/-! ### Roses -/
def isDr (p : Place) : Bool := wi p.X (-8) 8 && wi p.Y (-8) 8
noncomputable abbrev gDrS := F99 gIn
noncomputable abbrev gDr := F111 gW
theorem drS (p : Place) : gDrS (p, ()) = some (isDr p, ()) := by
  unfold gDrS F99 isDr
  simp only [in_is, Option.bind_some]
  cases wi p.X (-8) 8 <;> rfl
theorem drI (p : Place) : gDr (p, ()) = some (isDr p, ()) := by
  unfold gDr F111 isDr
  simp only [within_is, Option.bind_some]
  cases wi p.X (-8) 8 <;> rfl
def cmpI (a b : Int) : Int := if a < b then -1 else if a > b then 1 else 0
def cmpP (p q : Place) : Int := if cmpI p.X q.X = 0 then cmpI p.Y q.Y else cmpI p.X q.X
noncomputable abbrev gCmp := F125 F128
theorem cmpI_is (a b : Int) : gCmp (a, b, ()) = some (cmpI a b, ()) := by
  unfold gCmp F125 F128 cmpI
  simp only [decide_true, Bool.not_true, Option.bind_some, cond_false]
  by_cases h1 : a < b
  · simp [h1]
  · by_cases h2 : a > b <;> simp [h1, h2]
theorem or_0 (a b : Int) (n : Nat) (K) : iterF s124_0 (n + 5) (0, [a, b], 2, 0, ()) K = cond (!(decide (a = 0))) (some (a, ())) (iterF s124_0 (n + 4) (0, [a, b], 2, 1, ()) K) := by kernel_rfl
theorem or_1 (a b : Int) (n : Nat) (K) : iterF s124_0 (n + 4) (0, [a, b], 2, 1, ()) K = cond (!(decide (b = 0))) (some (b, ())) (iterF s124_0 (n + 3) (0, [a, b], 2, 2, ()) K) := by kernel_rfl
theorem or_2 (a b : Int) (n : Nat) (K) : iterF s124_0 (n + 3) (0, [a, b], 2, 2, ()) K = K (0, [a, b], 2, 2, ()) := by kernel_rfl
theorem or_is (a b : Int) : F124 ([a, b], ()) = some (if a = 0 then b else a, ()) := by
  unfold F124
  obtain ⟨n, hn⟩ := fuel_ge 5 (by omega)
  rw [hn]
  have l : Int.ofNat [a, b].length = 2 := rfl
  simp only [l]
  rw [or_0]
  by_cases ha : a = 0
  · rw [decide_eq_true ha, if_pos ha, or_1]
    by_cases hb : b = 0
    · rw [decide_eq_true hb, or_2, hb]; rfl
    · rw [decide_eq_false hb]; rfl
  · rw [decide_eq_false ha, if_neg ha]; rfl
/-! ### Boxes around places -/
theorem min_is (a b : Int) : F71 (a, b, ()) = some (mn a b, ()) := by
  unfold F71
  rw [cond_dec, mn_eq]
  simp only []
  split <;> split <;> first | rfl | omega | (congr 2; omega)
theorem max_is (a b : Int) : F62 (a, b, ()) = some (mx a b, ()) := by
  unfold F62
  rw [cond_dec, mx_eq]
  simp only []
  split <;> split <;> first | rfl | omega | (congr 2; omega)
theorem mn_self (a : Int) : mn a a = a := by rw [mn_eq]; split <;> rfl
theorem mx_self (a : Int) : mx a a = a := by rw [mx_eq]; split <;> rfl
def grow (b : Box) (p : Place) : Box := ⟨⟨mn b.Low.X p.X, mn b.Low.Y p.Y⟩, ⟨mx b.High.X p.X, mx b.High.Y p.Y⟩⟩
def InB (m : Int) (b : Box) : Prop := (-m ≤ b.Low.X ∧ b.Low.X ≤ m) ∧ (-m ≤ b.Low.Y ∧ b.Low.Y ≤ m) ∧ (-m ≤ b.High.X ∧ b.High.X ≤ m) ∧ (-m ≤ b.High.Y ∧ b.High.Y ≤ m)
theorem grow_in {m : Int} {b : Box} {p : Place} (h : InB m b) (hx : -m ≤ p.X ∧ p.X ≤ m) (hy : -m ≤ p.Y ∧ p.Y ≤ m) : InB m (grow b p) := by
  obtain ⟨h1, h2, h3, h4⟩ := h
  unfold InB grow
  simp only [mn_eq, mx_eq]
  refine ⟨?_, ?_, ?_, ?_⟩ <;> split <;> omega
/-! ### Lists of places: copied, compared -/
theorem eqPlace_self (a : Place) : F56 (a, a, ()) = some (true, ()) := by
  unfold F56; simp
end Ev
