/- Places, jets, roses and boxes. -/
import Derived.Test.YtlifghlhbfjdmaaFn2
import Derived.Test.YtlifghlhbfjdmaaPure
set_option linter.unusedVariables false
set_option linter.unusedSimpArgs false
set_option maxRecDepth 100000
namespace Ev
open Go
theorem fuel_ge (m : Nat) (hm : m ≤ 1000) : ∃ n, fuel = n + m := ⟨fuel - m, by rw [fuel_eq]; omega⟩
def wi (a b c : Int) : Bool := decide (b ≤ a) && decide (a ≤ c)
theorem wi_true {a b c : Int} : wi a b c = true ↔ b ≤ a ∧ a ≤ c := by simp [wi]
theorem wi_of {a b c : Int} (h1 : b ≤ a) (h2 : a ≤ c) : wi a b c = true := wi_true.2 ⟨h1, h2⟩
noncomputable abbrev gIn := F119
noncomputable abbrev gW := F72
theorem in_is (a b c : Int) : gIn (a, b, c, ()) = some (wi a b c, ()) := by
  unfold gIn F119 wi
  by_cases h : b ≤ a <;> simp [h]
theorem within_is (a b c : Int) : gW (a, b, c, ()) = some (wi a b c, ()) := by
  unfold gW F72 wi
  by_cases h : b ≤ a <;> simp [h]
/-! ### Headings, measures, places, jets -/
theorem headS (h : Int) : F186 (h, ()) = some (wi h 0 3, ()) := by
  unfold F186 wi
  by_cases h0 : 0 ≤ h <;> simp [h0]
noncomputable abbrev gHead := F169 gW
theorem headI (h : Int) : gHead (h, ()) = some (wi h 0 3, ()) := by
  unfold gHead F169
  simp only [within_is, Option.bind_some]
theorem measS (x : Int) : F170 (x, ()) = some (wi x (-4096) 4096, ()) := by
  unfold F170 wi
  by_cases h0 : -4096 ≤ x <;> simp [h0]
noncomputable abbrev gMeas := F144 gW
theorem measI (x : Int) : gMeas (x, ()) = some (wi x (-4096) 4096, ()) := by
  unfold gMeas F144
  simp only [within_is, Option.bind_some]
def isPl (p : Place) : Bool := wi p.X (-4096) 4096 && wi p.Y (-4096) 4096
noncomputable abbrev gPlS := F120 F170
noncomputable abbrev gPl := F115 gMeas
theorem placeS (p : Place) : gPlS (p, ()) = some (isPl p, ()) := by
  unfold gPlS F120 isPl
  simp only [measS, Option.bind_some]
  cases wi p.X (-4096) 4096 <;> rfl
theorem placeI (p : Place) : gPl (p, ()) = some (isPl p, ()) := by
  unfold gPl F115 isPl
  simp only [measI, Option.bind_some]
  cases wi p.X (-4096) 4096 <;> rfl
def isJet (j : Jet) : Bool := wi j.At.X (-1024) 1024 && (wi j.At.Y (-1024) 1024 && (wi j.Heading 0 3 && (wi j.Tilt 0 16 && wi j.Lift 1 32)))
noncomputable abbrev gJetS := F149 gIn F186
noncomputable abbrev gJet := F114 gW gHead
theorem jetS (j : Jet) : gJetS (j, ()) = some (isJet j, ()) := by
  unfold gJetS F149 isJet
  simp only [in_is, headS, Option.bind_some]
  cases wi j.At.X (-1024) 1024 <;> cases wi j.At.Y (-1024) 1024 <;> cases wi j.Heading 0 3 <;> cases wi j.Tilt 0 16 <;> rfl
theorem jetI (j : Jet) : gJet (j, ()) = some (isJet j, ()) := by
  unfold gJet F114 isJet
  simp only [within_is, headI, Option.bind_some]
  cases wi j.At.X (-1024) 1024 <;> cases wi j.At.Y (-1024) 1024 <;> cases wi j.Heading 0 3 <;> cases wi j.Tilt 0 16 <;> rfl
structure JetOK (j : Jet) : Prop where
  x : -1024 ≤ j.At.X ∧ j.At.X ≤ 1024
  y : -1024 ≤ j.At.Y ∧ j.At.Y ≤ 1024
  h : 0 ≤ j.Heading ∧ j.Heading ≤ 3
  t : 0 ≤ j.Tilt ∧ j.Tilt ≤ 16
  l : 1 ≤ j.Lift ∧ j.Lift ≤ 32
theorem jet_ok {j : Jet} (h : isJet j = true) : JetOK j := by
  simp only [isJet, Bool.and_eq_true, wi_true] at h
  exact ⟨h.1, h.2.1, h.2.2.1, h.2.2.2.1, h.2.2.2.2⟩
/-! ### Flights -/
theorem flight_loop (f : Jet × Unit → Option (Bool × Unit)) (L : Int) (h1 : 1 ≤ L) (h2 : L ≤ 32) (n : Nat) : iterF (s90_0 f) (n + 40) (1, L, w64 (L - 2), ()) (fun t3 => some (t3.1, ())) = some (L + 1, ()) := by
  have : L = 1 ∨ L = 2 ∨ L = 3 ∨ L = 4 ∨ L = 5 ∨ L = 6 ∨ L = 7 ∨ L = 8 ∨ L = 9 ∨ L = 10 ∨ L = 11 ∨ L = 12 ∨ L = 13 ∨ L = 14 ∨ L = 15 ∨ L = 16 ∨ L = 17 ∨ L = 18 ∨ L = 19 ∨ L = 20 ∨ L = 21 ∨ L = 22 ∨ L = 23 ∨ L = 24 ∨ L = 25 ∨ L = 26 ∨ L = 27 ∨ L = 28 ∨ L = 29 ∨ L = 30 ∨ L = 31 ∨ L = 32 := by omega
  rcases this with rfl | rfl | rfl | rfl | rfl | rfl | rfl | rfl | rfl | rfl | rfl | rfl | rfl | rfl | rfl | rfl | rfl | rfl | rfl | rfl | rfl | rfl | rfl | rfl | rfl | rfl | rfl | rfl | rfl | rfl | rfl | rfl <;> (show _ = _; kernel_rfl)
noncomputable abbrev gFlS := F90 gJetS
noncomputable abbrev gFl := F95 gJet
def fl (j : Jet) : Int := if isJet j = true then j.Lift + 1 else 0
theorem flS (j : Jet) : gFlS (j, ()) = some (fl j, ()) := by
  unfold gFlS F90 fl
  simp only [jetS, Option.bind_some]
  cases h : isJet j
  · rfl
  · have J := jet_ok h
    obtain ⟨n, hn⟩ := fuel_ge 40 (by omega)
    simp only [Bool.not_true, cond_false, hn]
    rw [flight_loop _ _ J.l.1 J.l.2, if_pos trivial]
theorem flI (j : Jet) : gFl (j, ()) = some (fl j, ()) := by
  unfold gFl F95 fl
  simp only [jetI, Option.bind_some]
  cases h : isJet j
  · rfl
  · have J := jet_ok h
    have := J.l
    simp only [Bool.not_true, cond_false, if_true]
    rw [w64_id (by omega) (by omega)]
/-! ### Turns -/
def rotN : Nat → Place → Place
  | 0, p => p
  | k + 1, p => rotN k ⟨w64 (0 - p.Y), p.X⟩
theorem k4 {k : Nat} (h : k < 4) : k = 0 ∨ k = 1 ∨ k = 2 ∨ k = 3 := by omega
noncomputable abbrev gTurnS := F196 F202
noncomputable abbrev gTurn := F197 F203
theorem turn_loopS (f) (p z : Place) (n k : Nat) (hk : k < 4) (K) : ∃ c, iterF (s196_0 f) (n + 9) (p, z, (k : Int), ()) K = K (rotN k p, c) := by
  rcases k4 hk with rfl | rfl | rfl | rfl <;> exact ⟨(z, 0, ()), by kernel_rfl⟩
theorem turn_loopI (f) (p z : Place) (n k : Nat) (hk : k < 4) (K) : ∃ c, iterF (s197_0 f) (n + 9) (p, z, (k : Int), 0, ()) K = K (rotN k p, c) := by
  rcases k4 hk with rfl | rfl | rfl | rfl
  · exact ⟨(z, 0, 0, ()), by kernel_rfl⟩
  · exact ⟨(z, 1, 1, ()), by kernel_rfl⟩
  · exact ⟨(z, 2, 2, ()), by kernel_rfl⟩
  · exact ⟨(z, 3, 3, ()), by kernel_rfl⟩
theorem turnS (p : Place) (k : Nat) (hk : k < 4) : gTurnS (p, (k : Int), ()) = some (rotN k p, ()) := by
  unfold gTurnS F196
  have e : F202 ((k : Int), ()) = some ((k : Int), ()) := by rcases k4 hk with rfl | rfl | rfl | rfl <;> kernel_rfl
  simp only [e, Option.bind_some]
  obtain ⟨n, hn⟩ := fuel_ge 9 (by omega)
  obtain ⟨c, hc⟩ := turn_loopS F202 p ⟨0, 0⟩ n k hk (fun t3 => some (t3.1, ()))
  rw [hn, hc]
theorem turnI (p : Place) (k : Nat) (hk : k < 4) : gTurn (p, (k : Int), ()) = some (rotN k p, ()) := by
  unfold gTurn F197
  have e : F203 ((k : Int), ()) = some ((k : Int), ()) := by rcases k4 hk with rfl | rfl | rfl | rfl <;> kernel_rfl
  simp only [e, Option.bind_some]
  obtain ⟨n, hn⟩ := fuel_ge 9 (by omega)
  obtain ⟨c, hc⟩ := turn_loopI F203 p ⟨0, 0⟩ n k hk (fun t3 => some (t3.1, ()))
  rw [hn, hc]
theorem rot_bound (x m : Int) (h0 : 0 ≤ x) (hm : x ≤ m) (hb : m ≤ 1099511627776) (k : Nat) (hk : k < 4) : -m ≤ (rotN k ⟨x, 0⟩).X ∧ (rotN k ⟨x, 0⟩).X ≤ m ∧ -m ≤ (rotN k ⟨x, 0⟩).Y ∧ (rotN k ⟨x, 0⟩).Y ≤ m := by
  have e0 : w64 (0 - 0) = 0 := w64_id (by omega) (by omega)
  have e1 : w64 (0 - x) = -x := by rw [w64_id (by omega) (by omega)]; omega
  have e2 : w64 (0 - -x) = x := by rw [w64_id (by omega) (by omega)]; omega
  rcases k4 hk with rfl | rfl | rfl | rfl <;> simp only [rotN, e0, e1, e2] <;> omega
/-! ### Landings -/
def land (j : Jet) : Place := ⟨w64 (j.At.X + (rotN j.Heading.toNat ⟨w64 ((j.Lift + 1) * j.Tilt), 0⟩).X), w64 (j.At.Y + (rotN j.Heading.toNat ⟨w64 ((j.Lift + 1) * j.Tilt), 0⟩).Y)⟩
theorem jump {j : Jet} (J : JetOK j) : w64 ((j.Lift + 1) * j.Tilt) = (j.Lift + 1) * j.Tilt ∧ 0 ≤ (j.Lift + 1) * j.Tilt ∧ (j.Lift + 1) * j.Tilt ≤ 528 := by
  have hl := J.l; have ht := J.t
  have a : 0 ≤ (j.Lift + 1) * j.Tilt := Int.mul_nonneg (by omega) ht.1
  have b : (j.Lift + 1) * j.Tilt ≤ 33 * 16 := Int.mul_le_mul (by omega) ht.2 ht.1 (by omega)
  exact ⟨w64_id (by omega) (by omega), a, by omega⟩
theorem land_bound {j : Jet} (J : JetOK j) : (-1552 ≤ (land j).X ∧ (land j).X ≤ 1552 ∧ -1552 ≤ (land j).Y ∧ (land j).Y ≤ 1552) ∧ (land j).X = j.At.X + (rotN j.Heading.toNat ⟨(j.Lift + 1) * j.Tilt, 0⟩).X ∧ (land j).Y = j.At.Y + (rotN j.Heading.toNat ⟨(j.Lift + 1) * j.Tilt, 0⟩).Y := by
  obtain ⟨e, h0, h1⟩ := jump J
  have hh := J.h; have hx := J.x; have hy := J.y
  obtain ⟨b1, b2, b3, b4⟩ := rot_bound ((j.Lift + 1) * j.Tilt) 528 h0 h1 (by omega) j.Heading.toNat (by omega)
  unfold land
  rw [e]
  simp only
  rw [w64_id (by omega) (by omega), w64_id (by omega) (by omega)]
  omega
noncomputable abbrev gPlaceAtS := F146 gJetS gFlS (F183 gTurnS F91)
noncomputable abbrev gLandS := F88 gFlS gPlaceAtS
noncomputable abbrev gAir := F187 gJet gFl gW
noncomputable abbrev gChk := F198 gPl
noncomputable abbrev gStep := F188 gPl gHead gMeas gTurn gChk
noncomputable abbrev gPlaceAt := F150 gAir gStep
noncomputable abbrev gLand := F93 gFl gPlaceAt
def landP (j : Jet) : Place × Bool := if isJet j = true then (land j, true) else (⟨0, 0⟩, false)
theorem landS (j : Jet) : gLandS (j, ()) = some ((landP j).1, (landP j).2, ()) := by
  unfold gLandS F88 gPlaceAtS F146 landP
  simp only [flS, jetS, Option.bind_some]
  cases h : isJet j
  · rfl
  · have J := jet_ok h
    have hl := J.l
    have hf : fl j = j.Lift + 1 := by unfold fl; rw [if_pos h]
    rw [hf]
    simp only [Bool.not_true, Bool.not_false, cond_true, if_true]
    rw [decide_eq_false (by omega : ¬ j.Lift + 1 < 0), cond_false_dec (by omega : ¬ j.Lift + 1 > j.Lift + 1)]
    simp only [Bool.not_false, cond_true]
    unfold F183
    have hk : j.Heading.toNat < 4 := by have := J.h; omega
    have hh : (j.Heading.toNat : Int) = j.Heading := by have := J.h; omega
    have := turnS ⟨w64 ((j.Lift + 1) * j.Tilt), 0⟩ j.Heading.toNat hk
    rw [hh] at this
    simp only [this, Option.bind_some, F91]
    rfl
theorem landI (j : Jet) : gLand (j, ()) = some ((landP j).1, (landP j).2, ()) := by
  unfold gLand F93 gPlaceAt F150 gAir F187 landP
  simp only [flI, jetI, Option.bind_some, within_is]
  cases h : isJet j
  · rfl
  · have J := jet_ok h
    have hl := J.l; have hx := J.x; have hy := J.y
    have hf : fl j = j.Lift + 1 := by unfold fl; rw [if_pos h]
    rw [hf]
    simp only [cond_true, Option.bind_some, wi_of (show (0 : Int) ≤ j.Lift + 1 by omega) (Int.le_refl _), Bool.not_true, cond_false, if_true]
    obtain ⟨e, h0, h1⟩ := jump J
    obtain ⟨lb, lx, ly⟩ := land_bound J
    unfold gStep F188
    have hk : j.Heading.toNat < 4 := by have := J.h; omega
    have hh : (j.Heading.toNat : Int) = j.Heading := by have := J.h; omega
    have ht := turnI ⟨w64 ((j.Lift + 1) * j.Tilt), 0⟩ j.Heading.toNat hk
    rw [hh] at ht
    have p1 : isPl j.At = true := by unfold isPl; rw [wi_of (by omega) (by omega), wi_of (by omega) (by omega)]; rfl
    have p2 : wi j.Heading 0 3 = true := wi_of J.h.1 J.h.2
    have p3 : wi (w64 ((j.Lift + 1) * j.Tilt)) (-4096) 4096 = true := by rw [e]; exact wi_of (by omega) (by omega)
    have p4 : isPl (land j) = true := by unfold isPl; rw [wi_of (by omega) (by omega), wi_of (by omega) (by omega)]; rfl
    have p5 : gChk (land j, ()) = some (land j, true, ()) := by
      unfold gChk F198
      simp only [placeI, p4, Option.bind_some]
      rfl
    simp only [placeI, headI, measI, p1, p2, p3, ht, Option.bind_some, Bool.not_true, Bool.not_false, cond_true, cond_false]
    have p6 : (⟨w64 (j.At.X + (rotN j.Heading.toNat ⟨w64 ((j.Lift + 1) * j.Tilt), 0⟩).X), w64 (j.At.Y + (rotN j.Heading.toNat ⟨w64 ((j.Lift + 1) * j.Tilt), 0⟩).Y)⟩ : Place) = land j := rfl
    rw [p6, p5]
    rfl
/-! ### Roses -/
def isDr (p : Place) : Bool := wi p.X (-8) 8 && wi p.Y (-8) 8
noncomputable abbrev gDrS := F175 gIn
noncomputable abbrev gDr := F121 gW
theorem drS (p : Place) : gDrS (p, ()) = some (isDr p, ()) := by
  unfold gDrS F175 isDr
  simp only [in_is, Option.bind_some]
  cases wi p.X (-8) 8 <;> rfl
theorem drI (p : Place) : gDr (p, ()) = some (isDr p, ()) := by
  unfold gDr F121 isDr
  simp only [within_is, Option.bind_some]
  cases wi p.X (-8) 8 <;> rfl
def cmpI (a b : Int) : Int := if a < b then -1 else if a > b then 1 else 0
def cmpP (p q : Place) : Int := if cmpI p.X q.X = 0 then cmpI p.Y q.Y else cmpI p.X q.X
noncomputable abbrev gCmp := F172 F192
theorem cmpI_is (a b : Int) : gCmp (a, b, ()) = some (cmpI a b, ()) := by
  unfold gCmp F172 F192 cmpI
  simp only [decide_true, Bool.not_true, Option.bind_some, cond_false]
  by_cases h1 : a < b
  · simp [h1]
  · by_cases h2 : a > b <;> simp [h1, h2]
theorem or_0 (a b : Int) (n : Nat) (K) : iterF s171_0 (n + 5) (0, [a, b], 2, 0, ()) K = cond (!(decide (a = 0))) (some (a, ())) (iterF s171_0 (n + 4) (0, [a, b], 2, 1, ()) K) := by kernel_rfl
theorem or_1 (a b : Int) (n : Nat) (K) : iterF s171_0 (n + 4) (0, [a, b], 2, 1, ()) K = cond (!(decide (b = 0))) (some (b, ())) (iterF s171_0 (n + 3) (0, [a, b], 2, 2, ()) K) := by kernel_rfl
theorem or_2 (a b : Int) (n : Nat) (K) : iterF s171_0 (n + 3) (0, [a, b], 2, 2, ()) K = K (0, [a, b], 2, 2, ()) := by kernel_rfl
theorem or_is (a b : Int) : F171 ([a, b], ()) = some (if a = 0 then b else a, ()) := by
  unfold F171
  obtain ⟨n, hn⟩ := fuel_ge 5 (by omega)
  rw [hn]
  have l : Int.ofNat [a, b].length = 2 := rfl
  simp only [l]
  rw [or_0]
  by_cases ha : a = 0
  · rw [decide_eq_true ha, if_pos ha, or_1]
    by_cases hb : b = 0
    · rw [decide_eq_true hb, or_2, hb]; rfl
    · rw [decide_eq_false hb]; rfl
  · rw [decide_eq_false ha, if_neg ha]; rfl
noncomputable abbrev gCmpP := F122 gCmp F171
theorem cmpPI (p q : Place) : gCmpP (p, q, ()) = some (cmpP p q, ()) := by
  unfold gCmpP F122 cmpP
  simp only [cmpI_is, or_is, Option.bind_some]
theorem cmpPS (p q : Place) : F185 (p, q, ()) = some (cmpP p q, ()) := by
  unfold F185 cmpP cmpI
  simp only [Bool.and_true]
  by_cases h1 : p.X < q.X
  · simp [h1]
  · by_cases h2 : p.X = q.X
    · by_cases h3 : p.Y < q.Y
      · simp [h2, h3]
      · by_cases h4 : p.Y = q.Y
        · simp [h2, h4]
        · have : p.Y > q.Y := by omega
          simp [h2, h3, h4, this]
    · have : p.X > q.X := by omega
      simp [h1, h2, this]
noncomputable abbrev gRoseS := F148 gDrS F185
noncomputable abbrev gRose := F58 gDr gCmpP gW
theorem rose_same : gRoseS = gRose := by
  have e : s148_0 gDrS F185 = s58_0 gDr gCmpP gW := by
    funext t rec K
    simp only [s148_0, s58_0, drS, drI, cmpPS, cmpPI]
  funext a
  unfold gRoseS gRose F148 F58
  rw [e]
  congr 1
  funext t
  simp only [within_is, Option.bind_some]
  unfold wi
  by_cases h : Int.ofNat t.1.length ≥ 1
  · have h' : 1 ≤ Int.ofNat t.1.length := h
    rw [cond_true_dec h, decide_eq_true h', Bool.true_and]
  · have h' : ¬ 1 ≤ Int.ofNat t.1.length := h
    rw [cond_false_dec h, decide_eq_false h']; rfl
theorem rose_ok (r : List Place) (hr : r.length ≤ 1048576) : ∃ b, gRose (r, ()) = some (b, ()) ∧ (b = true → 1 ≤ r.length ∧ r.length ≤ 4 ∧ ∀ p ∈ r, isDr p = true) := by
  unfold gRose F58
  rcases iterF_rule (f := s58_0 gDr gCmpP gW) (K := fun t6 => (gW ((Int.ofNat (List.length t6.1)), 1, 4, ())).bind fun x7 => some (x7.1, ())) (t := (r, r, Int.ofNat r.length, 0, ())) r.length
    (fun i t => t = (r, r, Int.ofNat r.length, (i : Int), ()) ∧ ∀ p ∈ r.take i, isDr p = true) (fun x => x = some (false, ())) (fun t => t.1 = r ∧ ∀ p ∈ r, isDr p = true) (by omega) ⟨rfl, by simp⟩
    (by
      rintro i _ hi ⟨rfl, hall⟩
      have hx : r[i]? = some r[i] := by simp
      have grow : isDr r[i] = true → ∀ p ∈ r.take (i + 1), isDr p = true := fun hd p hp => by
        rw [List.take_add_one, hx] at hp
        rcases List.mem_append.mp hp with h | h
        · exact hall p h
        · simp at h; subst h; exact hd
      have e1 : w64 ((i : Int) + 1) = ((i + 1 : Nat) : Int) := w64_id (by omega) (by omega)
      cases hd : isDr r[i]
      · refine .inr (.inl ⟨_, rfl, fun rec K => ?_⟩)
        simp only [s58_0]
        rw [cond_true_dec (by simp; omega), rdL_at hx]
        simp only [drI, hd, Option.bind_some]
        rfl
      · by_cases hz : (i : Int) > 0
        · obtain ⟨j, rfl⟩ : ∃ j, i = j + 1 := ⟨i - 1, by omega⟩
          have hy : r[j]? = some r[j] := by simp
          have e2 : w64 (((j + 1 : Nat) : Int) - 1) = (j : Int) := by rw [w64_id (by omega) (by omega)]; omega
          by_cases hc : cmpP r[j] r[j + 1] ≥ 0
          · refine .inr (.inl ⟨_, rfl, fun rec K => ?_⟩)
            simp only [s58_0]
            rw [cond_true_dec (by simp; omega), rdL_at hx]
            simp only [drI, hd, Option.bind_some, Bool.not_true, Bool.not_false, cond_true]
            rw [cond_true_dec hz, e2, rdL_at hy]
            simp only [cmpPI, Option.bind_some]
            rw [cond_true_dec hc]
          · refine .inl ⟨_, ⟨rfl, grow hd⟩, fun rec K => ?_⟩
            simp only [s58_0]
            rw [cond_true_dec (by simp; omega), rdL_at hx]
            simp only [drI, hd, Option.bind_some, Bool.not_true, Bool.not_false, cond_true]
            rw [cond_true_dec hz, e2, rdL_at hy]
            simp only [cmpPI, Option.bind_some]
            rw [cond_false_dec hc, e1]
        · refine .inl ⟨_, ⟨rfl, grow hd⟩, fun rec K => ?_⟩
          simp only [s58_0]
          rw [cond_true_dec (by simp; omega), rdL_at hx]
          simp only [drI, hd, Option.bind_some, Bool.not_true, Bool.not_false, cond_true]
          rw [cond_false_dec hz, e1])
    (by
      rintro _ ⟨rfl, hall⟩
      refine .inr ⟨(r, r, Int.ofNat r.length, (r.length : Int), ()), ⟨rfl, by simpa using hall⟩, fun rec K => ?_⟩
      simp only [s58_0]
      rw [cond_false_dec (by simp)]) with ⟨x, rfl, h⟩ | ⟨t, ⟨ht, hall⟩, h⟩
  · exact ⟨false, h, fun e => by cases e⟩
  · rw [within_is] at h
    refine ⟨_, h, fun e => ?_⟩
    rw [ht, wi_true] at e
    simp at e
    exact ⟨by omega, by omega, hall⟩
/-! ### Boxes around places -/
theorem min_is (a b : Int) : F184 (a, b, ()) = some (mn a b, ()) := by
  unfold F184
  rw [cond_dec, mn_eq]
  simp only []
  split <;> split <;> first | rfl | omega | (congr 2; omega)
theorem max_is (a b : Int) : F79 (a, b, ()) = some (mx a b, ()) := by
  unfold F79
  rw [cond_dec, mx_eq]
  simp only []
  split <;> split <;> first | rfl | omega | (congr 2; omega)
theorem mn_self (a : Int) : mn a a = a := by rw [mn_eq]; split <;> rfl
theorem mx_self (a : Int) : mx a a = a := by rw [mx_eq]; split <;> rfl
def grow (b : Box) (p : Place) : Box := ⟨⟨mn b.Low.X p.X, mn b.Low.Y p.Y⟩, ⟨mx b.High.X p.X, mx b.High.Y p.Y⟩⟩
noncomputable abbrev gBoxS := F147 gPlS F184 F79
noncomputable abbrev gBox := F151 gPl
def InB (m : Int) (b : Box) : Prop := (-m ≤ b.Low.X ∧ b.Low.X ≤ m) ∧ (-m ≤ b.Low.Y ∧ b.Low.Y ≤ m) ∧ (-m ≤ b.High.X ∧ b.High.X ≤ m) ∧ (-m ≤ b.High.Y ∧ b.High.Y ≤ m)
theorem grow_in {m : Int} {b : Box} {p : Place} (h : InB m b) (hx : -m ≤ p.X ∧ p.X ≤ m) (hy : -m ≤ p.Y ∧ p.Y ≤ m) : InB m (grow b p) := by
  obtain ⟨h1, h2, h3, h4⟩ := h
  unfold InB grow
  simp only [mn_eq, mx_eq]
  refine ⟨?_, ?_, ?_, ?_⟩ <;> split <;> omega
theorem boxOf_ok (r : List Place) (hr : r.length ≤ 1048576) (m : Int) : ∃ B b, gBoxS (r, ()) = some (B, b, ()) ∧ gBox (r, ()) = some (B, b, ()) ∧ ((∀ p ∈ r, isPl p = true ∧ (-m ≤ p.X ∧ p.X ≤ m) ∧ (-m ≤ p.Y ∧ p.Y ≤ m)) → 1 ≤ r.length → b = true ∧ InB m B) := by
  cases r with
  | nil =>
    refine ⟨⟨⟨0, 0⟩, ⟨0, 0⟩⟩, false, ?_, rfl, fun _ h => by simp at h⟩
    unfold gBoxS F147
    rw [show fuel = (fuel - 1) + 1 by rw [fuel_eq], iterF_succ]
    rfl
  | cons p0 r0 =>
    generalize hrr : p0 :: r0 = r at *
    have h0 : r[0]? = some p0 := by rw [← hrr]; rfl
    have hp : 0 < r.length := by rw [← hrr]; simp
    have key : ∀ (d i n : Nat) (B : Box), 1 ≤ i → i + d = r.length → d < n → ((∀ p ∈ r, isPl p = true ∧ (-m ≤ p.X ∧ p.X ≤ m) ∧ (-m ≤ p.Y ∧ p.Y ≤ m)) → InB m B) → ∃ B' b,
        iterF (s147_0 gPlS F184 F79) n (r, (⟨⟨0, 0⟩, ⟨0, 0⟩⟩ : Box), B, r, Int.ofNat r.length, (i : Int), ()) (fun t12 => some (t12.2.2.1, (decide ((Int.ofNat (List.length t12.1)) > 0)), ())) = some (B', b, ()) ∧
        iterF (s151_0 gPl) n ((⟨⟨0, 0⟩, ⟨0, 0⟩⟩ : Box), B, r, Int.ofNat r.length, (i : Int), ()) (fun t6 => some (t6.2.1, true, ())) = some (B', b, ()) ∧ ((∀ p ∈ r, isPl p = true ∧ (-m ≤ p.X ∧ p.X ≤ m) ∧ (-m ≤ p.Y ∧ p.Y ≤ m)) → b = true ∧ InB m B') := by
      intro d
      induction d with
      | zero =>
        intro i n B h1 hd hn hB
        obtain ⟨n, rfl⟩ : ∃ k, n = k + 1 := ⟨n - 1, by omega⟩
        refine ⟨B, true, ?_, ?_, fun h => ⟨rfl, hB h⟩⟩
        · rw [iterF_succ]; simp only [s147_0]; rw [cond_false_dec (by simp; omega), decide_eq_true (by simp; omega)]
        · rw [iterF_succ]; simp only [s151_0]; rw [cond_false_dec (by simp; omega)]
      | succ d ih =>
        intro i n B h1 hd hn hB
        obtain ⟨n, rfl⟩ : ∃ k, n = k + 1 := ⟨n - 1, by omega⟩
        have hi : i < r.length := by omega
        have hx : r[i]? = some r[i] := by simp
        have e1 : w64 ((i : Int) + 1) = ((i + 1 : Nat) : Int) := w64_id (by omega) (by omega)
        cases hpl : isPl r[i]
        · refine ⟨⟨⟨0, 0⟩, ⟨0, 0⟩⟩, false, ?_, ?_, fun h => ?_⟩
          · rw [iterF_succ]; simp only [s147_0]; rw [cond_true_dec (by simp; omega), rdL_at hx]; simp only [placeS, hpl, Option.bind_some]; rfl
          · rw [iterF_succ]; simp only [s151_0]; rw [cond_true_dec (by simp; omega), rdL_at hx]; simp only [placeI, hpl, Option.bind_some]; rfl
          · have := (h r[i] (by simp)).1
            rw [hpl] at this; cases this
        · obtain ⟨B', b, g1, g2, g3⟩ := ih (i + 1) n (grow B r[i]) (by omega) (by omega) (by omega) fun h => grow_in (hB h) (h r[i] (by simp)).2.1 (h r[i] (by simp)).2.2
          refine ⟨B', b, ?_, ?_, g3⟩
          · rw [iterF_succ]; simp only [s147_0]; rw [cond_true_dec (by simp; omega), rdL_at hx]
            simp only [placeS, hpl, Option.bind_some, Bool.not_true, cond_false]
            rw [cond_false_dec (by omega)]
            simp only [min_is, max_is, Option.bind_some]
            rw [e1]; exact g1
          · rw [iterF_succ]; simp only [s151_0]; rw [cond_true_dec (by simp; omega), rdL_at hx]
            simp only [placeI, hpl, Option.bind_some, Bool.not_true, cond_false]
            rw [e1]; exact g2
    unfold gBoxS F147 gBox F151
    simp only
    rw [cond_false_dec (by simp only [Int.ofNat_eq_natCast]; omega), show rdL r 0 = fun (K : Place → Option (Box × Bool × Unit)) => K p0 from funext fun K => rdL_at (i := 0) h0]
    dsimp only
    obtain ⟨n, hn⟩ := fuel_ge 1 (by omega)
    have hnl : r.length ≤ n := by have := fuel_eq; omega
    rw [hn, iterF_succ, iterF_succ]
    simp only [s147_0, s151_0]
    rw [cond_true_dec (by simp; omega), cond_true_dec (by simp; omega)]
    rw [show rdL r 0 = fun (K : Place → Option (Box × Bool × Unit)) => K p0 from funext fun K => rdL_at (i := 0) h0]
    simp only [placeS, placeI, Option.bind_some]
    have mem : p0 ∈ r := by rw [← hrr]; simp
    cases hpl : isPl p0
    · refine ⟨⟨⟨0, 0⟩, ⟨0, 0⟩⟩, false, rfl, rfl, fun h _ => ?_⟩
      have := (h p0 mem).1
      rw [hpl] at this; cases this
    · obtain ⟨B', b, g1, g2, g3⟩ := key (r.length - 1) 1 n ⟨p0, p0⟩ (by omega) (by omega) (by omega) fun h => by
        have := h p0 mem
        exact ⟨this.2.1, this.2.2, this.2.1, this.2.2⟩
      have e1 : w64 (0 + 1) = ((1 : Nat) : Int) := by kernel_rfl
      refine ⟨B', b, ?_, ?_, fun h _ => g3 h⟩
      · simp only [Bool.not_true, cond_false, decide_true, cond_true, min_is, max_is, Option.bind_some, mn_self, mx_self, e1]
        exact g1
      · simp only [Bool.not_true, cond_false, mn_self, mx_self, e1]
        exact g2
noncomputable abbrev gRBS := F89 gBoxS gRoseS
noncomputable abbrev gRB := F94 gRose gW gBox
theorem roseBox_ok (r : List Place) (hr : r.length ≤ 1048576) (n : Int) : ∃ B b, gRBS (r, n, ()) = some (B, b, ()) ∧ gRB (r, n, ()) = some (B, b, ()) ∧ (b = true → 0 ≤ n ∧ n ≤ 128 ∧ ∃ C, InB 8 C ∧ B = ⟨⟨w64 (n * C.Low.X), w64 (n * C.Low.Y)⟩, ⟨w64 (n * C.High.X), w64 (n * C.High.Y)⟩⟩) := by
  obtain ⟨C, cb, c1, c2, c3⟩ := boxOf_ok r hr 8
  obtain ⟨rb, r1, r2⟩ := rose_ok r hr
  have r1' : gRoseS (r, ()) = some (rb, ()) := by rw [rose_same]; exact r1
  unfold gRBS F89 gRB F94
  simp only [c1, c2, r1, r1', Option.bind_some, within_is]
  cases rb with
  | false => exact ⟨_, _, rfl, rfl, fun h => by cases h⟩
  | true =>
    simp only [Bool.not_true, Bool.not_false, cond_true]
    by_cases hn : n < 0
    · rw [decide_eq_true hn, show wi n 0 128 = false by rw [← Bool.not_eq_true, wi_true]; omega]
      exact ⟨_, _, rfl, rfl, fun h => by cases h⟩
    · rw [decide_eq_false hn]
      simp only [Bool.not_false, cond_true]
      by_cases hm : n > 128
      · rw [cond_true_dec hm, show wi n 0 128 = false by rw [← Bool.not_eq_true, wi_true]; omega]
        exact ⟨_, _, rfl, rfl, fun h => by cases h⟩
      · rw [cond_false_dec hm, wi_of (by omega) (by omega)]
        obtain ⟨q1, q2, q3⟩ := r2 rfl
        have := c3 (fun p hp => by
          have hd := q3 p hp
          simp only [isDr, Bool.and_eq_true, wi_true] at hd
          refine ⟨?_, hd.1, hd.2⟩
          unfold isPl
          rw [wi_of (by omega) (by omega), wi_of (by omega) (by omega)]; rfl) q1
        exact ⟨_, _, rfl, rfl, fun _ => ⟨by omega, by omega, C, this.2, rfl⟩⟩
noncomputable abbrev gLBS := F35 gLandS gFlS gRBS F91
noncomputable abbrev gLB := F38 gLand gFl gRB
theorem landBox_ok (j : Jet) (r : List Place) (hr : r.length ≤ 1048576) : ∃ B b, gLBS (j, r, ()) = some (B, b, ()) ∧ gLB (j, r, ()) = some (B, b, ()) := by
  obtain ⟨B, b, h1, h2, _⟩ := roseBox_ok r hr (fl j)
  unfold gLBS F35 gLB F38
  simp only [landS, landI, flS, flI, h1, h2, Option.bind_some, F91]
  cases (landP j).2 <;> cases b <;> exact ⟨_, _, rfl, rfl⟩
/-! ### Lists of places: copied, compared -/
theorem szPlaces (l : List Place) (hl : l.length ≤ 1048576) (n : Int) (hn : 0 ≤ n ∧ n ≤ 1048576) : F34 (l, n, ()) = some (if n < (l.length : Int) then -1 else n - (l.length : Int), ()) := by
  unfold F34
  have e : w64 (n - Int.ofNat l.length) = n - (l.length : Int) := w64_id (by simp; omega) (by simp; omega)
  simp only [e]
  by_cases h : n < (l.length : Int)
  · rw [cond_true_dec (by omega), if_pos h]
  · rw [cond_false_dec (by omega), if_neg h]
theorem szPlaces_big (l : List Place) (hl : ¬ l.length ≤ 1048576) (hm : l.length ≤ 9223372036854775807) (n : Int) (hn : 0 ≤ n ∧ n ≤ 1048576) : F34 (l, n, ()) = some (-1, ()) := by
  unfold F34
  have e : w64 (n - Int.ofNat l.length) = n - (l.length : Int) := w64_id (by simp; omega) (by simp; omega)
  simp only [e]
  rw [cond_true_dec (by omega)]
noncomputable abbrev gToPs := F37 F92
theorem toPlaces (l : List Place) (hl : l.length ≤ 1048576) : gToPs (l, ()) = some (l, ()) := by
  unfold gToPs F37
  rw [okIf_pos (by simp), capK_le (by simp; omega)]
  obtain ⟨t, ⟨m, rfl, h1, h2⟩, e⟩ := iterF_all (f := s37_0 F92) (K := fun t4 => some (t4.2.1, ())) (t := (l, List.replicate (Int.toNat (Int.ofNat l.length)) (Ty.zero .place), 0, ())) l.length
    (fun i t => ∃ m : List Place, t = (l, m, (i : Int), ()) ∧ m.length = l.length ∧ ∀ j, j < i → m[j]? = l[j]?) (by omega) ⟨_, rfl, by simp, fun j hj => by omega⟩
    (by
      rintro i _ hi ⟨m, rfl, h1, h2⟩
      have hx : l[i]? = some l[i] := by simp
      have hd : m[i]? = some m[i] := by simp
      refine ⟨_, ⟨m.set i l[i], rfl, by simp [h1], fun j hj => ?_⟩, fun rec K => ?_⟩
      · rw [List.getElem?_set]
        by_cases hji : i = j
        · subst hji; simp [h1, hi]
        · simp only [if_neg hji]; exact h2 j (by omega)
      · simp only [s37_0]
        rw [cond_dec, if_pos (by simp; omega), rdL_at hx]
        simp only [F92, Option.bind_some]
        rw [rdL_at hd]
        simp only [Int.toNat_natCast]
        rw [hd, w64_id (by omega) (by omega)]
        rfl)
    (by
      rintro _ ⟨m, rfl, h1, h2⟩ rec K
      simp only [s37_0]
      rw [cond_dec, if_neg (by simp)])
  have : m = l := List.ext_getElem? fun j => by
    by_cases hj : j < l.length
    · exact h2 j hj
    · rw [List.getElem?_eq_none (by omega), List.getElem?_eq_none (by omega)]
  subst this
  exact e
theorem eqPlace_self (a : Place) : F96 (a, a, ()) = some (true, ()) := by
  unfold F96; simp
theorem eqPlaces (l : List Place) (hl : l.length ≤ 1048576) : F40 F96 (l, l, ()) = some (true, ()) := by
  unfold F40
  simp only [decide_true, Bool.not_true, cond_false]
  obtain ⟨t, ⟨_, rfl⟩, e⟩ := iterF_all (f := s40_0 F96) (K := fun _ => some (true, ())) (t := (l, l, 0, ())) l.length
    (fun i t => True ∧ t = (l, l, (i : Int), ())) (by omega) ⟨trivial, rfl⟩
    (by
      rintro i _ hi ⟨_, rfl⟩
      have hx : l[i]? = some l[i] := by simp
      refine ⟨_, ⟨trivial, rfl⟩, fun rec K => ?_⟩
      simp only [s40_0]
      rw [cond_true_dec (by simp <;> omega), rdL_at hx, rdL_at hx, eqPlace_self, w64_id (by omega) (by omega)]
      rfl)
    (by
      rintro _ ⟨_, rfl⟩ rec K
      simp only [s40_0]
      rw [cond_false_dec (by simp)])
  exact e
end Ev
