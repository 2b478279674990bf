/- What a run ends with: rules for the shapes that the functions' texts have. Places, jets, roses and boxes. Names. Scores: cues, ramps, levels. Shows: rigs, scores, winds. -/
import Derived.Test.YtpnlcamcnhpbhaaGreatPureA
import Derived.Test.YtpnlcamcnhpbhaaGreatAbb
set_option linter.unusedVariables false
set_option linter.unusedSimpArgs false
set_option maxRecDepth 100000
namespace Ev
open Go
def wp {R : Type} (o : Option R) (Q : R → Prop) : Prop := ∃ r, o = some r ∧ Q r
theorem wp_some {R : Type} {r : R} {Q : R → Prop} (h : Q r) : wp (some r) Q := ⟨r, rfl, h⟩
theorem wp_mono {R : Type} {o : Option R} {P Q : R → Prop} (h : wp o P) (k : ∀ r, P r → Q r) : wp o Q := by
  obtain ⟨r, e, p⟩ := h
  exact ⟨r, e, k r p⟩
theorem wp_bind {R S : Type} {o : Option R} {K : R → Option S} {P : R → Prop} {Q : S → Prop} (h : wp o P) (k : ∀ r, P r → wp (K r) Q) : wp (o.bind K) Q := by
  obtain ⟨r, e, p⟩ := h
  rw [e]
  exact k r p
theorem wp_cond {R : Type} {c : Bool} {a b : Option R} {Q : R → Prop} (h1 : c = true → wp a Q) (h2 : c = false → wp b Q) : wp (cond c a b) Q := by
  cases c with
  | true => exact h1 rfl
  | false => exact h2 rfl
theorem wp_dec {R : Type} {p : Prop} [Decidable p] {a b : Option R} {Q : R → Prop} (h1 : p → wp a Q) (h2 : ¬ p → wp b Q) : wp (cond (decide p) a b) Q := by
  by_cases h : p
  · rw [cond_true_dec h]; exact h1 h
  · rw [cond_false_dec h]; exact h2 h
theorem wp_cap {R : Type} {n : Nat} {o : Option R} {Q : R → Prop} (h : n ≤ 1099511627776) (k : wp o Q) : wp (capK n o) Q := by
  rw [capK_le h]; exact k
theorem wp_okIf {R : Type} {p : Prop} [Decidable p] {o : Option R} {Q : R → Prop} (h : p) (k : wp o Q) : wp (okIf p o) Q := by
  rw [okIf_pos h]; exact k
theorem wp_rd {R α : Type} {l : List α} {i : Int} {K : α → Option R} {Q : R → Prop} (h0 : 0 ≤ i) (h1 : i < l.length) (k : ∀ x, x ∈ l → l[i.toNat]? = some x → wp (K x) Q) : wp (rdL l i K) Q := by
  obtain ⟨n, rfl⟩ := Int.eq_ofNat_of_zero_le h0
  have hn : n < l.length := by omega
  have hx : l[n]? = some l[n] := by simp
  rw [rdL_at hx]
  exact k _ (by simp) (by simp [hn])
/-- A loop whose measure falls. -/
theorem wp_iterN {R T : Type} {f : T → (T → Option R) → (T → Option R) → Option R} {K : T → Option R} {Q : R → Prop} (I : Nat → T → Prop)
    (hs : ∀ j t, I j t → ∀ rec : T → Option R, (∀ j' t', j' < j → I j' t' → wp (rec t') Q) → wp (f t rec K) Q) :
    ∀ (m j : Nat) (t : T), j < m → I j t → wp (iterF f m t K) Q := by
  intro m
  induction m with
  | zero => intro j t h; omega
  | succ m ih =>
    intro j t hj h
    exact hs j t h _ fun j' t' hlt h' => ih j' t' (by omega) h'
theorem wp_iter {R T : Type} {f : T → (T → Option R) → (T → Option R) → Option R} {K : T → Option R} {Q : R → Prop} {t : T} (j : Nat) (I : Nat → T → Prop) (hj : j < 36893488147419103232) (h0 : I j t)
    (hs : ∀ j t, I j t → ∀ rec : T → Option R, (∀ j' t', j' < j → I j' t' → wp (rec t') Q) → wp (f t rec K) Q) : wp (iterF f fuel t K) Q :=
  wp_iterN I hs fuel j t (by rw [fuel_eq]; exact hj) h0
/-- The same, where what comes behind the loop is looked at apart. -/
theorem wp_loop {R T : Type} {f : T → (T → Option R) → (T → Option R) → Option R} {K : T → Option R} {Q : R → Prop} {t : T} (j : Nat) (I : Nat → T → Prop) (P : T → Prop) (hj : j < 36893488147419103232) (h0 : I j t)
    (hs : ∀ j t, I j t → ∀ rec K : T → Option R, (∀ j' t', j' < j → I j' t' → wp (rec t') Q) → (∀ t', P t' → wp (K t') Q) → wp (f t rec K) Q) (hk : ∀ t, P t → wp (K t) Q) : wp (iterF f fuel t K) Q :=
  wp_iter j I hj h0 fun j t h rec hr => hs j t h rec K hr hk
/-- A loop over states that are known. -/
theorem iterF_for {R T : Type} {f : T → (T → Option R) → (T → Option R) → Option R} {K : T → Option R} (st : Nat → T) (n : Nat) (hn : n ≤ 18446744073709551616)
    (hs : ∀ i, i < n → ∀ rec K, f (st i) rec K = rec (st (i + 1))) (he : ∀ rec K, f (st n) rec K = K (st n)) : iterF f fuel (st 0) K = K (st n) := by
  obtain ⟨t, e1, e⟩ := iterF_all (f := f) (K := K) (t := st 0) n (fun i t => t = st i) hn rfl (fun i t hi h => ⟨st (i + 1), rfl, fun rec K => by rw [h]; exact hs i hi rec K⟩) (fun t h rec K => by rw [h]; exact he rec K)
  rw [e, e1]
/-- A loop that looks at each state, and is left with 'r' where one is not as it should be. -/
theorem iterF_chkN {R T : Type} {f : T → (T → Option R) → (T → Option R) → Option R} {K : T → Option R} (st : Nat → T) (p : Nat → Bool) (r : Option R) (n : Nat)
    (hs : ∀ i, i < n → ∀ rec K, f (st i) rec K = cond (p i) (rec (st (i + 1))) r) (he : ∀ rec K, f (st n) rec K = K (st n)) :
    ∀ (d i m : Nat), i + d = n → d < m → iterF f m (st i) K = cond ((List.range' i d).all p) (K (st n)) r := by
  intro d
  induction d with
  | zero =>
    intro i m h1 h2
    obtain ⟨m, rfl⟩ : ∃ k, m = k + 1 := ⟨m - 1, by omega⟩
    have : i = n := by omega
    subst this
    rw [iterF_succ, he]; rfl
  | succ d ih =>
    intro i m h1 h2
    obtain ⟨m, rfl⟩ : ∃ k, m = k + 1 := ⟨m - 1, by omega⟩
    rw [iterF_succ, hs i (by omega), ih (i + 1) m (by omega) (by omega), List.range'_succ, List.all_cons]
    cases p i <;> rfl
theorem iterF_chk {R T : Type} {f : T → (T → Option R) → (T → Option R) → Option R} {K : T → Option R} (st : Nat → T) (p : Nat → Bool) (r : Option R) (n : Nat) (hn : n ≤ 18446744073709551616)
    (hs : ∀ i, i < n → ∀ rec K, f (st i) rec K = cond (p i) (rec (st (i + 1))) r) (he : ∀ rec K, f (st n) rec K = K (st n)) :
    iterF f fuel (st 0) K = cond ((List.range n).all p) (K (st n)) r := by
  rw [List.range_eq_range']
  exact iterF_chkN st p r n hs he n 0 fuel (by omega) (by rw [fuel_eq]; omega)
/-! ### Cursors of drawn bytes -/
abbrev Cur := List Int × Int × Int × Unit
def CurP {α : Type} (b : List Int) (P : α → Prop) (r : Cur × α × Unit) : Prop := ∃ i h, r.1 = (b, i, h, ()) ∧ 0 ≤ i ∧ P r.2.1
theorem wp_cur {α S : Type} {b : List Int} {P : α → Prop} {o : Option (Cur × α × Unit)} {K : Cur × α × Unit → Option S} {Q : S → Prop} (h : wp o (CurP b P)) (k : ∀ i h v, 0 ≤ i → P v → wp (K ((b, i, h, ()), v, ())) Q) : wp (o.bind K) Q := by
  obtain ⟨⟨c, v, u⟩, e, i, h, hc, hi, hp⟩ := h
  rw [e]
  have hc : c = (b, i, h, ()) := hc
  subst hc
  exact k i h v hi hp
theorem wp_ret {α : Type} {b : List Int} {P : α → Prop} {i h : Int} {v : α} (hi : 0 ≤ i) (hp : P v) : wp (some ((b, i, h, ()), v, ())) (CurP b P) := ⟨_, rfl, i, h, rfl, hi, hp⟩
end Ev

namespace Ev
open Go
theorem fuel_ge (m : Nat) (hm : m ≤ 1000) : ∃ n, fuel = n + m := ⟨fuel - m, by rw [fuel_eq]; omega⟩
def wi (a b c : Int) : Bool := decide (b ≤ a) && decide (a ≤ c)
theorem wi_true {a b c : Int} : wi a b c = true ↔ b ≤ a ∧ a ≤ c := by simp [wi]
theorem wi_of {a b c : Int} (h1 : b ≤ a) (h2 : a ≤ c) : wi a b c = true := wi_true.2 ⟨h1, h2⟩
noncomputable abbrev gIn := F52
noncomputable abbrev gW := F42
theorem in_is (a b c : Int) : gIn (a, b, c, ()) = some (wi a b c, ()) := by
  unfold gIn F52 wi
  by_cases h : b ≤ a <;> simp [h]
theorem within_is (a b c : Int) : gW (a, b, c, ()) = some (wi a b c, ()) := by
  unfold gW F42 wi
  by_cases h : b ≤ a <;> simp [h]
/-! ### Headings, measures, places, jets -/
theorem headS (h : Int) : F178 (h, ()) = some (wi h 0 3, ()) := by
  unfold F178 wi
  by_cases h0 : 0 ≤ h <;> simp [h0]
noncomputable abbrev gHead := F126 gW
theorem headI (h : Int) : gHead (h, ()) = some (wi h 0 3, ()) := by
  unfold gHead F126
  simp only [within_is, Option.bind_some]
theorem measS (x : Int) : F141 (x, ()) = some (wi x (-4096) 4096, ()) := by
  unfold F141 wi
  by_cases h0 : -4096 ≤ x <;> simp [h0]
noncomputable abbrev gMeas := F90 gW
theorem measI (x : Int) : gMeas (x, ()) = some (wi x (-4096) 4096, ()) := by
  unfold gMeas F90
  simp only [within_is, Option.bind_some]
def isPl (p : Place) : Bool := wi p.X (-4096) 4096 && wi p.Y (-4096) 4096
noncomputable abbrev gPlS := F94 F141
noncomputable abbrev gPl := F43 gMeas
theorem placeS (p : Place) : gPlS (p, ()) = some (isPl p, ()) := by
  unfold gPlS F94 isPl
  simp only [measS, Option.bind_some]
  cases wi p.X (-4096) 4096 <;> rfl
theorem placeI (p : Place) : gPl (p, ()) = some (isPl p, ()) := by
  unfold gPl F43 isPl
  simp only [measI, Option.bind_some]
  cases wi p.X (-4096) 4096 <;> rfl
def isJet (j : Jet) : Bool := wi j.At.X (-1024) 1024 && (wi j.At.Y (-1024) 1024 && (wi j.Heading 0 3 && (wi j.Tilt 0 16 && wi j.Lift 1 32)))
noncomputable abbrev gJetS := F140 gIn F178
noncomputable abbrev gJet := F129 gW gHead
theorem jetS (j : Jet) : gJetS (j, ()) = some (isJet j, ()) := by
  unfold gJetS F140 isJet
  simp only [in_is, headS, Option.bind_some]
  cases wi j.At.X (-1024) 1024 <;> cases wi j.At.Y (-1024) 1024 <;> cases wi j.Heading 0 3 <;> cases wi j.Tilt 0 16 <;> rfl
theorem jetI (j : Jet) : gJet (j, ()) = some (isJet j, ()) := by
  unfold gJet F129 isJet
  simp only [within_is, headI, Option.bind_some]
  cases wi j.At.X (-1024) 1024 <;> cases wi j.At.Y (-1024) 1024 <;> cases wi j.Heading 0 3 <;> cases wi j.Tilt 0 16 <;> rfl
structure JetOK (j : Jet) : Prop where
  x : -1024 ≤ j.At.X ∧ j.At.X ≤ 1024
  y : -1024 ≤ j.At.Y ∧ j.At.Y ≤ 1024
  h : 0 ≤ j.Heading ∧ j.Heading ≤ 3
  t : 0 ≤ j.Tilt ∧ j.Tilt ≤ 16
  l : 1 ≤ j.Lift ∧ j.Lift ≤ 32
theorem jet_ok {j : Jet} (h : isJet j = true) : JetOK j := by
  simp only [isJet, Bool.and_eq_true, wi_true] at h
  exact ⟨h.1, h.2.1, h.2.2.1, h.2.2.2.1, h.2.2.2.2⟩
/-! ### Flights -/
theorem flight_loop (f : Jet × Unit → Option (Bool × Unit)) (L : Int) (h1 : 1 ≤ L) (h2 : L ≤ 32) (n : Nat) : iterF (s93_0 f) (n + 40) (1, L, w64 (L - 2), ()) (fun t3 => some (t3.1, ())) = some (L + 1, ()) := by
  have : L = 1 ∨ L = 2 ∨ L = 3 ∨ L = 4 ∨ L = 5 ∨ L = 6 ∨ L = 7 ∨ L = 8 ∨ L = 9 ∨ L = 10 ∨ L = 11 ∨ L = 12 ∨ L = 13 ∨ L = 14 ∨ L = 15 ∨ L = 16 ∨ L = 17 ∨ L = 18 ∨ L = 19 ∨ L = 20 ∨ L = 21 ∨ L = 22 ∨ L = 23 ∨ L = 24 ∨ L = 25 ∨ L = 26 ∨ L = 27 ∨ L = 28 ∨ L = 29 ∨ L = 30 ∨ L = 31 ∨ L = 32 := by omega
  rcases this with rfl | rfl | rfl | rfl | rfl | rfl | rfl | rfl | rfl | rfl | rfl | rfl | rfl | rfl | rfl | rfl | rfl | rfl | rfl | rfl | rfl | rfl | rfl | rfl | rfl | rfl | rfl | rfl | rfl | rfl | rfl | rfl <;> (show _ = _; kernel_rfl)
noncomputable abbrev gFlS := F93 gJetS
noncomputable abbrev gFl := F81 gJet
def fl (j : Jet) : Int := if isJet j = true then j.Lift + 1 else 0
theorem flS (j : Jet) : gFlS (j, ()) = some (fl j, ()) := by
  unfold gFlS F93 fl
  simp only [jetS, Option.bind_some]
  cases h : isJet j
  · rfl
  · have J := jet_ok h
    obtain ⟨n, hn⟩ := fuel_ge 40 (by omega)
    simp only [Bool.not_true, cond_false, hn]
    rw [flight_loop _ _ J.l.1 J.l.2, if_pos trivial]
theorem flI (j : Jet) : gFl (j, ()) = some (fl j, ()) := by
  unfold gFl F81 fl
  simp only [jetI, Option.bind_some]
  cases h : isJet j
  · rfl
  · have J := jet_ok h
    have := J.l
    simp only [Bool.not_true, cond_false, if_true]
    rw [w64_id (by omega) (by omega)]
/-! ### Turns -/
def rotN : Nat → Place → Place
  | 0, p => p
  | k + 1, p => rotN k ⟨w64 (0 - p.Y), p.X⟩
theorem k4 {k : Nat} (h : k < 4) : k = 0 ∨ k = 1 ∨ k = 2 ∨ k = 3 := by omega
noncomputable abbrev gTurnS := F177 F190
noncomputable abbrev gTurn := F44 F91
theorem turn_loopS (f) (p z : Place) (n k : Nat) (hk : k < 4) (K) : ∃ c, iterF (s177_0 f) (n + 9) (p, z, (k : Int), ()) K = K (rotN k p, c) := by
  rcases k4 hk with rfl | rfl | rfl | rfl <;> exact ⟨(z, 0, ()), by kernel_rfl⟩
theorem turn_loopI (f) (p z : Place) (n k : Nat) (hk : k < 4) (K) : ∃ c, iterF (s44_0 f) (n + 9) (p, z, (k : Int), 0, ()) K = K (rotN k p, c) := by
  rcases k4 hk with rfl | rfl | rfl | rfl
  · exact ⟨(z, 0, 0, ()), by kernel_rfl⟩
  · exact ⟨(z, 1, 1, ()), by kernel_rfl⟩
  · exact ⟨(z, 2, 2, ()), by kernel_rfl⟩
  · exact ⟨(z, 3, 3, ()), by kernel_rfl⟩
theorem turnS (p : Place) (k : Nat) (hk : k < 4) : gTurnS (p, (k : Int), ()) = some (rotN k p, ()) := by
  unfold gTurnS F177
  have e : F190 ((k : Int), ()) = some ((k : Int), ()) := by rcases k4 hk with rfl | rfl | rfl | rfl <;> kernel_rfl
  simp only [e, Option.bind_some]
  obtain ⟨n, hn⟩ := fuel_ge 9 (by omega)
  obtain ⟨c, hc⟩ := turn_loopS F190 p ⟨0, 0⟩ n k hk (fun t3 => some (t3.1, ()))
  rw [hn, hc]
theorem turnI (p : Place) (k : Nat) (hk : k < 4) : gTurn (p, (k : Int), ()) = some (rotN k p, ()) := by
  unfold gTurn F44
  have e : F91 ((k : Int), ()) = some ((k : Int), ()) := by rcases k4 hk with rfl | rfl | rfl | rfl <;> kernel_rfl
  simp only [e, Option.bind_some]
  obtain ⟨n, hn⟩ := fuel_ge 9 (by omega)
  obtain ⟨c, hc⟩ := turn_loopI F91 p ⟨0, 0⟩ n k hk (fun t3 => some (t3.1, ()))
  rw [hn, hc]
theorem rot_bound (x m : Int) (h0 : 0 ≤ x) (hm : x ≤ m) (hb : m ≤ 1099511627776) (k : Nat) (hk : k < 4) : -m ≤ (rotN k ⟨x, 0⟩).X ∧ (rotN k ⟨x, 0⟩).X ≤ m ∧ -m ≤ (rotN k ⟨x, 0⟩).Y ∧ (rotN k ⟨x, 0⟩).Y ≤ m := by
  have e0 : w64 (0 - 0) = 0 := w64_id (by omega) (by omega)
  have e1 : w64 (0 - x) = -x := by rw [w64_id (by omega) (by omega)]; omega
  have e2 : w64 (0 - -x) = x := by rw [w64_id (by omega) (by omega)]; omega
  rcases k4 hk with rfl | rfl | rfl | rfl <;> simp only [rotN, e0, e1, e2] <;> omega
/-! ### Landings -/
def land (j : Jet) : Place := ⟨w64 (j.At.X + (rotN j.Heading.toNat ⟨w64 ((j.Lift + 1) * j.Tilt), 0⟩).X), w64 (j.At.Y + (rotN j.Heading.toNat ⟨w64 ((j.Lift + 1) * j.Tilt), 0⟩).Y)⟩
theorem jump {j : Jet} (J : JetOK j) : w64 ((j.Lift + 1) * j.Tilt) = (j.Lift + 1) * j.Tilt ∧ 0 ≤ (j.Lift + 1) * j.Tilt ∧ (j.Lift + 1) * j.Tilt ≤ 528 := by
  have hl := J.l; have ht := J.t
  have a : 0 ≤ (j.Lift + 1) * j.Tilt := Int.mul_nonneg (by omega) ht.1
  have b : (j.Lift + 1) * j.Tilt ≤ 33 * 16 := Int.mul_le_mul (by omega) ht.2 ht.1 (by omega)
  exact ⟨w64_id (by omega) (by omega), a, by omega⟩
theorem land_bound {j : Jet} (J : JetOK j) : (-1552 ≤ (land j).X ∧ (land j).X ≤ 1552 ∧ -1552 ≤ (land j).Y ∧ (land j).Y ≤ 1552) ∧ (land j).X = j.At.X + (rotN j.Heading.toNat ⟨(j.Lift + 1) * j.Tilt, 0⟩).X ∧ (land j).Y = j.At.Y + (rotN j.Heading.toNat ⟨(j.Lift + 1) * j.Tilt, 0⟩).Y := by
  obtain ⟨e, h0, h1⟩ := jump J
  have hh := J.h; have hx := J.x; have hy := J.y
  obtain ⟨b1, b2, b3, b4⟩ := rot_bound ((j.Lift + 1) * j.Tilt) 528 h0 h1 (by omega) j.Heading.toNat (by omega)
  unfold land
  rw [e]
  simp only
  rw [w64_id (by omega) (by omega), w64_id (by omega) (by omega)]
  omega
noncomputable abbrev gPlaceAtS := F150 gJetS gFlS (F138 gTurnS F111)
noncomputable abbrev gLandS := F109 gFlS gPlaceAtS
noncomputable abbrev gAir := F130 gJet gFl gW
noncomputable abbrev gChk := F172 gPl
noncomputable abbrev gStep := F131 gPl gHead gMeas gTurn gChk
noncomputable abbrev gPlaceAt := F82 gAir gStep
noncomputable abbrev gLand := F104 gFl gPlaceAt
def landP (j : Jet) : Place × Bool := if isJet j = true then (land j, true) else (⟨0, 0⟩, false)
theorem landS (j : Jet) : gLandS (j, ()) = some ((landP j).1, (landP j).2, ()) := by
  unfold gLandS F109 gPlaceAtS F150 landP
  simp only [flS, jetS, Option.bind_some]
  cases h : isJet j
  · rfl
  · have J := jet_ok h
    have hl := J.l
    have hf : fl j = j.Lift + 1 := by unfold fl; rw [if_pos h]
    rw [hf]
    simp only [Bool.not_true, Bool.not_false, cond_true, if_true]
    rw [decide_eq_false (by omega : ¬ j.Lift + 1 < 0), cond_false_dec (by omega : ¬ j.Lift + 1 > j.Lift + 1)]
    simp only [Bool.not_false, cond_true]
    unfold F138
    have hk : j.Heading.toNat < 4 := by have := J.h; omega
    have hh : (j.Heading.toNat : Int) = j.Heading := by have := J.h; omega
    have := turnS ⟨w64 ((j.Lift + 1) * j.Tilt), 0⟩ j.Heading.toNat hk
    rw [hh] at this
    simp only [this, Option.bind_some, F111]
    rfl
theorem landI (j : Jet) : gLand (j, ()) = some ((landP j).1, (landP j).2, ()) := by
  unfold gLand F104 gPlaceAt F82 gAir F130 landP
  simp only [flI, jetI, Option.bind_some, within_is]
  cases h : isJet j
  · rfl
  · have J := jet_ok h
    have hl := J.l; have hx := J.x; have hy := J.y
    have hf : fl j = j.Lift + 1 := by unfold fl; rw [if_pos h]
    rw [hf]
    simp only [cond_true, Option.bind_some, wi_of (show (0 : Int) ≤ j.Lift + 1 by omega) (Int.le_refl _), Bool.not_true, cond_false, if_true]
    obtain ⟨e, h0, h1⟩ := jump J
    obtain ⟨lb, lx, ly⟩ := land_bound J
    unfold gStep F131
    have hk : j.Heading.toNat < 4 := by have := J.h; omega
    have hh : (j.Heading.toNat : Int) = j.Heading := by have := J.h; omega
    have ht := turnI ⟨w64 ((j.Lift + 1) * j.Tilt), 0⟩ j.Heading.toNat hk
    rw [hh] at ht
    have p1 : isPl j.At = true := by unfold isPl; rw [wi_of (by omega) (by omega), wi_of (by omega) (by omega)]; rfl
    have p2 : wi j.Heading 0 3 = true := wi_of J.h.1 J.h.2
    have p3 : wi (w64 ((j.Lift + 1) * j.Tilt)) (-4096) 4096 = true := by rw [e]; exact wi_of (by omega) (by omega)
    have p4 : isPl (land j) = true := by unfold isPl; rw [wi_of (by omega) (by omega), wi_of (by omega) (by omega)]; rfl
    have p5 : gChk (land j, ()) = some (land j, true, ()) := by
      unfold gChk F172
      simp only [placeI, p4, Option.bind_some]
      rfl
    simp only [placeI, headI, measI, p1, p2, p3, ht, Option.bind_some, Bool.not_true, Bool.not_false, cond_true, cond_false]
    have p6 : (⟨w64 (j.At.X + (rotN j.Heading.toNat ⟨w64 ((j.Lift + 1) * j.Tilt), 0⟩).X), w64 (j.At.Y + (rotN j.Heading.toNat ⟨w64 ((j.Lift + 1) * j.Tilt), 0⟩).Y)⟩ : Place) = land j := rfl
    rw [p6, p5]
    rfl
/-! ### Roses -/
def isDr (p : Place) : Bool := wi p.X (-8) 8 && wi p.Y (-8) 8
noncomputable abbrev gDrS := F101 gIn
noncomputable abbrev gDr := F89 gW
theorem drS (p : Place) : gDrS (p, ()) = some (isDr p, ()) := by
  unfold gDrS F101 isDr
  simp only [in_is, Option.bind_some]
  cases wi p.X (-8) 8 <;> rfl
theorem drI (p : Place) : gDr (p, ()) = some (isDr p, ()) := by
  unfold gDr F89 isDr
  simp only [within_is, Option.bind_some]
  cases wi p.X (-8) 8 <;> rfl
def cmpI (a b : Int) : Int := if a < b then -1 else if a > b then 1 else 0
def cmpP (p q : Place) : Int := if cmpI p.X q.X = 0 then cmpI p.Y q.Y else cmpI p.X q.X
noncomputable abbrev gCmp := F115 F161
theorem cmpI_is (a b : Int) : gCmp (a, b, ()) = some (cmpI a b, ()) := by
  unfold gCmp F115 F161 cmpI
  simp only [decide_true, Bool.not_true, Option.bind_some, cond_false]
  by_cases h1 : a < b
  · simp [h1]
  · by_cases h2 : a > b <;> simp [h1, h2]
theorem or_0 (a b : Int) (n : Nat) (K) : iterF s114_0 (n + 5) (0, [a, b], 2, 0, ()) K = cond (!(decide (a = 0))) (some (a, ())) (iterF s114_0 (n + 4) (0, [a, b], 2, 1, ()) K) := by kernel_rfl
theorem or_1 (a b : Int) (n : Nat) (K) : iterF s114_0 (n + 4) (0, [a, b], 2, 1, ()) K = cond (!(decide (b = 0))) (some (b, ())) (iterF s114_0 (n + 3) (0, [a, b], 2, 2, ()) K) := by kernel_rfl
theorem or_2 (a b : Int) (n : Nat) (K) : iterF s114_0 (n + 3) (0, [a, b], 2, 2, ()) K = K (0, [a, b], 2, 2, ()) := by kernel_rfl
theorem or_is (a b : Int) : F114 ([a, b], ()) = some (if a = 0 then b else a, ()) := by
  unfold F114
  obtain ⟨n, hn⟩ := fuel_ge 5 (by omega)
  rw [hn]
  have l : Int.ofNat [a, b].length = 2 := rfl
  simp only [l]
  rw [or_0]
  by_cases ha : a = 0
  · rw [decide_eq_true ha, if_pos ha, or_1]
    by_cases hb : b = 0
    · rw [decide_eq_true hb, or_2, hb]; rfl
    · rw [decide_eq_false hb]; rfl
  · rw [decide_eq_false ha, if_neg ha]; rfl
noncomputable abbrev gCmpP := F65 gCmp F114
theorem cmpPI (p q : Place) : gCmpP (p, q, ()) = some (cmpP p q, ()) := by
  unfold gCmpP F65 cmpP
  simp only [cmpI_is, or_is, Option.bind_some]
theorem cmpPS (p q : Place) : F106 (p, q, ()) = some (cmpP p q, ()) := by
  unfold F106 cmpP cmpI
  simp only [Bool.and_true]
  by_cases h1 : p.X < q.X
  · simp [h1]
  · by_cases h2 : p.X = q.X
    · by_cases h3 : p.Y < q.Y
      · simp [h2, h3]
      · by_cases h4 : p.Y = q.Y
        · simp [h2, h4]
        · have : p.Y > q.Y := by omega
          simp [h2, h3, h4, this]
    · have : p.X > q.X := by omega
      simp [h1, h2, this]
noncomputable abbrev gRoseS := F60 gDrS F106
noncomputable abbrev gRose := F57 gDr gCmpP gW
theorem rose_same : gRoseS = gRose := by
  have e : s60_0 gDrS F106 = s57_0 gDr gCmpP gW := by
    funext t rec K
    simp only [s60_0, s57_0, drS, drI, cmpPS, cmpPI]
  funext a
  unfold gRoseS gRose F60 F57
  rw [e]
  congr 1
  funext t
  simp only [within_is, Option.bind_some]
  unfold wi
  by_cases h : Int.ofNat t.1.length ≥ 1
  · have h' : 1 ≤ Int.ofNat t.1.length := h
    rw [cond_true_dec h, decide_eq_true h', Bool.true_and]
  · have h' : ¬ 1 ≤ Int.ofNat t.1.length := h
    rw [cond_false_dec h, decide_eq_false h']; rfl
theorem rose_ok (r : List Place) (hr : r.length ≤ 1048576) : ∃ b, gRose (r, ()) = some (b, ()) ∧ (b = true → 1 ≤ r.length ∧ r.length ≤ 4 ∧ ∀ p ∈ r, isDr p = true) := by
  unfold gRose F57
  rcases iterF_rule (f := s57_0 gDr gCmpP gW) (K := fun t6 => (gW ((Int.ofNat (List.length t6.1)), 1, 4, ())).bind fun x7 => some (x7.1, ())) (t := (r, r, Int.ofNat r.length, 0, ())) r.length
    (fun i t => t = (r, r, Int.ofNat r.length, (i : Int), ()) ∧ ∀ p ∈ r.take i, isDr p = true) (fun x => x = some (false, ())) (fun t => t.1 = r ∧ ∀ p ∈ r, isDr p = true) (by omega) ⟨rfl, by simp⟩
    (by
      rintro i _ hi ⟨rfl, hall⟩
      have hx : r[i]? = some r[i] := by simp
      have grow : isDr r[i] = true → ∀ p ∈ r.take (i + 1), isDr p = true := fun hd p hp => by
        rw [List.take_add_one, hx] at hp
        rcases List.mem_append.mp hp with h | h
        · exact hall p h
        · simp at h; subst h; exact hd
      have e1 : w64 ((i : Int) + 1) = ((i + 1 : Nat) : Int) := w64_id (by omega) (by omega)
      cases hd : isDr r[i]
      · refine .inr (.inl ⟨_, rfl, fun rec K => ?_⟩)
        simp only [s57_0]
        rw [cond_true_dec (by simp; omega), rdL_at hx]
        simp only [drI, hd, Option.bind_some]
        rfl
      · by_cases hz : (i : Int) > 0
        · obtain ⟨j, rfl⟩ : ∃ j, i = j + 1 := ⟨i - 1, by omega⟩
          have hy : r[j]? = some r[j] := by simp
          have e2 : w64 (((j + 1 : Nat) : Int) - 1) = (j : Int) := by rw [w64_id (by omega) (by omega)]; omega
          by_cases hc : cmpP r[j] r[j + 1] ≥ 0
          · refine .inr (.inl ⟨_, rfl, fun rec K => ?_⟩)
            simp only [s57_0]
            rw [cond_true_dec (by simp; omega), rdL_at hx]
            simp only [drI, hd, Option.bind_some, Bool.not_true, Bool.not_false, cond_true]
            rw [cond_true_dec hz, e2, rdL_at hy]
            simp only [cmpPI, Option.bind_some]
            rw [cond_true_dec hc]
          · refine .inl ⟨_, ⟨rfl, grow hd⟩, fun rec K => ?_⟩
            simp only [s57_0]
            rw [cond_true_dec (by simp; omega), rdL_at hx]
            simp only [drI, hd, Option.bind_some, Bool.not_true, Bool.not_false, cond_true]
            rw [cond_true_dec hz, e2, rdL_at hy]
            simp only [cmpPI, Option.bind_some]
            rw [cond_false_dec hc, e1]
        · refine .inl ⟨_, ⟨rfl, grow hd⟩, fun rec K => ?_⟩
          simp only [s57_0]
          rw [cond_true_dec (by simp; omega), rdL_at hx]
          simp only [drI, hd, Option.bind_some, Bool.not_true, Bool.not_false, cond_true]
          rw [cond_false_dec hz, e1])
    (by
      rintro _ ⟨rfl, hall⟩
      refine .inr ⟨(r, r, Int.ofNat r.length, (r.length : Int), ()), ⟨rfl, by simpa using hall⟩, fun rec K => ?_⟩
      simp only [s57_0]
      rw [cond_false_dec (by simp)]) with ⟨x, rfl, h⟩ | ⟨t, ⟨ht, hall⟩, h⟩
  · exact ⟨false, h, fun e => by cases e⟩
  · rw [within_is] at h
    refine ⟨_, h, fun e => ?_⟩
    rw [ht, wi_true] at e
    simp at e
    exact ⟨by omega, by omega, hall⟩
/-! ### Boxes around places -/
theorem min_is (a b : Int) : F78 (a, b, ()) = some (mn a b, ()) := by
  unfold F78
  rw [cond_dec, mn_eq]
  simp only []
  split <;> split <;> first | rfl | omega | (congr 2; omega)
theorem max_is (a b : Int) : F95 (a, b, ()) = some (mx a b, ()) := by
  unfold F95
  rw [cond_dec, mx_eq]
  simp only []
  split <;> split <;> first | rfl | omega | (congr 2; omega)
theorem mn_self (a : Int) : mn a a = a := by rw [mn_eq]; split <;> rfl
theorem mx_self (a : Int) : mx a a = a := by rw [mx_eq]; split <;> rfl
def grow (b : Box) (p : Place) : Box := ⟨⟨mn b.Low.X p.X, mn b.Low.Y p.Y⟩, ⟨mx b.High.X p.X, mx b.High.Y p.Y⟩⟩
noncomputable abbrev gBoxS := F46 gPlS F78 F95
noncomputable abbrev gBox := F59 gPl
def InB (m : Int) (b : Box) : Prop := (-m ≤ b.Low.X ∧ b.Low.X ≤ m) ∧ (-m ≤ b.Low.Y ∧ b.Low.Y ≤ m) ∧ (-m ≤ b.High.X ∧ b.High.X ≤ m) ∧ (-m ≤ b.High.Y ∧ b.High.Y ≤ m)
theorem grow_in {m : Int} {b : Box} {p : Place} (h : InB m b) (hx : -m ≤ p.X ∧ p.X ≤ m) (hy : -m ≤ p.Y ∧ p.Y ≤ m) : InB m (grow b p) := by
  obtain ⟨h1, h2, h3, h4⟩ := h
  unfold InB grow
  simp only [mn_eq, mx_eq]
  refine ⟨?_, ?_, ?_, ?_⟩ <;> split <;> omega
theorem boxOf_ok (r : List Place) (hr : r.length ≤ 1048576) (m : Int) : ∃ B b, gBoxS (r, ()) = some (B, b, ()) ∧ gBox (r, ()) = some (B, b, ()) ∧ ((∀ p ∈ r, isPl p = true ∧ (-m ≤ p.X ∧ p.X ≤ m) ∧ (-m ≤ p.Y ∧ p.Y ≤ m)) → 1 ≤ r.length → b = true ∧ InB m B) := by
  cases r with
  | nil =>
    refine ⟨⟨⟨0, 0⟩, ⟨0, 0⟩⟩, false, ?_, rfl, fun _ h => by simp at h⟩
    unfold gBoxS F46
    rw [show fuel = (fuel - 1) + 1 by rw [fuel_eq], iterF_succ]
    rfl
  | cons p0 r0 =>
    generalize hrr : p0 :: r0 = r at *
    have h0 : r[0]? = some p0 := by rw [← hrr]; rfl
    have hp : 0 < r.length := by rw [← hrr]; simp
    have key : ∀ (d i n : Nat) (B : Box), 1 ≤ i → i + d = r.length → d < n → ((∀ p ∈ r, isPl p = true ∧ (-m ≤ p.X ∧ p.X ≤ m) ∧ (-m ≤ p.Y ∧ p.Y ≤ m)) → InB m B) → ∃ B' b,
        iterF (s46_0 gPlS F78 F95) n (r, (⟨⟨0, 0⟩, ⟨0, 0⟩⟩ : Box), B, r, Int.ofNat r.length, (i : Int), ()) (fun t12 => some (t12.2.2.1, (decide ((Int.ofNat (List.length t12.1)) > 0)), ())) = some (B', b, ()) ∧
        iterF (s59_0 gPl) n ((⟨⟨0, 0⟩, ⟨0, 0⟩⟩ : Box), B, r, Int.ofNat r.length, (i : Int), ()) (fun t6 => some (t6.2.1, true, ())) = some (B', b, ()) ∧ ((∀ p ∈ r, isPl p = true ∧ (-m ≤ p.X ∧ p.X ≤ m) ∧ (-m ≤ p.Y ∧ p.Y ≤ m)) → b = true ∧ InB m B') := by
      intro d
      induction d with
      | zero =>
        intro i n B h1 hd hn hB
        obtain ⟨n, rfl⟩ : ∃ k, n = k + 1 := ⟨n - 1, by omega⟩
        refine ⟨B, true, ?_, ?_, fun h => ⟨rfl, hB h⟩⟩
        · rw [iterF_succ]; simp only [s46_0]; rw [cond_false_dec (by simp; omega), decide_eq_true (by simp; omega)]
        · rw [iterF_succ]; simp only [s59_0]; rw [cond_false_dec (by simp; omega)]
      | succ d ih =>
        intro i n B h1 hd hn hB
        obtain ⟨n, rfl⟩ : ∃ k, n = k + 1 := ⟨n - 1, by omega⟩
        have hi : i < r.length := by omega
        have hx : r[i]? = some r[i] := by simp
        have e1 : w64 ((i : Int) + 1) = ((i + 1 : Nat) : Int) := w64_id (by omega) (by omega)
        cases hpl : isPl r[i]
        · refine ⟨⟨⟨0, 0⟩, ⟨0, 0⟩⟩, false, ?_, ?_, fun h => ?_⟩
          · rw [iterF_succ]; simp only [s46_0]; rw [cond_true_dec (by simp; omega), rdL_at hx]; simp only [placeS, hpl, Option.bind_some]; rfl
          · rw [iterF_succ]; simp only [s59_0]; rw [cond_true_dec (by simp; omega), rdL_at hx]; simp only [placeI, hpl, Option.bind_some]; rfl
          · have := (h r[i] (by simp)).1
            rw [hpl] at this; cases this
        · obtain ⟨B', b, g1, g2, g3⟩ := ih (i + 1) n (grow B r[i]) (by omega) (by omega) (by omega) fun h => grow_in (hB h) (h r[i] (by simp)).2.1 (h r[i] (by simp)).2.2
          refine ⟨B', b, ?_, ?_, g3⟩
          · rw [iterF_succ]; simp only [s46_0]; rw [cond_true_dec (by simp; omega), rdL_at hx]
            simp only [placeS, hpl, Option.bind_some, Bool.not_true, cond_false]
            rw [cond_false_dec (by omega)]
            simp only [min_is, max_is, Option.bind_some]
            rw [e1]; exact g1
          · rw [iterF_succ]; simp only [s59_0]; rw [cond_true_dec (by simp; omega), rdL_at hx]
            simp only [placeI, hpl, Option.bind_some, Bool.not_true, cond_false]
            rw [e1]; exact g2
    unfold gBoxS F46 gBox F59
    simp only
    rw [cond_false_dec (by simp only [Int.ofNat_eq_natCast]; omega), show rdL r 0 = fun (K : Place → Option (Box × Bool × Unit)) => K p0 from funext fun K => rdL_at (i := 0) h0]
    dsimp only
    obtain ⟨n, hn⟩ := fuel_ge 1 (by omega)
    have hnl : r.length ≤ n := by have := fuel_eq; omega
    rw [hn, iterF_succ, iterF_succ]
    simp only [s46_0, s59_0]
    rw [cond_true_dec (by simp; omega), cond_true_dec (by simp; omega)]
    rw [show rdL r 0 = fun (K : Place → Option (Box × Bool × Unit)) => K p0 from funext fun K => rdL_at (i := 0) h0]
    simp only [placeS, placeI, Option.bind_some]
    have mem : p0 ∈ r := by rw [← hrr]; simp
    cases hpl : isPl p0
    · refine ⟨⟨⟨0, 0⟩, ⟨0, 0⟩⟩, false, rfl, rfl, fun h _ => ?_⟩
      have := (h p0 mem).1
      rw [hpl] at this; cases this
    · obtain ⟨B', b, g1, g2, g3⟩ := key (r.length - 1) 1 n ⟨p0, p0⟩ (by omega) (by omega) (by omega) fun h => by
        have := h p0 mem
        exact ⟨this.2.1, this.2.2, this.2.1, this.2.2⟩
      have e1 : w64 (0 + 1) = ((1 : Nat) : Int) := by kernel_rfl
      refine ⟨B', b, ?_, ?_, fun h _ => g3 h⟩
      · simp only [Bool.not_true, cond_false, decide_true, cond_true, min_is, max_is, Option.bind_some, mn_self, mx_self, e1]
        exact g1
      · simp only [Bool.not_true, cond_false, mn_self, mx_self, e1]
        exact g2
noncomputable abbrev gRBS := F110 gBoxS gRoseS
noncomputable abbrev gRB := F105 gRose gW gBox
theorem roseBox_ok (r : List Place) (hr : r.length ≤ 1048576) (n : Int) : ∃ B b, gRBS (r, n, ()) = some (B, b, ()) ∧ gRB (r, n, ()) = some (B, b, ()) ∧ (b = true → 0 ≤ n ∧ n ≤ 128 ∧ ∃ C, InB 8 C ∧ B = ⟨⟨w64 (n * C.Low.X), w64 (n * C.Low.Y)⟩, ⟨w64 (n * C.High.X), w64 (n * C.High.Y)⟩⟩) := by
  obtain ⟨C, cb, c1, c2, c3⟩ := boxOf_ok r hr 8
  obtain ⟨rb, r1, r2⟩ := rose_ok r hr
  have r1' : gRoseS (r, ()) = some (rb, ()) := by rw [rose_same]; exact r1
  unfold gRBS F110 gRB F105
  simp only [c1, c2, r1, r1', Option.bind_some, within_is]
  cases rb with
  | false => exact ⟨_, _, rfl, rfl, fun h => by cases h⟩
  | true =>
    simp only [Bool.not_true, Bool.not_false, cond_true]
    by_cases hn : n < 0
    · rw [decide_eq_true hn, show wi n 0 128 = false by rw [← Bool.not_eq_true, wi_true]; omega]
      exact ⟨_, _, rfl, rfl, fun h => by cases h⟩
    · rw [decide_eq_false hn]
      simp only [Bool.not_false, cond_true]
      by_cases hm : n > 128
      · rw [cond_true_dec hm, show wi n 0 128 = false by rw [← Bool.not_eq_true, wi_true]; omega]
        exact ⟨_, _, rfl, rfl, fun h => by cases h⟩
      · rw [cond_false_dec hm, wi_of (by omega) (by omega)]
        obtain ⟨q1, q2, q3⟩ := r2 rfl
        have := c3 (fun p hp => by
          have hd := q3 p hp
          simp only [isDr, Bool.and_eq_true, wi_true] at hd
          refine ⟨?_, hd.1, hd.2⟩
          unfold isPl
          rw [wi_of (by omega) (by omega), wi_of (by omega) (by omega)]; rfl) q1
        exact ⟨_, _, rfl, rfl, fun _ => ⟨by omega, by omega, C, this.2, rfl⟩⟩
noncomputable abbrev gLBS := F62 gLandS gFlS gRBS F111
noncomputable abbrev gLB := F58 gLand gFl gRB
theorem landBox_ok (j : Jet) (r : List Place) (hr : r.length ≤ 1048576) : ∃ B b, gLBS (j, r, ()) = some (B, b, ()) ∧ gLB (j, r, ()) = some (B, b, ()) := by
  obtain ⟨B, b, h1, h2, _⟩ := roseBox_ok r hr (fl j)
  unfold gLBS F62 gLB F58
  simp only [landS, landI, flS, flI, h1, h2, Option.bind_some, F111]
  cases (landP j).2 <;> cases b <;> exact ⟨_, _, rfl, rfl⟩
/-! ### Lists of places: copied, compared -/
end Ev

namespace Ev
open Go
/-! ### Names -/
def chOK (i : Nat) (c : UInt8) : Bool := wi (c.toNat : Int) 97 122 || (!decide (i = 0) && wi (c.toNat : Int) 48 57)
def nm : Nat → Str → Bool
  | _, [] => true
  | i, c :: r => chOK i c && nm (i + 1) r
def isNm (s : Str) : Bool := nm 0 s && wi (Int.ofNat s.length) 1 8
theorem drop_cons' {α : Type} (s : List α) (i : Nat) (h : i < s.length) : s.drop i = s[i] :: s.drop (i + 1) := by
  rw [List.drop_eq_getElem_cons h]
theorem nameS_round (s : Str) (hs : s.length ≤ 1048576) (i : Nat) (hi : i < s.length) (rec K) : s143_0 (s, (i : Int), ()) rec K = cond (chOK i s[i]) (rec (s, ((i + 1 : Nat) : Int), ())) (some (false, ())) := by
  have hx : s[i]? = some s[i] := by simp
  have hx' := fun (K : UInt8 → Option (Bool × Unit)) => rdL_at (K := K) hx
  have d0 : (i : Int) < Int.ofNat s.length := by simp; omega
  have ew : w64 ((i : Int) + 1) = ((i + 1 : Nat) : Int) := w64_id (by omega) (by omega)
  simp only [s143_0, d0, decide_true, cond_true, hx', ew]
  unfold chOK wi
  have hc : (Int.ofNat s[i].toNat) = (s[i].toNat : Int) := rfl
  simp only [hc]
  generalize (s[i].toNat : Int) = c
  by_cases c1 : c ≥ 97 <;> by_cases c2 : c ≤ 122 <;> by_cases c3 : c ≥ 48 <;> by_cases c4 : c ≤ 57 <;> by_cases h0 : i = 0 <;>
    (have c1' := c1; have c3' := c3; rw [ge_iff_le] at c1' c3'; have h0' : ((i : Int) = 0) = (i = 0) := by simp
     simp only [c1, c2, c3, c4, c1', c3', h0, h0', decide_true, decide_false, Bool.not_true, Bool.not_false, cond_true, cond_false, Bool.true_and, Bool.false_and, Bool.and_true, Bool.and_false, Bool.or_true, Bool.or_false, Bool.true_or, Bool.false_or] <;> first | rfl | omega)
noncomputable abbrev gNmS := F143
noncomputable abbrev gNm := F133 gW
theorem nameI_round (s : Str) (hs : s.length ≤ 1048576) (i : Nat) (hi : i < s.length) (rec K) : s133_0 gW (s, Int.ofNat s.length, (i : Int), ()) rec K = cond (chOK i s[i]) (rec (s, Int.ofNat s.length, ((i + 1 : Nat) : Int), ())) (some (false, ())) := by
  have hx : s[i]? = some s[i] := by simp
  have hx' := fun (K : UInt8 → Option (Bool × Unit)) => rdL_at (K := K) hx
  have d0 : (i : Int) < Int.ofNat s.length := by simp; omega
  have ew : w64 ((i : Int) + 1) = ((i + 1 : Nat) : Int) := w64_id (by omega) (by omega)
  simp only [s133_0, d0, decide_true, cond_true, hx', ew]
  unfold chOK wi
  have hc : (Int.ofNat s[i].toNat) = (s[i].toNat : Int) := rfl
  simp only [hc]
  generalize (s[i].toNat : Int) = c
  by_cases c1 : c ≥ 97 <;> by_cases c2 : c ≤ 122 <;> by_cases c3 : c ≥ 48 <;> by_cases c4 : c ≤ 57 <;> by_cases h0 : i = 0 <;>
    (have c1' := c1; have c3' := c3; rw [ge_iff_le] at c1' c3'; have h0' : ((i : Int) = 0) = (i = 0) := by simp
     have c5 : (c < 48) = ¬ (48 ≤ c) := by simp
     have c6 : (c > 57) = ¬ (c ≤ 57) := by simp
     simp only [c1, c2, c3, c4, c5, c6, c1', c3', h0, h0', not_true_eq_false, not_false_eq_true, decide_true, decide_false, Bool.not_true, Bool.not_false, cond_true, cond_false, Bool.true_and, Bool.false_and, Bool.and_true, Bool.and_false, Bool.or_true, Bool.or_false, Bool.true_or, Bool.false_or] <;> first | rfl | omega)
theorem nameS (s : Str) (hs : s.length ≤ 1048576) : gNmS (s, ()) = some (isNm s, ()) := by
  have key : ∀ (d i n : Nat), i + d = s.length → d < n → iterF s143_0 n (s, (i : Int), ()) (fun t8 => cond (decide ((Int.ofNat (List.length t8.1)) > 0)) (some ((decide ((Int.ofNat (List.length t8.1)) ≤ 8)), ())) (some (false, ()))) = some (nm i (s.drop i) && wi (Int.ofNat s.length) 1 8, ()) := by
    intro d
    induction d with
    | zero =>
      intro i n hd hn
      obtain ⟨n, rfl⟩ : ∃ k, n = k + 1 := ⟨n - 1, by omega⟩
      rw [iterF_succ]; simp only [s143_0]
      rw [cond_false_dec (by simp; omega), List.drop_eq_nil_of_le (by omega)]
      unfold wi
      by_cases h : Int.ofNat s.length > 0
      · rw [cond_true_dec h, decide_eq_true (by omega : 1 ≤ Int.ofNat s.length)]; rfl
      · rw [cond_false_dec h, decide_eq_false (by omega : ¬ 1 ≤ Int.ofNat s.length)]; rfl
    | succ d ih =>
      intro i n hd hn
      obtain ⟨n, rfl⟩ : ∃ k, n = k + 1 := ⟨n - 1, by omega⟩
      have hi : i < s.length := by omega
      rw [iterF_succ, nameS_round s hs i hi, drop_cons' s i hi]
      simp only [nm]
      cases hc : chOK i s[i]
      · rfl
      · rw [cond_true, ih (i + 1) n (by omega) (by omega)]; rfl
  exact key s.length 0 fuel (by omega) (by rw [fuel_eq]; omega)
theorem nameI (s : Str) (hs : s.length ≤ 1048576) : gNm (s, ()) = some (isNm s, ()) := by
  have key : ∀ (d i n : Nat), i + d = s.length → d < n → iterF (s133_0 gW) n (s, Int.ofNat s.length, (i : Int), ()) (fun t8 => (gW ((Int.ofNat (List.length t8.1)), 1, 8, ())).bind fun x9 => some (x9.1, ())) = some (nm i (s.drop i) && wi (Int.ofNat s.length) 1 8, ()) := by
    intro d
    induction d with
    | zero =>
      intro i n hd hn
      obtain ⟨n, rfl⟩ : ∃ k, n = k + 1 := ⟨n - 1, by omega⟩
      rw [iterF_succ]; simp only [s133_0]
      rw [cond_false_dec (by simp; omega), List.drop_eq_nil_of_le (by omega), within_is]
      rfl
    | succ d ih =>
      intro i n hd hn
      obtain ⟨n, rfl⟩ : ∃ k, n = k + 1 := ⟨n - 1, by omega⟩
      have hi : i < s.length := by omega
      rw [iterF_succ, nameI_round s hs i hi, drop_cons' s i hi]
      simp only [nm]
      cases hc : chOK i s[i]
      · rfl
      · rw [cond_true, ih (i + 1) n (by omega) (by omega)]; rfl
  exact key s.length 0 fuel (by omega) (by rw [fuel_eq]; omega)
end Ev

namespace Ev
open Go
def NamesOK (l : List Cue) : Prop := ∀ c ∈ l, c.Name.length ≤ 1048576
def isCue (c : Cue) : Bool := wi c.Tick 0 64 && (isNm c.Name && (wi c.Level 0 32 && wi c.Ramp 0 16))
noncomputable abbrev gCueS := F99 gIn gNmS
noncomputable abbrev gCue := F87 gW gNm
theorem cueS (c : Cue) (h : c.Name.length ≤ 1048576) : gCueS (c, ()) = some (isCue c, ()) := by
  unfold gCueS F99 isCue
  simp only [in_is, nameS c.Name h, Option.bind_some]
  cases wi c.Tick 0 64 <;> cases isNm c.Name <;> cases wi c.Level 0 32 <;> rfl
theorem cueI (c : Cue) (h : c.Name.length ≤ 1048576) : gCue (c, ()) = some (isCue c, ()) := by
  unfold gCue F87 isCue
  simp only [within_is, nameI c.Name h, Option.bind_some]
  cases wi c.Tick 0 64 <;> cases isNm c.Name <;> cases wi c.Level 0 32 <;> rfl
def cmpS (a b : Str) : Int := if Op.bytesLess a b = true then -1 else if a = b then 0 else 1
def cmpC (p q : Cue) : Int := if cmpI p.Tick q.Tick = 0 then cmpS p.Name q.Name else cmpI p.Tick q.Tick
noncomputable abbrev gCmpS := F136 F175
theorem cmpS_is (a b : Str) : gCmpS (a, b, ()) = some (cmpS a b, ()) := by
  unfold gCmpS F136 F175 cmpS
  simp only [decide_true, Bool.not_true, Option.bind_some, cond_false]
  cases h1 : Op.bytesLess a b
  · by_cases h2 : a = b <;> simp [h2]
  · rfl
noncomputable abbrev gCmpC := F88 gCmp gCmpS F114
theorem cmpCI (p q : Cue) : gCmpC (p, q, ()) = some (cmpC p q, ()) := by
  unfold gCmpC F88 cmpC
  simp only [cmpI_is, cmpS_is, or_is, Option.bind_some]
theorem cmpCS (p q : Cue) : F100 (p, q, ()) = some (cmpC p q, ()) := by
  unfold F100 cmpC cmpI cmpS
  by_cases h1 : p.Tick < q.Tick
  · simp [h1]
  · by_cases h2 : p.Tick = q.Tick
    · simp only [h2]
      cases h3 : Op.bytesLess p.Name q.Name
      · by_cases h4 : p.Name = q.Name <;> simp [h4]
      · simp
    · have : p.Tick > q.Tick := by omega
      simp [h1, h2, this]
noncomputable abbrev gScoreS := F50 gCueS F100
noncomputable abbrev gScore := F40 gCue gCmpC
theorem rdL_congr {R α : Type} {l : List α} {i : Int} {K K' : α → Option R} (h : ∀ x ∈ l, K x = K' x) : rdL l i K = rdL l i K' := by
  unfold rdL
  split
  · cases hx : l[i.toNat]? with
    | none => rfl
    | some x => exact h x (List.mem_of_getElem? hx)
  · rfl
theorem score_same (l : List Cue) (hn : NamesOK l) : gScoreS (l, ()) = gScore (l, ()) := by
  unfold gScoreS gScore F50 F40
  refine iterF_congr (fun t => t.1 = l ∧ t.2.1 = l) ?_ fuel _ ⟨rfl, rfl⟩
  rintro ⟨a, b, c, d, u⟩ rec rec' ⟨h1, h2⟩ hr
  simp only at h1 h2
  subst h1; subst h2
  simp only [s50_0, s40_0, cmpCS, cmpCI]
  cases hd : decide (d < c)
  · rfl
  · simp only [cond_true]
    refine rdL_congr fun x hx => ?_
    rw [cueS x (hn x hx), cueI x (hn x hx)]
    simp only [Option.bind_some]
    rw [hr _ ⟨rfl, rfl⟩]
theorem score_ok (l : List Cue) (hn : NamesOK l) (hl : l.length ≤ 1048576) : ∃ b, gScore (l, ()) = some (b, ()) ∧ (b = true → l.length ≤ 12 ∧ ∀ c ∈ l, isCue c = true) := by
  unfold gScore F40
  rcases iterF_rule (f := s40_0 gCue gCmpC) (K := fun t6 => some (decide (Int.ofNat (List.length t6.1) ≤ 12), ())) (t := (l, l, Int.ofNat l.length, 0, ())) l.length
    (fun i t => t = (l, l, Int.ofNat l.length, (i : Int), ()) ∧ ∀ p ∈ l.take i, isCue p = true) (fun x => x = some (false, ())) (fun t => t.1 = l ∧ ∀ p ∈ l, isCue p = true) (by omega) ⟨rfl, by simp⟩
    (by
      rintro i _ hi ⟨rfl, hall⟩
      have hx : l[i]? = some l[i] := by simp
      have hb := hn l[i] (by simp)
      have grow : isCue l[i] = true → ∀ p ∈ l.take (i + 1), isCue p = true := fun hd p hp => by
        rw [List.take_add_one, hx] at hp
        rcases List.mem_append.mp hp with h | h
        · exact hall p h
        · simp at h; subst h; exact hd
      have e1 : w64 ((i : Int) + 1) = ((i + 1 : Nat) : Int) := w64_id (by omega) (by omega)
      cases hd : isCue l[i]
      · refine .inr (.inl ⟨_, rfl, fun rec K => ?_⟩)
        simp only [s40_0]
        rw [cond_true_dec (by simp; omega), rdL_at hx, cueI _ hb, hd]
        rfl
      · by_cases hz : (i : Int) > 0
        · obtain ⟨j, rfl⟩ : ∃ j, i = j + 1 := ⟨i - 1, by omega⟩
          have hy : l[j]? = some l[j] := by simp
          have e2 : w64 (((j + 1 : Nat) : Int) - 1) = (j : Int) := by rw [w64_id (by omega) (by omega)]; omega
          by_cases hc : cmpC l[j] l[j + 1] ≥ 0
          · refine .inr (.inl ⟨_, rfl, fun rec K => ?_⟩)
            simp only [s40_0]
            rw [cond_true_dec (by simp; omega), rdL_at hx, cueI _ hb, hd]
            simp only [Option.bind_some, Bool.not_true, Bool.not_false, cond_true]
            rw [cond_true_dec hz, e2, rdL_at hy]
            simp only [cmpCI, Option.bind_some]
            rw [cond_true_dec hc]
          · refine .inl ⟨_, ⟨rfl, grow hd⟩, fun rec K => ?_⟩
            simp only [s40_0]
            rw [cond_true_dec (by simp; omega), rdL_at hx, cueI _ hb, hd]
            simp only [Option.bind_some, Bool.not_true, Bool.not_false, cond_true]
            rw [cond_true_dec hz, e2, rdL_at hy]
            simp only [cmpCI, Option.bind_some]
            rw [cond_false_dec hc, e1]
        · refine .inl ⟨_, ⟨rfl, grow hd⟩, fun rec K => ?_⟩
          simp only [s40_0]
          rw [cond_true_dec (by simp; omega), rdL_at hx, cueI _ hb, hd]
          simp only [Option.bind_some, Bool.not_true, Bool.not_false, cond_true]
          rw [cond_false_dec hz, e1])
    (by
      rintro _ ⟨rfl, hall⟩
      refine .inr ⟨(l, l, Int.ofNat l.length, (l.length : Int), ()), ⟨rfl, by simpa using hall⟩, fun rec K => ?_⟩
      simp only [s40_0]
      rw [cond_false_dec (by simp)]) with ⟨x, rfl, h⟩ | ⟨t, ⟨ht, hall⟩, h⟩
  · exact ⟨false, h, fun e => by cases e⟩
  · refine ⟨_, h, fun e => ⟨?_, hall⟩⟩
    rw [ht] at e
    simp at e; omega
/-! ### Ramps and levels -/
noncomputable abbrev gRampS := F179 F141 F191
noncomputable abbrev gRamp := F167 gMeas F189
theorem ramp_same : gRampS = gRamp := by
  have e : F191 = F189 := rfl
  funext a
  unfold gRampS gRamp F179 F167
  simp only [measS, measI, e, Int.mul_comm]
theorem floor_some (a b : Int) (hb : b ≠ 0) : ∃ v, F189 (a, b, ()) = some (v, ()) := by
  unfold F189
  simp only
  rw [cond_false_dec hb, cond_false_dec hb]
  cases decide (Int.tmod a b < 0) <;> exact ⟨_, rfl⟩
theorem ramp_some (a b t r : Int) : ∃ v, gRamp (a, b, t, r, ()) = some (v, ()) := by
  unfold gRamp F167
  simp only [measI, Option.bind_some]
  cases wi a (-4096) 4096
  · exact ⟨_, rfl⟩
  · cases wi b (-4096) 4096
    · exact ⟨_, rfl⟩
    · simp only [Bool.not_true, Bool.not_false, cond_true, cond_false]
      by_cases h1 : t ≥ r
      · rw [cond_true_dec h1]; exact ⟨_, rfl⟩
      · rw [cond_false_dec h1]
        by_cases h2 : t ≤ 0
        · rw [decide_eq_true h2]; exact ⟨_, rfl⟩
        · rw [decide_eq_false h2]
          simp only [Bool.not_false, cond_true]
          by_cases h3 : r > 999
          · rw [cond_true_dec h3]; exact ⟨_, rfl⟩
          · rw [cond_false_dec h3]
            obtain ⟨v, hv⟩ := floor_some (w64 (t * w64 (b - a))) r (by omega)
            rw [hv]; exact ⟨_, rfl⟩
noncomputable abbrev gLev := F127 gScore gRamp
theorem bind_id (o : Option (Int × Unit)) : (o.bind fun x => some (x.1, ())) = o := by
  cases o <;> rfl
theorem lev_some (l : List Cue) (hn : NamesOK l) (hl : l.length ≤ 1048576) (name : Str) (t : Int) : ∃ v, gLev (l, name, t, ()) = some (v, ()) := by
  obtain ⟨b, hb, _⟩ := score_ok l hn hl
  unfold gLev F127
  simp only [hb, Option.bind_some]
  cases b
  · exact ⟨_, rfl⟩
  · simp only [Bool.not_true, Bool.not_false, cond_true]
    cases decide (t < 0)
    · simp only [cond_false]
      obtain ⟨t', ⟨acc, c, rfl⟩, e⟩ := iterF_all (f := s127_0 gScore gRamp) (K := fun t5 => (gRamp (t5.2.2.1, t5.2.2.2.1.Level, (w64 (t5.2.1 - t5.2.2.2.1.Tick)), t5.2.2.2.1.Ramp, ())).bind fun x6 => some (x6.1, ()))
        (t := (name, t, 0, (⟨0, [], 0, 0⟩ : Cue), l, Int.ofNat l.length, 0, ())) l.length (fun i t' => ∃ (acc : Int) (c : Cue), t' = (name, t, acc, c, l, Int.ofNat l.length, (i : Int), ())) (by omega) ⟨0, ⟨0, [], 0, 0⟩, rfl⟩
        (by
          rintro i _ hi ⟨acc, c, rfl⟩
          have hx : l[i]? = some l[i] := by simp
          have e1 : w64 ((i : Int) + 1) = ((i + 1 : Nat) : Int) := w64_id (by omega) (by omega)
          obtain ⟨v, hv⟩ := ramp_some acc c.Level (w64 (l[i].Tick - c.Tick)) c.Ramp
          by_cases c1 : l[i].Name = name
          · by_cases c2 : l[i].Tick ≤ t
            · refine ⟨_, ⟨v, l[i], rfl⟩, fun rec K => ?_⟩
              simp only [s127_0]
              rw [cond_true_dec (by simp; omega), rdL_at hx, cond_true_dec c1, cond_true_dec c2, hv, e1]
              rfl
            · refine ⟨_, ⟨acc, c, rfl⟩, fun rec K => ?_⟩
              simp only [s127_0]
              rw [cond_true_dec (by simp; omega), rdL_at hx, cond_true_dec c1, cond_false_dec c2, e1]
          · refine ⟨_, ⟨acc, c, rfl⟩, fun rec K => ?_⟩
            simp only [s127_0]
            rw [cond_true_dec (by simp; omega), rdL_at hx, cond_false_dec c1, e1])
        (by
          rintro _ ⟨acc, c, rfl⟩ rec K
          simp only [s127_0]
          rw [cond_false_dec (by simp)])
      obtain ⟨v, hv⟩ := ramp_some acc c.Level (w64 (t - c.Tick)) c.Ramp
      rw [e]
      simp only [hv, Option.bind_some]
      exact ⟨_, rfl⟩
    · exact ⟨_, rfl⟩
/-! ### Tracks of a name -/
noncomputable def lv (l : List Cue) (name : Str) (j : Nat) : Int := ((gLev (l, name, (j : Int), ())).map fun x => x.1).getD 0
theorem lv_is (l : List Cue) (hn : NamesOK l) (hl : l.length ≤ 1048576) (name : Str) (j : Nat) : gLev (l, name, (j : Int), ()) = some (lv l name j, ()) := by
  obtain ⟨v, hv⟩ := lev_some l hn hl name j
  unfold lv
  rw [hv]; rfl
theorem range_app (f : Nat → Int) (j : Nat) : (List.range j).map f ++ [f j] = (List.range (j + 1)).map f := by
  rw [List.range_succ, List.map_append]; rfl
end Ev

namespace Ev
open Go
/-! ### Devices -/
noncomputable abbrev gDevS := F97 gNmS (F144 gIn) (F145 gJetS) gIn gPlS
noncomputable abbrev gDev := F85 gNm (F134 gW) gJet gW gPl
def devJ (d : Device) : Jet := ⟨⟨d.At.X, d.At.Y⟩, d.Heading, d.Tilt, 1⟩
theorem supS (x : Int) : F144 gIn (x, ()) = some (wi x 0 512, ()) := by
  unfold F144; simp only [in_is, Option.bind_some]
theorem supI (x : Int) : F134 gW (x, ()) = some (wi x 0 512, ()) := by
  unfold F134; simp only [within_is, Option.bind_some]
theorem djS (d : Device) : F145 gJetS (d, ()) = some (isJet (devJ d), ()) := by
  unfold F145; exact congrArg (fun o => Option.bind o fun x1 => some (x1.1, ())) (jetS (devJ d))
theorem dev_ok (d : Device) (h1 : d.Name.length ≤ 1048576) (h2 : d.Line.length ≤ 1048576) : ∃ b, gDevS (d, ()) = some (b, ()) ∧ gDev (d, ()) = some (b, ()) ∧ (b = true → d.Kind = 1 ∨ (d.Kind = 2 ∧ 0 ≤ d.Most ∧ d.Most ≤ 32) ∨ d.Kind = 3) := by
  have jI : gJet ((⟨⟨d.At.X, d.At.Y⟩, d.Heading, d.Tilt, 1⟩ : Jet), ()) = some (isJet (devJ d), ()) := jetI (devJ d)
  unfold gDevS F97 gDev F85
  simp only [nameS d.Name h1, nameS d.Line h2, nameI d.Name h1, nameI d.Line h2, supS, supI, djS, jI, in_is, within_is, placeS, placeI, Option.bind_some, decide_true, Bool.true_and, Bool.and_true]
  by_cases k1 : d.Kind = 1
  · have k2 : ¬ d.Kind = 2 := by omega
    simp only [k1, decide_true, cond_true]
    generalize (decide (d.Line = []) && (decide (d.At.X = 0) && (decide (d.At.Y = 0) && (decide (d.Heading = 0) && decide (d.Tilt = 0))))) = z
    cases isNm d.Name <;> cases isNm d.Line <;> cases wi d.Most 0 512 <;> cases z <;> exact ⟨_, rfl, rfl, fun _ => by simp⟩
  · by_cases k2 : d.Kind = 2
    · simp only [k2, decide_true, cond_true, show ¬ (2 : Int) = 1 by decide, decide_false, cond_false]
      cases hm : wi d.Most 0 32
      · cases isNm d.Name <;> cases isNm d.Line <;> cases decide (d.Line = d.Name) <;> cases isJet (devJ d) <;> exact ⟨_, rfl, rfl, fun h => by cases h⟩
      · have hm' := wi_true.1 hm
        cases isNm d.Name <;> cases isNm d.Line <;> cases decide (d.Line = d.Name) <;> cases isJet (devJ d) <;> exact ⟨_, rfl, rfl, fun _ => .inr (.inl ⟨by simp, hm'⟩)⟩
    · by_cases k3 : d.Kind = 3
      · simp only [k3, decide_true, cond_true, show ¬ (3 : Int) = 1 by decide, show ¬ (3 : Int) = 2 by decide, decide_false, cond_false]
        generalize (decide (d.Heading = 0) && (decide (d.Tilt = 0) && decide (d.Most = 0))) = z
        cases isNm d.Name <;> cases isNm d.Line <;> cases decide (d.Line = d.Name) <;> cases isPl d.At <;> cases z <;> exact ⟨_, rfl, rfl, fun _ => by simp⟩
      · simp only [k1, k2, k3, decide_false, cond_false]
        cases isNm d.Name <;> cases isNm d.Line <;> exact ⟨_, rfl, rfl, fun h => by cases h⟩

def DevsOK (l : List Device) : Prop := ∀ d ∈ l, d.Name.length ≤ 1048576 ∧ d.Line.length ≤ 1048576
theorem less_total : ∀ (a b : Str), (!Op.bytesLess b a) = (Op.bytesLess a b || decide (a = b))
  | [], [] => rfl
  | [], y :: b => by simp [Op.bytesLess]
  | x :: a, [] => by simp [Op.bytesLess]
  | x :: a, y :: b => by
    have ih := less_total a b
    simp only [Op.bytesLess]
    rcases Nat.lt_trichotomy x.toNat y.toNat with h | h | h
    · replace h := UInt8.lt_iff_toNat_lt.mpr h
      have h1 : ¬ y < x := UInt8.lt_asymm h
      have h2 : ¬ y = x := fun e => by subst e; exact UInt8.lt_irrefl _ h
      have h3 : ¬ x = y := fun e => h2 e.symm
      simp [h, h1, h2, h3]
    · replace h := UInt8.toNat_inj.mp h
      subst h
      have h1 : ¬ x < x := UInt8.lt_irrefl _
      simp [h1, ih]
    · replace h := UInt8.lt_iff_toNat_lt.mpr h
      have h1 : ¬ x < y := UInt8.lt_asymm h
      have h2 : ¬ y = x := fun e => by subst e; exact UInt8.lt_irrefl _ h
      have h3 : ¬ x = y := fun e => h2 e.symm
      simp [h, h1, h2, h3]
/-! ### Rigs -/
noncomputable abbrev gFindS := F146
noncomputable abbrev gFind := F135 (F173 F174)
theorem find_ok (l : List Device) (hl : l.length ≤ 1048576) (name : Str) : ∃ v, gFindS (l, name, ()) = some (v, ()) ∧ gFind (l, name, ()) = some (v, ()) ∧ (0 ≤ v → v < (l.length : Int)) := by
  have key : ∀ (d i n : Nat), i + d = l.length → d < n → ∃ v,
      iterF s146_0 n (name, l, Int.ofNat l.length, (i : Int), ()) (fun t3 => some ((-1), ())) = some (v, ()) ∧
      iterF (s173_0 F174) n (l, (name, ()), Int.ofNat l.length, (i : Int), ()) (fun t4 => some ((-1), ())) = some (v, ()) ∧ (0 ≤ v → v < (l.length : Int)) := by
    intro d
    induction d with
    | zero =>
      intro i n hd hn
      obtain ⟨n, rfl⟩ : ∃ k, n = k + 1 := ⟨n - 1, by omega⟩
      refine ⟨-1, ?_, ?_, by omega⟩
      · rw [iterF_succ]; simp only [s146_0]; rw [cond_false_dec (by simp; omega)]
      · rw [iterF_succ]; simp only [s173_0]; rw [cond_false_dec (by simp; omega)]
    | succ d ih =>
      intro i n hd hn
      obtain ⟨n, rfl⟩ : ∃ k, n = k + 1 := ⟨n - 1, by omega⟩
      have hi : i < l.length := by omega
      have hx : l[i]? = some l[i] := by simp
      have e1 : w64 ((i : Int) + 1) = ((i + 1 : Nat) : Int) := w64_id (by omega) (by omega)
      by_cases hc : l[i].Name = name
      · refine ⟨(i : Int), ?_, ?_, by omega⟩
        · rw [iterF_succ]; simp only [s146_0]; rw [cond_true_dec (by simp; omega), rdL_at hx, cond_true_dec hc]
        · rw [iterF_succ]; simp only [s173_0, F174]; rw [cond_true_dec (by simp; omega), rdL_at hx]
          simp only [Option.bind_some]
          rw [cond_true_dec hc]
      · obtain ⟨v, g1, g2, g3⟩ := ih (i + 1) n (by omega) (by omega)
        refine ⟨v, ?_, ?_, g3⟩
        · rw [iterF_succ]; simp only [s146_0]; rw [cond_true_dec (by simp; omega), rdL_at hx, cond_false_dec hc, e1]; exact g1
        · rw [iterF_succ]; simp only [s173_0, F174]; rw [cond_true_dec (by simp; omega), rdL_at hx]
          simp only [Option.bind_some]
          rw [cond_false_dec hc, e1]; exact g2
  obtain ⟨v, g1, g2, g3⟩ := key l.length 0 fuel (by omega) (by rw [fuel_eq]; omega)
  refine ⟨v, g1, ?_, g3⟩
  unfold gFind F135 F173
  exact congrArg (fun o => Option.bind o fun x1 => some (x1.1, ())) g2
noncomputable abbrev gHungS := F98 gFindS
noncomputable abbrev gHung := F86 gFind
theorem hung_ok (l : List Device) (hl : l.length ≤ 1048576) (d : Device) (hk : d.Kind = 1 ∨ d.Kind = 2 ∨ d.Kind = 3) : ∃ b, gHungS (l, d, ()) = some (b, ()) ∧ gHung (l, d, ()) = some (b, ()) := by
  obtain ⟨v, f1, f2, f3⟩ := find_ok l hl d.Line
  unfold gHungS F98 gHung F86
  simp only [f1, f2, Option.bind_some]
  rcases hk with hk | hk | hk
  · simp only [hk]
    exact ⟨true, rfl, rfl⟩
  · have e : w64 (2 - 1) = 1 := by kernel_rfl
    simp only [hk, e]
    by_cases hv : v ≥ 0
    · obtain ⟨i, rfl⟩ := Int.eq_ofNat_of_zero_le hv
      have hi : i < l.length := by have := f3 hv; omega
      have hx : l[i]? = some l[i] := by simp
      refine ⟨decide (l[i].Kind = 1), ?_, ?_⟩
      · rw [cond_true_dec (by decide), cond_true_dec hv, rdL_at hx]
      · rw [cond_false_dec (by decide), cond_true_dec hv, rdL_at hx]
    · refine ⟨false, ?_, ?_⟩
      · rw [cond_true_dec (by decide), cond_false_dec hv]
      · rw [cond_false_dec (by decide), cond_false_dec hv]
  · have e : w64 (3 - 1) = 2 := by kernel_rfl
    simp only [hk, e]
    by_cases hv : v ≥ 0
    · obtain ⟨i, rfl⟩ := Int.eq_ofNat_of_zero_le hv
      have hi : i < l.length := by have := f3 hv; omega
      have hx : l[i]? = some l[i] := by simp
      refine ⟨decide (l[i].Kind = 2), ?_, ?_⟩
      · rw [cond_false_dec (by decide), cond_true_dec (by decide), cond_true_dec hv, rdL_at hx]
      · rw [cond_false_dec (by decide), cond_true_dec hv, rdL_at hx]
    · refine ⟨false, ?_, ?_⟩
      · rw [cond_false_dec (by decide), cond_true_dec (by decide), cond_false_dec hv]
      · rw [cond_false_dec (by decide), cond_false_dec hv]
noncomputable abbrev gRigS := F49 gDevS gHungS
noncomputable abbrev gRig := F39 gDev gHung
theorem rig_ok (l : List Device) (hl : l.length ≤ 1048576) (hn : DevsOK l) : ∃ b, gRigS (l, ()) = some (b, ()) ∧ gRig (l, ()) = some (b, ()) ∧ (b = true → l.length ≤ 8 ∧ ∀ d ∈ l, gDev (d, ()) = some (true, ())) := by
  have key : ∀ (d i n : Nat), i + d = l.length → d < n → ∃ b,
      iterF (s49_0 gDevS gHungS) n (l, l, Int.ofNat l.length, (i : Int), ()) (fun t7 => some ((decide ((Int.ofNat (List.length t7.1)) ≤ 8)), ())) = some (b && decide (Int.ofNat l.length ≤ 8), ()) ∧
      iterF (s39_0 gDev gHung) n (l, l, Int.ofNat l.length, (i : Int), ()) (fun t7 => some (true, ())) = some (b, ()) ∧ (b = true → ∀ j, i ≤ j → ∀ h : j < l.length, gDev (l[j], ()) = some (true, ())) := by
    intro d
    induction d with
    | zero =>
      intro i n hd hn
      obtain ⟨n, rfl⟩ : ∃ k, n = k + 1 := ⟨n - 1, by omega⟩
      refine ⟨true, ?_, ?_, fun _ j h1 h2 => by omega⟩
      · rw [iterF_succ]; simp only [s49_0]; rw [cond_false_dec (by simp; omega), Bool.true_and]
      · rw [iterF_succ]; simp only [s39_0]; rw [cond_false_dec (by simp; omega)]
    | succ d ih =>
      intro i n hd hnn
      obtain ⟨n, rfl⟩ : ∃ k, n = k + 1 := ⟨n - 1, by omega⟩
      have hi : i < l.length := by omega
      have hx : l[i]? = some l[i] := by simp
      have e1 : w64 ((i : Int) + 1) = ((i + 1 : Nat) : Int) := w64_id (by omega) (by omega)
      obtain ⟨q1, q2⟩ := hn l[i] (by simp)
      obtain ⟨v, d1, d2, d3⟩ := dev_ok l[i] q1 q2
      cases hv : v
      · subst hv
        refine ⟨false, ?_, ?_, fun h => by cases h⟩
        · rw [iterF_succ]; simp only [s49_0]; rw [cond_true_dec (by simp; omega), rdL_at hx, d1]; rfl
        · rw [iterF_succ]; simp only [s39_0]; rw [cond_true_dec (by simp; omega), rdL_at hx, d2]; rfl
      · subst hv
        have hk : l[i].Kind = 1 ∨ l[i].Kind = 2 ∨ l[i].Kind = 3 := by
          rcases d3 rfl with h | h | h
          · exact .inl h
          · exact .inr (.inl h.1)
          · exact .inr (.inr h)
        obtain ⟨hb, u1, u2⟩ := hung_ok l hl l[i] hk
        obtain ⟨b, g1, g2, g3⟩ := ih (i + 1) n (by omega) (by omega)
        have g4 : b = true → ∀ j, i ≤ j → ∀ h : j < l.length, gDev (l[j], ()) = some (true, ()) := fun hb j hj hjl => by
          by_cases hji : j = i
          · subst hji; exact d2
          · exact g3 hb j (by omega) hjl
        by_cases hz : (i : Int) > 0
        · obtain ⟨j, rfl⟩ : ∃ j, i = j + 1 := ⟨i - 1, by omega⟩
          have hy : l[j]? = some l[j] := by simp
          have e2 : w64 (((j + 1 : Nat) : Int) - 1) = (j : Int) := by rw [w64_id (by omega) (by omega)]; omega
          cases ho : Op.bytesLess l[j].Name l[j + 1].Name
          · have ho' : (Op.bytesLess l[j + 1].Name l[j].Name || decide (l[j + 1].Name = l[j].Name)) = true := by rw [← less_total, ho]; rfl
            refine ⟨false, ?_, ?_, fun h => by cases h⟩
            · rw [iterF_succ]; simp only [s49_0]; rw [cond_true_dec (by simp; omega), rdL_at hx, d1]
              simp only [Option.bind_some, Bool.not_true, Bool.not_false, cond_true]
              rw [cond_true_dec hz, e2, rdL_at hy, ho]; rfl
            · rw [iterF_succ]; simp only [s39_0]; rw [cond_true_dec (by simp; omega), rdL_at hx, d2]
              simp only [Option.bind_some, Bool.not_true, Bool.not_false, cond_true]
              rw [cond_true_dec hz, e2, rdL_at hy, ho']; rfl
          · have ho' : (Op.bytesLess l[j + 1].Name l[j].Name || decide (l[j + 1].Name = l[j].Name)) = false := by rw [← less_total, ho]; rfl
            cases hb
            · refine ⟨false, ?_, ?_, fun h => by cases h⟩
              · rw [iterF_succ]; simp only [s49_0]; rw [cond_true_dec (by simp; omega), rdL_at hx, d1]
                simp only [Option.bind_some, Bool.not_true, Bool.not_false, cond_true]
                rw [cond_true_dec hz, e2, rdL_at hy, ho, u1]; rfl
              · rw [iterF_succ]; simp only [s39_0]; rw [cond_true_dec (by simp; omega), rdL_at hx, d2]
                simp only [Option.bind_some, Bool.not_true, Bool.not_false, cond_true]
                rw [cond_true_dec hz, e2, rdL_at hy, ho', u2]; rfl
            · refine ⟨b, ?_, ?_, g4⟩
              · rw [iterF_succ]; simp only [s49_0]; rw [cond_true_dec (by simp; omega), rdL_at hx, d1]
                simp only [Option.bind_some, Bool.not_true, Bool.not_false, cond_true]
                rw [cond_true_dec hz, e2, rdL_at hy, ho, u1, e1]; exact g1
              · rw [iterF_succ]; simp only [s39_0]; rw [cond_true_dec (by simp; omega), rdL_at hx, d2]
                simp only [Option.bind_some, Bool.not_true, Bool.not_false, cond_true]
                rw [cond_true_dec hz, e2, rdL_at hy, ho', u2, e1]; exact g2
        · cases hb
          · refine ⟨false, ?_, ?_, fun h => by cases h⟩
            · rw [iterF_succ]; simp only [s49_0]; rw [cond_true_dec (by simp; omega), rdL_at hx, d1]
              simp only [Option.bind_some, Bool.not_true, Bool.not_false, cond_true]
              rw [cond_false_dec hz, u1]; rfl
            · rw [iterF_succ]; simp only [s39_0]; rw [cond_true_dec (by simp; omega), rdL_at hx, d2]
              simp only [Option.bind_some, Bool.not_true, Bool.not_false, cond_true]
              rw [cond_false_dec hz, u2]; rfl
          · refine ⟨b, ?_, ?_, g4⟩
            · rw [iterF_succ]; simp only [s49_0]; rw [cond_true_dec (by simp; omega), rdL_at hx, d1]
              simp only [Option.bind_some, Bool.not_true, Bool.not_false, cond_true]
              rw [cond_false_dec hz, u1, e1]; exact g1
            · rw [iterF_succ]; simp only [s39_0]; rw [cond_true_dec (by simp; omega), rdL_at hx, d2]
              simp only [Option.bind_some, Bool.not_true, Bool.not_false, cond_true]
              rw [cond_false_dec hz, u2, e1]; exact g2
  obtain ⟨b, g1, g2, g3⟩ := key l.length 0 fuel (by omega) (by rw [fuel_eq]; omega)
  refine ⟨b && decide (Int.ofNat l.length ≤ 8), g1, ?_, fun h => ?_⟩
  rotate_left
  · simp only [Bool.and_eq_true, decide_eq_true_eq] at h
    refine ⟨by have := h.2; simp at this; omega, fun d hd => ?_⟩
    obtain ⟨j, hj, rfl⟩ := List.getElem_of_mem hd
    exact g3 h.1 j (by omega) hj
  unfold gRig F39
  by_cases h8 : Int.ofNat l.length > 8
  · rw [cond_true_dec h8, decide_eq_false (by omega), Bool.and_false]
  · rw [cond_false_dec h8, decide_eq_true (by omega), Bool.and_true]
    exact g2
/-! ### Winds -/
noncomputable abbrev gWindS := F51 gIn gDrS
noncomputable abbrev gWind := F41 gW gDr
theorem wind_same : gWindS = gWind := by
  have e : s51_0 gIn gDrS = s41_0 gW gDr := by
    funext t rec K
    simp only [s51_0, s41_0, drS, drI, in_is, within_is]
    try rfl
  funext a
  unfold gWindS gWind F51 F41
  rw [e]
theorem wind_some (l : List Gust) (hl : l.length ≤ 1048576) : ∃ b, gWind (l, ()) = some (b, ()) := by
  unfold gWind F41
  rcases iterF_rule (f := s41_0 gW gDr) (K := fun t6 => some (decide (Int.ofNat (List.length t6.1) ≤ 8), ())) (t := (l, l, Int.ofNat l.length, 0, ())) l.length
    (fun i t => t = (l, l, Int.ofNat l.length, (i : Int), ())) (fun x => x = some (false, ())) (fun t => True) (by omega) rfl
    (by
      rintro i _ hi rfl
      have hx : l[i]? = some l[i] := by simp
      have e1 : w64 ((i : Int) + 1) = ((i + 1 : Nat) : Int) := w64_id (by omega) (by omega)
      cases h1 : wi l[i].From 0 64
      · refine .inr (.inl ⟨_, rfl, fun rec K => ?_⟩)
        simp only [s41_0]
        rw [cond_true_dec (by simp; omega), rdL_at hx]
        simp only [within_is, h1, Option.bind_some]; rfl
      · cases h2 : isDr l[i].Drift
        · refine .inr (.inl ⟨_, rfl, fun rec K => ?_⟩)
          simp only [s41_0]
          rw [cond_true_dec (by simp; omega), rdL_at hx]
          simp only [within_is, drI, h1, h2, Option.bind_some]; rfl
        · by_cases hz : (i : Int) > 0
          · obtain ⟨j, rfl⟩ : ∃ j, i = j + 1 := ⟨i - 1, by omega⟩
            have hy : l[j]? = some l[j] := by simp
            have e2 : w64 (((j + 1 : Nat) : Int) - 1) = (j : Int) := by rw [w64_id (by omega) (by omega)]; omega
            by_cases hc : l[j + 1].From ≤ l[j].From
            · refine .inr (.inl ⟨_, rfl, fun rec K => ?_⟩)
              simp only [s41_0]
              rw [cond_true_dec (by simp; omega), rdL_at hx]
              simp only [within_is, drI, h1, h2, Option.bind_some, Bool.not_true, Bool.not_false, cond_true]
              rw [cond_true_dec hz, e2, rdL_at hy, cond_true_dec hc]
            · refine .inl ⟨_, rfl, fun rec K => ?_⟩
              simp only [s41_0]
              rw [cond_true_dec (by simp; omega), rdL_at hx]
              simp only [within_is, drI, h1, h2, Option.bind_some, Bool.not_true, Bool.not_false, cond_true]
              rw [cond_true_dec hz, e2, rdL_at hy, cond_false_dec hc, e1]
          · refine .inl ⟨_, rfl, fun rec K => ?_⟩
            simp only [s41_0]
            rw [cond_true_dec (by simp; omega), rdL_at hx]
            simp only [within_is, drI, h1, h2, Option.bind_some, Bool.not_true, Bool.not_false, cond_true]
            rw [cond_false_dec hz, e1])
    (by
      rintro _ rfl
      refine .inr ⟨(l, l, Int.ofNat l.length, (l.length : Int), ()), trivial, fun rec K => ?_⟩
      simp only [s41_0]
      rw [cond_false_dec (by simp)]) with ⟨x, rfl, h⟩ | ⟨t, _, h⟩
  · exact ⟨false, h⟩
  · exact ⟨_, h⟩
/-! ### Shows -/
abbrev ShowT := List Device × List Cue × List Gust × Int × Unit
structure ShowOK (s : ShowT) : Prop where
  rig : s.1.length ≤ 1048576
  devs : DevsOK s.1
  score : s.2.1.length ≤ 1048576
  names : NamesOK s.2.1
  wind : s.2.2.1.length ≤ 1048576
noncomputable abbrev gShowS := F16 gRigS gScoreS gWindS gIn
noncomputable abbrev gShow := F12 gRig gScore gWind gW
theorem show_ok (s : ShowT) (h : ShowOK s) : ∃ b, gShowS (s, ()) = some (b, ()) ∧ gShow (s, ()) = some (b, ()) := by
  obtain ⟨rig, score, wind, ticks, u⟩ := s
  obtain ⟨b1, r1, r2, _⟩ := rig_ok rig h.rig h.devs
  obtain ⟨b2, c2, _⟩ := score_ok score h.names h.score
  have c1 : gScoreS (score, ()) = some (b2, ()) := by rw [score_same score h.names]; exact c2
  obtain ⟨b3, w2⟩ := wind_some wind h.wind
  have w1 : gWindS (wind, ()) = some (b3, ()) := by rw [wind_same]; exact w2
  unfold gShowS F16 gShow F12
  simp only [r1, r2, c1, c2, w1, w2, in_is, within_is, Option.bind_some]
  cases b1 <;> cases b2 <;> cases b3 <;> exact ⟨_, rfl, rfl⟩
/-! ### Sizes, copies, comparisons -/
def ShowWf (s : ShowT) : Prop := ((∀ d ∈ s.1, Wf .device d) ∧ s.1.length ≤ maxLen) ∧ ((∀ c ∈ s.2.1, Wf .cue c) ∧ s.2.1.length ≤ maxLen) ∧ ((∀ g ∈ s.2.2.1, Wf .gust g) ∧ s.2.2.1.length ≤ maxLen)
theorem open_show {w : World} {ca : Array Value} (h : KList w [.sl .device, .sl .cue, .sl .gust, .int .i64] ca.toList) :
    ∃ x : ShowT, RelA (fun _ => none) (fun b => b < w.heap.size) w (.agg [.lst .device x.1, .lst .cue x.2.1, .lst .gust x.2.2.1, .int .i64 x.2.2.2.1]) (.agg ca) ∧ ShowWf x := by
  obtain ⟨c0, r0, e0, ⟨l0, a0, b0, m0⟩, h1⟩ := klist_cons h
  obtain ⟨c1, r1, e1, ⟨l1, a1, b1, m1⟩, h2⟩ := klist_cons h1
  obtain ⟨c2, r2, e2, ⟨l2, a2, b2, m2⟩, h3⟩ := klist_cons h2
  obtain ⟨c3, r3, e3, ⟨n, a3, b3⟩, h4⟩ := klist_cons h3
  have e4 := klist_nil h4
  refine ⟨(l0, l1, l2, n, ()), relA_list ?_, ⟨b0, m0⟩, ⟨b1, m1⟩, ⟨b2, m2⟩⟩
  rw [e0, e1, e2, e3, e4]
  exact ⟨a0, a1, a2, a3, trivial⟩
end Ev
