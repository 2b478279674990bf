/- Places, jets, roses and boxes. -/
import Derived.Test.YtgjppgkbkhiofaaFn2
import Derived.Test.YtgjppgkbkhiofaaPure
set_option linter.unusedVariables false
set_option linter.unusedSimpArgs false
set_option maxRecDepth 100000
namespace Ev
open Go
theorem fuel_ge (m : Nat) (hm : m ≤ 1000) : ∃ n, fuel = n + m := ⟨fuel - m, by rw [fuel_eq]; omega⟩
def wi (a b c : Int) : Bool := decide (b ≤ a) && decide (a ≤ c)
theorem wi_true {a b c : Int} : wi a b c = true ↔ b ≤ a ∧ a ≤ c := by simp [wi]
theorem wi_of {a b c : Int} (h1 : b ≤ a) (h2 : a ≤ c) : wi a b c = true := wi_true.2 ⟨h1, h2⟩
noncomputable abbrev gIn := F60
noncomputable abbrev gW := F67
theorem in_is (a b c : Int) : gIn (a, b, c, ()) = some (wi a b c, ()) := by
  unfold gIn F60 wi
  by_cases h : b ≤ a <;> simp [h]
theorem within_is (a b c : Int) : gW (a, b, c, ()) = some (wi a b c, ()) := by
  unfold gW F67 wi
  by_cases h : b ≤ a <;> simp [h]
/-! ### Headings, measures, places, jets -/
theorem headS (h : Int) : F117 (h, ()) = some (wi h 0 3, ()) := by
  unfold F117 wi
  by_cases h0 : 0 ≤ h <;> simp [h0]
noncomputable abbrev gHead := F109 gW
theorem headI (h : Int) : gHead (h, ()) = some (wi h 0 3, ()) := by
  unfold gHead F109
  simp only [within_is, Option.bind_some]
theorem measS (x : Int) : F94 (x, ()) = some (wi x (-4096) 4096, ()) := by
  unfold F94 wi
  by_cases h0 : -4096 ≤ x <;> simp [h0]
noncomputable abbrev gMeas := F100 gW
theorem measI (x : Int) : gMeas (x, ()) = some (wi x (-4096) 4096, ()) := by
  unfold gMeas F100
  simp only [within_is, Option.bind_some]
def isPl (p : Place) : Bool := wi p.X (-4096) 4096 && wi p.Y (-4096) 4096
noncomputable abbrev gPlS := F63 F94
noncomputable abbrev gPl := F70 gMeas
theorem placeS (p : Place) : gPlS (p, ()) = some (isPl p, ()) := by
  unfold gPlS F63 isPl
  simp only [measS, Option.bind_some]
  cases wi p.X (-4096) 4096 <;> rfl
theorem placeI (p : Place) : gPl (p, ()) = some (isPl p, ()) := by
  unfold gPl F70 isPl
  simp only [measI, Option.bind_some]
  cases wi p.X (-4096) 4096 <;> rfl
def isJet (j : Jet) : Bool := wi j.At.X (-1024) 1024 && (wi j.At.Y (-1024) 1024 && (wi j.Heading 0 3 && (wi j.Tilt 0 16 && wi j.Lift 1 32)))
noncomputable abbrev gJetS := F118 gIn F117
noncomputable abbrev gJet := F106 gW gHead
theorem jetS (j : Jet) : gJetS (j, ()) = some (isJet j, ()) := by
  unfold gJetS F118 isJet
  simp only [in_is, headS, Option.bind_some]
  cases wi j.At.X (-1024) 1024 <;> cases wi j.At.Y (-1024) 1024 <;> cases wi j.Heading 0 3 <;> cases wi j.Tilt 0 16 <;> rfl
theorem jetI (j : Jet) : gJet (j, ()) = some (isJet j, ()) := by
  unfold gJet F106 isJet
  simp only [within_is, headI, Option.bind_some]
  cases wi j.At.X (-1024) 1024 <;> cases wi j.At.Y (-1024) 1024 <;> cases wi j.Heading 0 3 <;> cases wi j.Tilt 0 16 <;> rfl
structure JetOK (j : Jet) : Prop where
  x : -1024 ≤ j.At.X ∧ j.At.X ≤ 1024
  y : -1024 ≤ j.At.Y ∧ j.At.Y ≤ 1024
  h : 0 ≤ j.Heading ∧ j.Heading ≤ 3
  t : 0 ≤ j.Tilt ∧ j.Tilt ≤ 16
  l : 1 ≤ j.Lift ∧ j.Lift ≤ 32
theorem jet_ok {j : Jet} (h : isJet j = true) : JetOK j := by
  simp only [isJet, Bool.and_eq_true, wi_true] at h
  exact ⟨h.1, h.2.1, h.2.2.1, h.2.2.2.1, h.2.2.2.2⟩
/-! ### Flights -/
def fl (j : Jet) : Int := if isJet j = true then j.Lift + 1 else 0
/-! ### Turns -/
def rotN : Nat → Place → Place
  | 0, p => p
  | k + 1, p => rotN k ⟨w64 (0 - p.Y), p.X⟩
theorem k4 {k : Nat} (h : k < 4) : k = 0 ∨ k = 1 ∨ k = 2 ∨ k = 3 := by omega
noncomputable abbrev gTurnS := F87 F107
noncomputable abbrev gTurn := F88 F108
theorem turn_loopS (f) (p z : Place) (n k : Nat) (hk : k < 4) (K) : ∃ c, iterF (s87_0 f) (n + 9) (p, z, (k : Int), ()) K = K (rotN k p, c) := by
  rcases k4 hk with rfl | rfl | rfl | rfl <;> exact ⟨(z, 0, ()), by kernel_rfl⟩
theorem turn_loopI (f) (p z : Place) (n k : Nat) (hk : k < 4) (K) : ∃ c, iterF (s88_0 f) (n + 9) (p, z, (k : Int), 0, ()) K = K (rotN k p, c) := by
  rcases k4 hk with rfl | rfl | rfl | rfl
  · exact ⟨(z, 0, 0, ()), by kernel_rfl⟩
  · exact ⟨(z, 1, 1, ()), by kernel_rfl⟩
  · exact ⟨(z, 2, 2, ()), by kernel_rfl⟩
  · exact ⟨(z, 3, 3, ()), by kernel_rfl⟩
theorem turnS (p : Place) (k : Nat) (hk : k < 4) : gTurnS (p, (k : Int), ()) = some (rotN k p, ()) := by
  unfold gTurnS F87
  have e : F107 ((k : Int), ()) = some ((k : Int), ()) := by rcases k4 hk with rfl | rfl | rfl | rfl <;> kernel_rfl
  simp only [e, Option.bind_some]
  obtain ⟨n, hn⟩ := fuel_ge 9 (by omega)
  obtain ⟨c, hc⟩ := turn_loopS F107 p ⟨0, 0⟩ n k hk (fun t3 => some (t3.1, ()))
  rw [hn, hc]
theorem turnI (p : Place) (k : Nat) (hk : k < 4) : gTurn (p, (k : Int), ()) = some (rotN k p, ()) := by
  unfold gTurn F88
  have e : F108 ((k : Int), ()) = some ((k : Int), ()) := by rcases k4 hk with rfl | rfl | rfl | rfl <;> kernel_rfl
  simp only [e, Option.bind_some]
  obtain ⟨n, hn⟩ := fuel_ge 9 (by omega)
  obtain ⟨c, hc⟩ := turn_loopI F108 p ⟨0, 0⟩ n k hk (fun t3 => some (t3.1, ()))
  rw [hn, hc]
theorem rot_bound (x m : Int) (h0 : 0 ≤ x) (hm : x ≤ m) (hb : m ≤ 1099511627776) (k : Nat) (hk : k < 4) : -m ≤ (rotN k ⟨x, 0⟩).X ∧ (rotN k ⟨x, 0⟩).X ≤ m ∧ -m ≤ (rotN k ⟨x, 0⟩).Y ∧ (rotN k ⟨x, 0⟩).Y ≤ m := by
  have e0 : w64 (0 - 0) = 0 := w64_id (by omega) (by omega)
  have e1 : w64 (0 - x) = -x := by rw [w64_id (by omega) (by omega)]; omega
  have e2 : w64 (0 - -x) = x := by rw [w64_id (by omega) (by omega)]; omega
  rcases k4 hk with rfl | rfl | rfl | rfl <;> simp only [rotN, e0, e1, e2] <;> omega
/-! ### Landings -/
def land (j : Jet) : Place := ⟨w64 (j.At.X + (rotN j.Heading.toNat ⟨w64 ((j.Lift + 1) * j.Tilt), 0⟩).X), w64 (j.At.Y + (rotN j.Heading.toNat ⟨w64 ((j.Lift + 1) * j.Tilt), 0⟩).Y)⟩
theorem jump {j : Jet} (J : JetOK j) : w64 ((j.Lift + 1) * j.Tilt) = (j.Lift + 1) * j.Tilt ∧ 0 ≤ (j.Lift + 1) * j.Tilt ∧ (j.Lift + 1) * j.Tilt ≤ 528 := by
  have hl := J.l; have ht := J.t
  have a : 0 ≤ (j.Lift + 1) * j.Tilt := Int.mul_nonneg (by omega) ht.1
  have b : (j.Lift + 1) * j.Tilt ≤ 33 * 16 := Int.mul_le_mul (by omega) ht.2 ht.1 (by omega)
  exact ⟨w64_id (by omega) (by omega), a, by omega⟩
theorem land_bound {j : Jet} (J : JetOK j) : (-1552 ≤ (land j).X ∧ (land j).X ≤ 1552 ∧ -1552 ≤ (land j).Y ∧ (land j).Y ≤ 1552) ∧ (land j).X = j.At.X + (rotN j.Heading.toNat ⟨(j.Lift + 1) * j.Tilt, 0⟩).X ∧ (land j).Y = j.At.Y + (rotN j.Heading.toNat ⟨(j.Lift + 1) * j.Tilt, 0⟩).Y := by
  obtain ⟨e, h0, h1⟩ := jump J
  have hh := J.h; have hx := J.x; have hy := J.y
  obtain ⟨b1, b2, b3, b4⟩ := rot_bound ((j.Lift + 1) * j.Tilt) 528 h0 h1 (by omega) j.Heading.toNat (by omega)
  unfold land
  rw [e]
  simp only
  rw [w64_id (by omega) (by omega), w64_id (by omega) (by omega)]
  omega
def landP (j : Jet) : Place × Bool := if isJet j = true then (land j, true) else (⟨0, 0⟩, false)
/-! ### Roses -/
def isDr (p : Place) : Bool := wi p.X (-8) 8 && wi p.Y (-8) 8
noncomputable abbrev gDrS := F61 gIn
noncomputable abbrev gDr := F68 gW
theorem drS (p : Place) : gDrS (p, ()) = some (isDr p, ()) := by
  unfold gDrS F61 isDr
  simp only [in_is, Option.bind_some]
  cases wi p.X (-8) 8 <;> rfl
theorem drI (p : Place) : gDr (p, ()) = some (isDr p, ()) := by
  unfold gDr F68 isDr
  simp only [within_is, Option.bind_some]
  cases wi p.X (-8) 8 <;> rfl
def cmpI (a b : Int) : Int := if a < b then -1 else if a > b then 1 else 0
def cmpP (p q : Place) : Int := if cmpI p.X q.X = 0 then cmpI p.Y q.Y else cmpI p.X q.X
noncomputable abbrev gCmp := F99 F116
theorem cmpI_is (a b : Int) : gCmp (a, b, ()) = some (cmpI a b, ()) := by
  unfold gCmp F99 F116 cmpI
  simp only [decide_true, Bool.not_true, Option.bind_some, cond_false]
  by_cases h1 : a < b
  · simp [h1]
  · by_cases h2 : a > b <;> simp [h1, h2]
theorem or_0 (a b : Int) (n : Nat) (K) : iterF s98_0 (n + 5) (0, [a, b], 2, 0, ()) K = cond (!(decide (a = 0))) (some (a, ())) (iterF s98_0 (n + 4) (0, [a, b], 2, 1, ()) K) := by kernel_rfl
theorem or_1 (a b : Int) (n : Nat) (K) : iterF s98_0 (n + 4) (0, [a, b], 2, 1, ()) K = cond (!(decide (b = 0))) (some (b, ())) (iterF s98_0 (n + 3) (0, [a, b], 2, 2, ()) K) := by kernel_rfl
theorem or_2 (a b : Int) (n : Nat) (K) : iterF s98_0 (n + 3) (0, [a, b], 2, 2, ()) K = K (0, [a, b], 2, 2, ()) := by kernel_rfl
theorem or_is (a b : Int) : F98 ([a, b], ()) = some (if a = 0 then b else a, ()) := by
  unfold F98
  obtain ⟨n, hn⟩ := fuel_ge 5 (by omega)
  rw [hn]
  have l : Int.ofNat [a, b].length = 2 := rfl
  simp only [l]
  rw [or_0]
  by_cases ha : a = 0
  · rw [decide_eq_true ha, if_pos ha, or_1]
    by_cases hb : b = 0
    · rw [decide_eq_true hb, or_2, hb]; rfl
    · rw [decide_eq_false hb]; rfl
  · rw [decide_eq_false ha, if_neg ha]; rfl
noncomputable abbrev gCmpP := F69 gCmp F98
theorem cmpPI (p q : Place) : gCmpP (p, q, ()) = some (cmpP p q, ()) := by
  unfold gCmpP F69 cmpP
  simp only [cmpI_is, or_is, Option.bind_some]
theorem cmpPS (p q : Place) : F62 (p, q, ()) = some (cmpP p q, ()) := by
  unfold F62 cmpP cmpI
  simp only [Bool.and_true]
  by_cases h1 : p.X < q.X
  · simp [h1]
  · by_cases h2 : p.X = q.X
    · by_cases h3 : p.Y < q.Y
      · simp [h2, h3]
      · by_cases h4 : p.Y = q.Y
        · simp [h2, h4]
        · have : p.Y > q.Y := by omega
          simp [h2, h3, h4, this]
    · have : p.X > q.X := by omega
      simp [h1, h2, this]
noncomputable abbrev gRoseS := F23 gDrS F62
noncomputable abbrev gRose := F28 gDr gCmpP gW
theorem rose_same : gRoseS = gRose := by
  have e : s23_0 gDrS F62 = s28_0 gDr gCmpP gW := by
    funext t rec K
    simp only [s23_0, s28_0, drS, drI, cmpPS, cmpPI]
  funext a
  unfold gRoseS gRose F23 F28
  rw [e]
  congr 1
  funext t
  simp only [within_is, Option.bind_some]
  unfold wi
  by_cases h : Int.ofNat t.1.length ≥ 1
  · have h' : 1 ≤ Int.ofNat t.1.length := h
    rw [cond_true_dec h, decide_eq_true h', Bool.true_and]
  · have h' : ¬ 1 ≤ Int.ofNat t.1.length := h
    rw [cond_false_dec h, decide_eq_false h']; rfl
theorem rose_ok (r : List Place) (hr : r.length ≤ 1048576) : ∃ b, gRose (r, ()) = some (b, ()) ∧ (b = true → 1 ≤ r.length ∧ r.length ≤ 4 ∧ ∀ p ∈ r, isDr p = true) := by
  unfold gRose F28
  rcases iterF_rule (f := s28_0 gDr gCmpP gW) (K := fun t6 => (gW ((Int.ofNat (List.length t6.1)), 1, 4, ())).bind fun x7 => some (x7.1, ())) (t := (r, r, Int.ofNat r.length, 0, ())) r.length
    (fun i t => t = (r, r, Int.ofNat r.length, (i : Int), ()) ∧ ∀ p ∈ r.take i, isDr p = true) (fun x => x = some (false, ())) (fun t => t.1 = r ∧ ∀ p ∈ r, isDr p = true) (by omega) ⟨rfl, by simp⟩
    (by
      rintro i _ hi ⟨rfl, hall⟩
      have hx : r[i]? = some r[i] := by simp
      have grow : isDr r[i] = true → ∀ p ∈ r.take (i + 1), isDr p = true := fun hd p hp => by
        rw [List.take_add_one, hx] at hp
        rcases List.mem_append.mp hp with h | h
        · exact hall p h
        · simp at h; subst h; exact hd
      have e1 : w64 ((i : Int) + 1) = ((i + 1 : Nat) : Int) := w64_id (by omega) (by omega)
      cases hd : isDr r[i]
      · refine .inr (.inl ⟨_, rfl, fun rec K => ?_⟩)
        simp only [s28_0]
        rw [cond_true_dec (by simp; omega), rdL_at hx]
        simp only [drI, hd, Option.bind_some]
        rfl
      · by_cases hz : (i : Int) > 0
        · obtain ⟨j, rfl⟩ : ∃ j, i = j + 1 := ⟨i - 1, by omega⟩
          have hy : r[j]? = some r[j] := by simp
          have e2 : w64 (((j + 1 : Nat) : Int) - 1) = (j : Int) := by rw [w64_id (by omega) (by omega)]; omega
          by_cases hc : cmpP r[j] r[j + 1] ≥ 0
          · refine .inr (.inl ⟨_, rfl, fun rec K => ?_⟩)
            simp only [s28_0]
            rw [cond_true_dec (by simp; omega), rdL_at hx]
            simp only [drI, hd, Option.bind_some, Bool.not_true, Bool.not_false, cond_true]
            rw [cond_true_dec hz, e2, rdL_at hy]
            simp only [cmpPI, Option.bind_some]
            rw [cond_true_dec hc]
          · refine .inl ⟨_, ⟨rfl, grow hd⟩, fun rec K => ?_⟩
            simp only [s28_0]
            rw [cond_true_dec (by simp; omega), rdL_at hx]
            simp only [drI, hd, Option.bind_some, Bool.not_true, Bool.not_false, cond_true]
            rw [cond_true_dec hz, e2, rdL_at hy]
            simp only [cmpPI, Option.bind_some]
            rw [cond_false_dec hc, e1]
        · refine .inl ⟨_, ⟨rfl, grow hd⟩, fun rec K => ?_⟩
          simp only [s28_0]
          rw [cond_true_dec (by simp; omega), rdL_at hx]
          simp only [drI, hd, Option.bind_some, Bool.not_true, Bool.not_false, cond_true]
          rw [cond_false_dec hz, e1])
    (by
      rintro _ ⟨rfl, hall⟩
      refine .inr ⟨(r, r, Int.ofNat r.length, (r.length : Int), ()), ⟨rfl, by simpa using hall⟩, fun rec K => ?_⟩
      simp only [s28_0]
      rw [cond_false_dec (by simp)]) with ⟨x, rfl, h⟩ | ⟨t, ⟨ht, hall⟩, h⟩
  · exact ⟨false, h, fun e => by cases e⟩
  · rw [within_is] at h
    refine ⟨_, h, fun e => ?_⟩
    rw [ht, wi_true] at e
    simp at e
    exact ⟨by omega, by omega, hall⟩
/-! ### Boxes around places -/
theorem mn_self (a : Int) : mn a a = a := by rw [mn_eq]; split <;> rfl
theorem mx_self (a : Int) : mx a a = a := by rw [mx_eq]; split <;> rfl
def grow (b : Box) (p : Place) : Box := ⟨⟨mn b.Low.X p.X, mn b.Low.Y p.Y⟩, ⟨mx b.High.X p.X, mx b.High.Y p.Y⟩⟩
def InB (m : Int) (b : Box) : Prop := (-m ≤ b.Low.X ∧ b.Low.X ≤ m) ∧ (-m ≤ b.Low.Y ∧ b.Low.Y ≤ m) ∧ (-m ≤ b.High.X ∧ b.High.X ≤ m) ∧ (-m ≤ b.High.Y ∧ b.High.Y ≤ m)
theorem grow_in {m : Int} {b : Box} {p : Place} (h : InB m b) (hx : -m ≤ p.X ∧ p.X ≤ m) (hy : -m ≤ p.Y ∧ p.Y ≤ m) : InB m (grow b p) := by
  obtain ⟨h1, h2, h3, h4⟩ := h
  unfold InB grow
  simp only [mn_eq, mx_eq]
  refine ⟨?_, ?_, ?_, ?_⟩ <;> split <;> omega
/-! ### Lists of places: copied, compared -/
theorem szPlaces (l : List Place) (hl : l.length ≤ 1048576) (n : Int) (hn : 0 ≤ n ∧ n ≤ 1048576) : F21 (l, n, ()) = some (if n < (l.length : Int) then -1 else n - (l.length : Int), ()) := by
  unfold F21
  have e : w64 (n - Int.ofNat l.length) = n - (l.length : Int) := w64_id (by simp; omega) (by simp; omega)
  simp only [e]
  by_cases h : n < (l.length : Int)
  · rw [cond_true_dec (by omega), if_pos h]
  · rw [cond_false_dec (by omega), if_neg h]
theorem szPlaces_big (l : List Place) (hl : ¬ l.length ≤ 1048576) (hm : l.length ≤ 9223372036854775807) (n : Int) (hn : 0 ≤ n ∧ n ≤ 1048576) : F21 (l, n, ()) = some (-1, ()) := by
  unfold F21
  have e : w64 (n - Int.ofNat l.length) = n - (l.length : Int) := w64_id (by simp; omega) (by simp; omega)
  simp only [e]
  rw [cond_true_dec (by omega)]
noncomputable abbrev gToPs := F25 F14
theorem toPlaces (l : List Place) (hl : l.length ≤ 1048576) : gToPs (l, ()) = some (l, ()) := by
  unfold gToPs F25
  rw [okIf_pos (by simp), capK_le (by simp; omega)]
  obtain ⟨t, ⟨m, rfl, h1, h2⟩, e⟩ := iterF_all (f := s25_0 F14) (K := fun t4 => some (t4.2.1, ())) (t := (l, List.replicate (Int.toNat (Int.ofNat l.length)) (Ty.zero .place), 0, ())) l.length
    (fun i t => ∃ m : List Place, t = (l, m, (i : Int), ()) ∧ m.length = l.length ∧ ∀ j, j < i → m[j]? = l[j]?) (by omega) ⟨_, rfl, by simp, fun j hj => by omega⟩
    (by
      rintro i _ hi ⟨m, rfl, h1, h2⟩
      have hx : l[i]? = some l[i] := by simp
      have hd : m[i]? = some m[i] := by simp
      refine ⟨_, ⟨m.set i l[i], rfl, by simp [h1], fun j hj => ?_⟩, fun rec K => ?_⟩
      · rw [List.getElem?_set]
        by_cases hji : i = j
        · subst hji; simp [h1, hi]
        · simp only [if_neg hji]; exact h2 j (by omega)
      · simp only [s25_0]
        rw [cond_dec, if_pos (by simp; omega), rdL_at hx]
        simp only [F14, Option.bind_some]
        rw [rdL_at hd]
        simp only [Int.toNat_natCast]
        rw [hd, w64_id (by omega) (by omega)]
        rfl)
    (by
      rintro _ ⟨m, rfl, h1, h2⟩ rec K
      simp only [s25_0]
      rw [cond_dec, if_neg (by simp)])
  have : m = l := List.ext_getElem? fun j => by
    by_cases hj : j < l.length
    · exact h2 j hj
    · rw [List.getElem?_eq_none (by omega), List.getElem?_eq_none (by omega)]
  subst this
  exact e
theorem eqPlace_self (a : Place) : F71 (a, a, ()) = some (true, ()) := by
  unfold F71; simp
theorem eqPlaces (l : List Place) (hl : l.length ≤ 1048576) : F30 F71 (l, l, ()) = some (true, ()) := by
  unfold F30
  simp only [decide_true, Bool.not_true, cond_false]
  obtain ⟨t, ⟨_, rfl⟩, e⟩ := iterF_all (f := s30_0 F71) (K := fun _ => some (true, ())) (t := (l, l, 0, ())) l.length
    (fun i t => True ∧ t = (l, l, (i : Int), ())) (by omega) ⟨trivial, rfl⟩
    (by
      rintro i _ hi ⟨_, rfl⟩
      have hx : l[i]? = some l[i] := by simp
      refine ⟨_, ⟨trivial, rfl⟩, fun rec K => ?_⟩
      simp only [s30_0]
      rw [cond_true_dec (by simp <;> omega), rdL_at hx, rdL_at hx, eqPlace_self, w64_id (by omega) (by omega)]
      rfl)
    (by
      rintro _ ⟨_, rfl⟩ rec K
      simp only [s30_0]
      rw [cond_false_dec (by simp)])
  exact e
end Ev
