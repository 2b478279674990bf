/- What a run ends with: rules for the shapes that the functions' texts have. Places, jets, roses and boxes. Names. Scores: cues, ramps, levels. Shows: rigs, scores, winds. -/
import Derived.Test.YtpnlcamcnhpbhaaPureA
import Derived.Test.YtpnlcamcnhpbhaaAbb
set_option linter.unusedVariables false
set_option linter.unusedSimpArgs false
set_option maxRecDepth 100000
namespace Ev
open Go
def wp {R : Type} (o : Option R) (Q : R → Prop) : Prop := ∃ r, o = some r ∧ Q r
theorem wp_some {R : Type} {r : R} {Q : R → Prop} (h : Q r) : wp (some r) Q := ⟨r, rfl, h⟩
theorem wp_mono {R : Type} {o : Option R} {P Q : R → Prop} (h : wp o P) (k : ∀ r, P r → Q r) : wp o Q := by
  obtain ⟨r, e, p⟩ := h
  exact ⟨r, e, k r p⟩
theorem wp_bind {R S : Type} {o : Option R} {K : R → Option S} {P : R → Prop} {Q : S → Prop} (h : wp o P) (k : ∀ r, P r → wp (K r) Q) : wp (o.bind K) Q := by
  obtain ⟨r, e, p⟩ := h
  rw [e]
  exact k r p
theorem wp_cond {R : Type} {c : Bool} {a b : Option R} {Q : R → Prop} (h1 : c = true → wp a Q) (h2 : c = false → wp b Q) : wp (cond c a b) Q := by
  cases c with
  | true => exact h1 rfl
  | false => exact h2 rfl
theorem wp_dec {R : Type} {p : Prop} [Decidable p] {a b : Option R} {Q : R → Prop} (h1 : p → wp a Q) (h2 : ¬ p → wp b Q) : wp (cond (decide p) a b) Q := by
  by_cases h : p
  · rw [cond_true_dec h]; exact h1 h
  · rw [cond_false_dec h]; exact h2 h
theorem wp_cap {R : Type} {n : Nat} {o : Option R} {Q : R → Prop} (h : n ≤ 1099511627776) (k : wp o Q) : wp (capK n o) Q := by
  rw [capK_le h]; exact k
theorem wp_okIf {R : Type} {p : Prop} [Decidable p] {o : Option R} {Q : R → Prop} (h : p) (k : wp o Q) : wp (okIf p o) Q := by
  rw [okIf_pos h]; exact k
theorem wp_rd {R α : Type} {l : List α} {i : Int} {K : α → Option R} {Q : R → Prop} (h0 : 0 ≤ i) (h1 : i < l.length) (k : ∀ x, x ∈ l → l[i.toNat]? = some x → wp (K x) Q) : wp (rdL l i K) Q := by
  obtain ⟨n, rfl⟩ := Int.eq_ofNat_of_zero_le h0
  have hn : n < l.length := by omega
  have hx : l[n]? = some l[n] := by simp
  rw [rdL_at hx]
  exact k _ (by simp) (by simp [hn])
/-- A loop whose measure falls. -/
theorem wp_iterN {R T : Type} {f : T → (T → Option R) → (T → Option R) → Option R} {K : T → Option R} {Q : R → Prop} (I : Nat → T → Prop)
    (hs : ∀ j t, I j t → ∀ rec : T → Option R, (∀ j' t', j' < j → I j' t' → wp (rec t') Q) → wp (f t rec K) Q) :
    ∀ (m j : Nat) (t : T), j < m → I j t → wp (iterF f m t K) Q := by
  intro m
  induction m with
  | zero => intro j t h; omega
  | succ m ih =>
    intro j t hj h
    exact hs j t h _ fun j' t' hlt h' => ih j' t' (by omega) h'
theorem wp_iter {R T : Type} {f : T → (T → Option R) → (T → Option R) → Option R} {K : T → Option R} {Q : R → Prop} {t : T} (j : Nat) (I : Nat → T → Prop) (hj : j < 36893488147419103232) (h0 : I j t)
    (hs : ∀ j t, I j t → ∀ rec : T → Option R, (∀ j' t', j' < j → I j' t' → wp (rec t') Q) → wp (f t rec K) Q) : wp (iterF f fuel t K) Q :=
  wp_iterN I hs fuel j t (by rw [fuel_eq]; exact hj) h0
/-- The same, where what comes behind the loop is looked at apart. -/
theorem wp_loop {R T : Type} {f : T → (T → Option R) → (T → Option R) → Option R} {K : T → Option R} {Q : R → Prop} {t : T} (j : Nat) (I : Nat → T → Prop) (P : T → Prop) (hj : j < 36893488147419103232) (h0 : I j t)
    (hs : ∀ j t, I j t → ∀ rec K : T → Option R, (∀ j' t', j' < j → I j' t' → wp (rec t') Q) → (∀ t', P t' → wp (K t') Q) → wp (f t rec K) Q) (hk : ∀ t, P t → wp (K t) Q) : wp (iterF f fuel t K) Q :=
  wp_iter j I hj h0 fun j t h rec hr => hs j t h rec K hr hk
/-- A loop over states that are known. -/
theorem iterF_for {R T : Type} {f : T → (T → Option R) → (T → Option R) → Option R} {K : T → Option R} (st : Nat → T) (n : Nat) (hn : n ≤ 18446744073709551616)
    (hs : ∀ i, i < n → ∀ rec K, f (st i) rec K = rec (st (i + 1))) (he : ∀ rec K, f (st n) rec K = K (st n)) : iterF f fuel (st 0) K = K (st n) := by
  obtain ⟨t, e1, e⟩ := iterF_all (f := f) (K := K) (t := st 0) n (fun i t => t = st i) hn rfl (fun i t hi h => ⟨st (i + 1), rfl, fun rec K => by rw [h]; exact hs i hi rec K⟩) (fun t h rec K => by rw [h]; exact he rec K)
  rw [e, e1]
/-- A loop that looks at each state, and is left with 'r' where one is not as it should be. -/
theorem iterF_chkN {R T : Type} {f : T → (T → Option R) → (T → Option R) → Option R} {K : T → Option R} (st : Nat → T) (p : Nat → Bool) (r : Option R) (n : Nat)
    (hs : ∀ i, i < n → ∀ rec K, f (st i) rec K = cond (p i) (rec (st (i + 1))) r) (he : ∀ rec K, f (st n) rec K = K (st n)) :
    ∀ (d i m : Nat), i + d = n → d < m → iterF f m (st i) K = cond ((List.range' i d).all p) (K (st n)) r := by
  intro d
  induction d with
  | zero =>
    intro i m h1 h2
    obtain ⟨m, rfl⟩ : ∃ k, m = k + 1 := ⟨m - 1, by omega⟩
    have : i = n := by omega
    subst this
    rw [iterF_succ, he]; rfl
  | succ d ih =>
    intro i m h1 h2
    obtain ⟨m, rfl⟩ : ∃ k, m = k + 1 := ⟨m - 1, by omega⟩
    rw [iterF_succ, hs i (by omega), ih (i + 1) m (by omega) (by omega), List.range'_succ, List.all_cons]
    cases p i <;> rfl
theorem iterF_chk {R T : Type} {f : T → (T → Option R) → (T → Option R) → Option R} {K : T → Option R} (st : Nat → T) (p : Nat → Bool) (r : Option R) (n : Nat) (hn : n ≤ 18446744073709551616)
    (hs : ∀ i, i < n → ∀ rec K, f (st i) rec K = cond (p i) (rec (st (i + 1))) r) (he : ∀ rec K, f (st n) rec K = K (st n)) :
    iterF f fuel (st 0) K = cond ((List.range n).all p) (K (st n)) r := by
  rw [List.range_eq_range']
  exact iterF_chkN st p r n hs he n 0 fuel (by omega) (by rw [fuel_eq]; omega)
/-! ### Cursors of drawn bytes -/
abbrev Cur := List Int × Int × Int × Unit
def CurP {α : Type} (b : List Int) (P : α → Prop) (r : Cur × α × Unit) : Prop := ∃ i h, r.1 = (b, i, h, ()) ∧ 0 ≤ i ∧ P r.2.1
theorem wp_cur {α S : Type} {b : List Int} {P : α → Prop} {o : Option (Cur × α × Unit)} {K : Cur × α × Unit → Option S} {Q : S → Prop} (h : wp o (CurP b P)) (k : ∀ i h v, 0 ≤ i → P v → wp (K ((b, i, h, ()), v, ())) Q) : wp (o.bind K) Q := by
  obtain ⟨⟨c, v, u⟩, e, i, h, hc, hi, hp⟩ := h
  rw [e]
  have hc : c = (b, i, h, ()) := hc
  subst hc
  exact k i h v hi hp
theorem wp_ret {α : Type} {b : List Int} {P : α → Prop} {i h : Int} {v : α} (hi : 0 ≤ i) (hp : P v) : wp (some ((b, i, h, ()), v, ())) (CurP b P) := ⟨_, rfl, i, h, rfl, hi, hp⟩
end Ev

namespace Ev
open Go
theorem fuel_ge (m : Nat) (hm : m ≤ 1000) : ∃ n, fuel = n + m := ⟨fuel - m, by rw [fuel_eq]; omega⟩
def wi (a b c : Int) : Bool := decide (b ≤ a) && decide (a ≤ c)
theorem wi_true {a b c : Int} : wi a b c = true ↔ b ≤ a ∧ a ≤ c := by simp [wi]
theorem wi_of {a b c : Int} (h1 : b ≤ a) (h2 : a ≤ c) : wi a b c = true := wi_true.2 ⟨h1, h2⟩
noncomputable abbrev gIn := F29
noncomputable abbrev gW := F27
theorem in_is (a b c : Int) : gIn (a, b, c, ()) = some (wi a b c, ()) := by
  unfold gIn F29 wi
  by_cases h : b ≤ a <;> simp [h]
theorem within_is (a b c : Int) : gW (a, b, c, ()) = some (wi a b c, ()) := by
  unfold gW F27 wi
  by_cases h : b ≤ a <;> simp [h]
/-! ### Headings, measures, places, jets -/
def isPl (p : Place) : Bool := wi p.X (-4096) 4096 && wi p.Y (-4096) 4096
def isJet (j : Jet) : Bool := wi j.At.X (-1024) 1024 && (wi j.At.Y (-1024) 1024 && (wi j.Heading 0 3 && (wi j.Tilt 0 16 && wi j.Lift 1 32)))
structure JetOK (j : Jet) : Prop where
  x : -1024 ≤ j.At.X ∧ j.At.X ≤ 1024
  y : -1024 ≤ j.At.Y ∧ j.At.Y ≤ 1024
  h : 0 ≤ j.Heading ∧ j.Heading ≤ 3
  t : 0 ≤ j.Tilt ∧ j.Tilt ≤ 16
  l : 1 ≤ j.Lift ∧ j.Lift ≤ 32
theorem jet_ok {j : Jet} (h : isJet j = true) : JetOK j := by
  simp only [isJet, Bool.and_eq_true, wi_true] at h
  exact ⟨h.1, h.2.1, h.2.2.1, h.2.2.2.1, h.2.2.2.2⟩
/-! ### Flights -/
def fl (j : Jet) : Int := if isJet j = true then j.Lift + 1 else 0
/-! ### Turns -/
def rotN : Nat → Place → Place
  | 0, p => p
  | k + 1, p => rotN k ⟨w64 (0 - p.Y), p.X⟩
theorem k4 {k : Nat} (h : k < 4) : k = 0 ∨ k = 1 ∨ k = 2 ∨ k = 3 := by omega
theorem rot_bound (x m : Int) (h0 : 0 ≤ x) (hm : x ≤ m) (hb : m ≤ 1099511627776) (k : Nat) (hk : k < 4) : -m ≤ (rotN k ⟨x, 0⟩).X ∧ (rotN k ⟨x, 0⟩).X ≤ m ∧ -m ≤ (rotN k ⟨x, 0⟩).Y ∧ (rotN k ⟨x, 0⟩).Y ≤ m := by
  have e0 : w64 (0 - 0) = 0 := w64_id (by omega) (by omega)
  have e1 : w64 (0 - x) = -x := by rw [w64_id (by omega) (by omega)]; omega
  have e2 : w64 (0 - -x) = x := by rw [w64_id (by omega) (by omega)]; omega
  rcases k4 hk with rfl | rfl | rfl | rfl <;> simp only [rotN, e0, e1, e2] <;> omega
/-! ### Landings -/
def land (j : Jet) : Place := ⟨w64 (j.At.X + (rotN j.Heading.toNat ⟨w64 ((j.Lift + 1) * j.Tilt), 0⟩).X), w64 (j.At.Y + (rotN j.Heading.toNat ⟨w64 ((j.Lift + 1) * j.Tilt), 0⟩).Y)⟩
theorem jump {j : Jet} (J : JetOK j) : w64 ((j.Lift + 1) * j.Tilt) = (j.Lift + 1) * j.Tilt ∧ 0 ≤ (j.Lift + 1) * j.Tilt ∧ (j.Lift + 1) * j.Tilt ≤ 528 := by
  have hl := J.l; have ht := J.t
  have a : 0 ≤ (j.Lift + 1) * j.Tilt := Int.mul_nonneg (by omega) ht.1
  have b : (j.Lift + 1) * j.Tilt ≤ 33 * 16 := Int.mul_le_mul (by omega) ht.2 ht.1 (by omega)
  exact ⟨w64_id (by omega) (by omega), a, by omega⟩
theorem land_bound {j : Jet} (J : JetOK j) : (-1552 ≤ (land j).X ∧ (land j).X ≤ 1552 ∧ -1552 ≤ (land j).Y ∧ (land j).Y ≤ 1552) ∧ (land j).X = j.At.X + (rotN j.Heading.toNat ⟨(j.Lift + 1) * j.Tilt, 0⟩).X ∧ (land j).Y = j.At.Y + (rotN j.Heading.toNat ⟨(j.Lift + 1) * j.Tilt, 0⟩).Y := by
  obtain ⟨e, h0, h1⟩ := jump J
  have hh := J.h; have hx := J.x; have hy := J.y
  obtain ⟨b1, b2, b3, b4⟩ := rot_bound ((j.Lift + 1) * j.Tilt) 528 h0 h1 (by omega) j.Heading.toNat (by omega)
  unfold land
  rw [e]
  simp only
  rw [w64_id (by omega) (by omega), w64_id (by omega) (by omega)]
  omega
def landP (j : Jet) : Place × Bool := if isJet j = true then (land j, true) else (⟨0, 0⟩, false)
/-! ### Roses -/
def isDr (p : Place) : Bool := wi p.X (-8) 8 && wi p.Y (-8) 8
def cmpI (a b : Int) : Int := if a < b then -1 else if a > b then 1 else 0
def cmpP (p q : Place) : Int := if cmpI p.X q.X = 0 then cmpI p.Y q.Y else cmpI p.X q.X
/-! ### Boxes around places -/
theorem mn_self (a : Int) : mn a a = a := by rw [mn_eq]; split <;> rfl
theorem mx_self (a : Int) : mx a a = a := by rw [mx_eq]; split <;> rfl
def grow (b : Box) (p : Place) : Box := ⟨⟨mn b.Low.X p.X, mn b.Low.Y p.Y⟩, ⟨mx b.High.X p.X, mx b.High.Y p.Y⟩⟩
def InB (m : Int) (b : Box) : Prop := (-m ≤ b.Low.X ∧ b.Low.X ≤ m) ∧ (-m ≤ b.Low.Y ∧ b.Low.Y ≤ m) ∧ (-m ≤ b.High.X ∧ b.High.X ≤ m) ∧ (-m ≤ b.High.Y ∧ b.High.Y ≤ m)
theorem grow_in {m : Int} {b : Box} {p : Place} (h : InB m b) (hx : -m ≤ p.X ∧ p.X ≤ m) (hy : -m ≤ p.Y ∧ p.Y ≤ m) : InB m (grow b p) := by
  obtain ⟨h1, h2, h3, h4⟩ := h
  unfold InB grow
  simp only [mn_eq, mx_eq]
  refine ⟨?_, ?_, ?_, ?_⟩ <;> split <;> omega
/-! ### Lists of places: copied, compared -/
end Ev

namespace Ev
open Go
/-! ### Names -/
def chOK (i : Nat) (c : UInt8) : Bool := wi (c.toNat : Int) 97 122 || (!decide (i = 0) && wi (c.toNat : Int) 48 57)
def nm : Nat → Str → Bool
  | _, [] => true
  | i, c :: r => chOK i c && nm (i + 1) r
def isNm (s : Str) : Bool := nm 0 s && wi (Int.ofNat s.length) 1 8
theorem drop_cons' {α : Type} (s : List α) (i : Nat) (h : i < s.length) : s.drop i = s[i] :: s.drop (i + 1) := by
  rw [List.drop_eq_getElem_cons h]
end Ev

namespace Ev
open Go
def NamesOK (l : List Cue) : Prop := ∀ c ∈ l, c.Name.length ≤ 1048576
def isCue (c : Cue) : Bool := wi c.Tick 0 64 && (isNm c.Name && (wi c.Level 0 32 && wi c.Ramp 0 16))
def cmpS (a b : Str) : Int := if Op.bytesLess a b = true then -1 else if a = b then 0 else 1
def cmpC (p q : Cue) : Int := if cmpI p.Tick q.Tick = 0 then cmpS p.Name q.Name else cmpI p.Tick q.Tick
theorem rdL_congr {R α : Type} {l : List α} {i : Int} {K K' : α → Option R} (h : ∀ x ∈ l, K x = K' x) : rdL l i K = rdL l i K' := by
  unfold rdL
  split
  · cases hx : l[i.toNat]? with
    | none => rfl
    | some x => exact h x (List.mem_of_getElem? hx)
  · rfl
/-! ### Ramps and levels -/
theorem bind_id (o : Option (Int × Unit)) : (o.bind fun x => some (x.1, ())) = o := by
  cases o <;> rfl
/-! ### Tracks of a name -/
theorem range_app (f : Nat → Int) (j : Nat) : (List.range j).map f ++ [f j] = (List.range (j + 1)).map f := by
  rw [List.range_succ, List.map_append]; rfl
end Ev

namespace Ev
open Go
/-! ### Devices -/
def devJ (d : Device) : Jet := ⟨⟨d.At.X, d.At.Y⟩, d.Heading, d.Tilt, 1⟩
def DevsOK (l : List Device) : Prop := ∀ d ∈ l, d.Name.length ≤ 1048576 ∧ d.Line.length ≤ 1048576
theorem less_total : ∀ (a b : Str), (!Op.bytesLess b a) = (Op.bytesLess a b || decide (a = b))
  | [], [] => rfl
  | [], y :: b => by simp [Op.bytesLess]
  | x :: a, [] => by simp [Op.bytesLess]
  | x :: a, y :: b => by
    have ih := less_total a b
    simp only [Op.bytesLess]
    rcases Nat.lt_trichotomy x.toNat y.toNat with h | h | h
    · replace h := UInt8.lt_iff_toNat_lt.mpr h
      have h1 : ¬ y < x := UInt8.lt_asymm h
      have h2 : ¬ y = x := fun e => by subst e; exact UInt8.lt_irrefl _ h
      have h3 : ¬ x = y := fun e => h2 e.symm
      simp [h, h1, h2, h3]
    · replace h := UInt8.toNat_inj.mp h
      subst h
      have h1 : ¬ x < x := UInt8.lt_irrefl _
      simp [h1, ih]
    · replace h := UInt8.lt_iff_toNat_lt.mpr h
      have h1 : ¬ x < y := UInt8.lt_asymm h
      have h2 : ¬ y = x := fun e => by subst e; exact UInt8.lt_irrefl _ h
      have h3 : ¬ x = y := fun e => h2 e.symm
      simp [h, h1, h2, h3]
/-! ### Rigs -/
/-! ### Winds -/
/-! ### Shows -/
abbrev ShowT := List Device × List Cue × List Gust × Int × Unit
structure ShowOK (s : ShowT) : Prop where
  rig : s.1.length ≤ 1048576
  devs : DevsOK s.1
  score : s.2.1.length ≤ 1048576
  names : NamesOK s.2.1
  wind : s.2.2.1.length ≤ 1048576
/-! ### Sizes, copies, comparisons -/
def ShowWf (s : ShowT) : Prop := ((∀ d ∈ s.1, Wf .device d) ∧ s.1.length ≤ maxLen) ∧ ((∀ c ∈ s.2.1, Wf .cue c) ∧ s.2.1.length ≤ maxLen) ∧ ((∀ g ∈ s.2.2.1, Wf .gust g) ∧ s.2.2.1.length ≤ maxLen)
theorem open_show {w : World} {ca : Array Value} (h : KList w [.sl .device, .sl .cue, .sl .gust, .int .i64] ca.toList) :
    ∃ x : ShowT, RelA (fun _ => none) (fun b => b < w.heap.size) w (.agg [.lst .device x.1, .lst .cue x.2.1, .lst .gust x.2.2.1, .int .i64 x.2.2.2.1]) (.agg ca) ∧ ShowWf x := by
  obtain ⟨c0, r0, e0, ⟨l0, a0, b0, m0⟩, h1⟩ := klist_cons h
  obtain ⟨c1, r1, e1, ⟨l1, a1, b1, m1⟩, h2⟩ := klist_cons h1
  obtain ⟨c2, r2, e2, ⟨l2, a2, b2, m2⟩, h3⟩ := klist_cons h2
  obtain ⟨c3, r3, e3, ⟨n, a3, b3⟩, h4⟩ := klist_cons h3
  have e4 := klist_nil h4
  refine ⟨(l0, l1, l2, n, ()), relA_list ?_, ⟨b0, m0⟩, ⟨b1, m1⟩, ⟨b2, m2⟩⟩
  rw [e0, e1, e2, e3, e4]
  exact ⟨a0, a1, a2, a3, trivial⟩
end Ev
