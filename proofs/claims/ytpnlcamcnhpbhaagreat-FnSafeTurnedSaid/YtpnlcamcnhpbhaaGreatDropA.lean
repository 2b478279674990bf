/- Where the drops of a show are. The drops in the air at a tick, and all that land. Boxes, and the limit of a lift. Which drops land outside of a basin, and the least basin. -/
import Derived.Test.YtpnlcamcnhpbhaaGreatBaseB
set_option linter.unusedVariables false
set_option linter.unusedSimpArgs false
set_option maxRecDepth 100000
namespace Ev
open Go
/-! ### Drifts -/
def drF (t : Int) (p : Place) (g : Gust) : Place := if g.From ≤ t then g.Drift else p
def drL (w : List Gust) (t : Int) : Place := w.foldl (drF t) ⟨0, 0⟩
def plus (p q : Place) : Place := ⟨w64 (p.X + q.X), w64 (p.Y + q.Y)⟩
def drSum (w : List Gust) (a : Int) : Nat → Place
  | 0 => ⟨0, 0⟩
  | n + 1 => plus (drSum w a n) (drL w (a + (n : Int)))
theorem add_is (p q : Place) : G111 (p, q, ()) = some (plus p q, ()) := rfl
/-! ### Places on the way -/
def placeN (j : Jet) (t : Int) : Place := ⟨w64 (j.At.X + (rotN j.Heading.toNat ⟨w64 (t * j.Tilt), 0⟩).X), w64 (j.At.Y + (rotN j.Heading.toNat ⟨w64 (t * j.Tilt), 0⟩).Y)⟩
theorem jumpN {j : Jet} (J : JetOK j) {t : Int} (h0 : 0 ≤ t) (h1 : t ≤ 33) : w64 (t * j.Tilt) = t * j.Tilt ∧ 0 ≤ t * j.Tilt ∧ t * j.Tilt ≤ 528 := by
  have ht := J.t
  have a : 0 ≤ t * j.Tilt := Int.mul_nonneg h0 ht.1
  have b : t * j.Tilt ≤ 33 * 16 := Int.mul_le_mul h1 ht.2 ht.1 (by omega)
  exact ⟨w64_id (by omega) (by omega), a, by omega⟩
theorem placeN_bound {j : Jet} (J : JetOK j) {t : Int} (h0 : 0 ≤ t) (h1 : t ≤ 33) : (-1552 ≤ (placeN j t).X ∧ (placeN j t).X ≤ 1552 ∧ -1552 ≤ (placeN j t).Y ∧ (placeN j t).Y ≤ 1552) ∧ (placeN j t).X = j.At.X + (rotN j.Heading.toNat ⟨t * j.Tilt, 0⟩).X ∧ (placeN j t).Y = j.At.Y + (rotN j.Heading.toNat ⟨t * j.Tilt, 0⟩).Y := by
  obtain ⟨e, h2, h3⟩ := jumpN J h0 h1
  have hh := J.h; have hx := J.x; have hy := J.y
  obtain ⟨b1, b2, b3, b4⟩ := rot_bound (t * j.Tilt) 528 h2 h3 (by omega) j.Heading.toNat (by omega)
  unfold placeN
  rw [e]
  simp only
  rw [w64_id (by omega) (by omega), w64_id (by omega) (by omega)]
  omega
theorem l3_is {j : Jet} (J : JetOK j) (t : Int) : G138 (j, t, ()) = some (placeN j t, ()) := by
  unfold G138 F138
  have hk : j.Heading.toNat < 4 := by have := J.h; omega
  have hh : (j.Heading.toNat : Int) = j.Heading := by have := J.h; omega
  have := turnS ⟨w64 (t * j.Tilt), 0⟩ j.Heading.toNat hk
  rw [hh] at this
  have this : G177 (⟨w64 (t * j.Tilt), 0⟩, j.Heading, ()) = _ := this
  simp only [this, Option.bind_some, add_is]
  rfl
theorem placeAtI_is {j : Jet} (h : isJet j = true) {t : Int} (h0 : 0 ≤ t) (h1 : t ≤ fl j) : G82 (j, t, ()) = some (placeN j t, true, ()) := by
  unfold G82 F82 G130 F130
  have J := jet_ok h
  have hl := J.l; have hx := J.x; have hy := J.y
  have hf : fl j = j.Lift + 1 := by unfold fl; rw [if_pos h]
  have hjI : G129 (j, ()) = some (isJet j, ()) := jetI j
  have hfI : G81 (j, ()) = some (fl j, ()) := flI j
  have hwI : ∀ a b c : Int, G42 (a, b, c, ()) = some (wi a b c, ()) := within_is
  simp only [hjI, h, Option.bind_some, cond_true, hfI, hwI, wi_of h0 h1, Bool.not_true, cond_false]
  obtain ⟨e, h2, h3⟩ := jumpN J h0 (by omega)
  obtain ⟨lb, lx, ly⟩ := placeN_bound J h0 (show t ≤ 33 by omega)
  unfold G131 F131
  have hk : j.Heading.toNat < 4 := by have := J.h; omega
  have hh : (j.Heading.toNat : Int) = j.Heading := by have := J.h; omega
  have ht := turnI ⟨w64 (t * j.Tilt), 0⟩ j.Heading.toNat hk
  rw [hh] at ht
  have ht : G44 (⟨w64 (t * j.Tilt), 0⟩, j.Heading, ()) = _ := ht
  have p1 : isPl j.At = true := by unfold isPl; rw [wi_of (by omega) (by omega), wi_of (by omega) (by omega)]; rfl
  have p2 : wi j.Heading 0 3 = true := wi_of J.h.1 J.h.2
  have p3 : wi (w64 (t * j.Tilt)) (-4096) 4096 = true := by rw [e]; exact wi_of (by omega) (by omega)
  have p4 : isPl (placeN j t) = true := by unfold isPl; rw [wi_of (by omega) (by omega), wi_of (by omega) (by omega)]; rfl
  have p5 : G172 (placeN j t, ()) = some (placeN j t, true, ()) := by
    have hp : G43 (placeN j t, ()) = some (isPl (placeN j t), ()) := placeI _
    unfold G172 F172
    simp only [hp, p4, Option.bind_some]
    rfl
  have q1 : G43 (j.At, ()) = some (isPl j.At, ()) := placeI _
  have q2 : G126 (j.Heading, ()) = some (wi j.Heading 0 3, ()) := headI _
  have q3 : G90 (w64 (t * j.Tilt), ()) = some (wi (w64 (t * j.Tilt)) (-4096) 4096, ()) := measI _
  simp only [q1, q2, q3, p1, p2, p3, ht, Option.bind_some, Bool.not_true, Bool.not_false, cond_true, cond_false]
  have p6 : (⟨w64 (j.At.X + (rotN j.Heading.toNat ⟨w64 (t * j.Tilt), 0⟩).X), w64 (j.At.Y + (rotN j.Heading.toNat ⟨w64 (t * j.Tilt), 0⟩).Y)⟩ : Place) = placeN j t := rfl
  rw [p6, p5]
  rfl
/-! ### Drops -/
def dropV (w : List Gust) (x : Throw) (n : Nat) : Drop := ⟨x.name, x.born, plus (placeN x.jet (n : Int)) (drSum w x.born n), ht x.jet (n : Int)⟩
structure FliesP (x : Throw) : Prop where
  born : 0 ≤ x.born ∧ x.born < 64
  jet : isJet x.jet = true
theorem throws_fly {s : ShowT} (h : ShowV s) {x : Throw} (hx : x ∈ throwsL s) : FliesP x := by
  have := throws_mem h hx
  have ht := h.tick
  exact ⟨⟨this.born.1, by have := this.born.2; omega⟩, this.jet⟩
end Ev

namespace Ev
open Go
def nowF (w : List Gust) (t : Int) (a : List Drop) (x : Throw) : List Drop := if x.born ≤ t ∧ t < x.born + fl x.jet then a ++ [dropV w x (t - x.born).toNat] else a
theorem now_len (w : List Gust) (t : Int) : ∀ (l : List Throw) (a : List Drop), (l.foldl (nowF w t) a).length ≤ a.length + l.length
  | [], a => by simp
  | d :: l, a => by
    have := now_len w t l (nowF w t a d)
    have h1 : (nowF w t a d).length ≤ a.length + 1 := by unfold nowF; split <;> simp
    simp only [List.foldl_cons, List.length_cons]
    omega
noncomputable def nowL (s : ShowT) (t : Int) : List Drop := (throwsL s).foldl (nowF s.2.2.1 t) []
def allF (w : List Gust) (a : List Drop) (x : Throw) : List Drop := a ++ [dropV w x (fl x.jet).toNat]
noncomputable def landL (s : ShowT) : List Drop := (throwsL s).foldl (allF s.2.2.1) []
theorem all_len (w : List Gust) : ∀ (l : List Throw) (a : List Drop), (l.foldl (allF w) a).length = a.length + l.length
  | [], a => by simp
  | d :: l, a => by
    have := all_len w l (allF w a d)
    simp only [List.foldl_cons, List.length_cons, this]
    unfold allF; simp; omega
theorem fly_lands {x : Throw} (h : FliesP x) : w64 (x.born + fl x.jet) = x.born + fl x.jet := by
  have := h.born; have := fl_bound x.jet
  exact w64_id (by omega) (by omega)
section
variable {s : ShowT} (h : ShowV s)
include h
theorem nowL_len (t : Int) : (nowL s t).length ≤ 512 := by
  have := now_len s.2.2.1 t (throwsL s) []
  have := throwsL_len h
  unfold nowL
  simp at *; omega
omit h in
theorem landL_len : (landL s).length = (throwsL s).length := by
  unfold landL
  rw [all_len]; simp
theorem wind_v : wdB s.2.2.1 = true ∧ s.2.2.1.length ≤ 1048576 := ⟨h.wind, h.ok.wind⟩
end
end Ev

namespace Ev
open Go
/-! ### Boxes -/
def isBx (b : Box) : Bool := isPl b.Low && (isPl b.High && (decide (b.Low.X ≤ b.High.X) && decide (b.Low.Y ≤ b.High.Y)))
noncomputable abbrev gBxS := F55 gPlS
noncomputable abbrev gBx := F17 gPl
theorem bxS (b : Box) : gBxS (b, ()) = some (isBx b, ()) := by
  unfold gBxS F55 isBx
  simp only [placeS, Option.bind_some]
  cases isPl b.Low <;> cases isPl b.High <;> cases decide (b.Low.X ≤ b.High.X) <;> rfl
theorem bxI (b : Box) : gBx (b, ()) = some (isBx b, ()) := by
  unfold gBx F17 isBx
  simp only [placeI, Option.bind_some]
  cases isPl b.Low <;> cases isPl b.High <;> cases decide (b.Low.X ≤ b.High.X) <;> rfl
def inBx (b : Box) (p : Place) : Bool := isBx b && (wi p.X b.Low.X b.High.X && wi p.Y b.Low.Y b.High.Y)
noncomputable abbrev gInI := F20 gBx gW
theorem inI (b : Box) (p : Place) : gInI (b, p, ()) = some (inBx b p, ()) := by
  unfold gInI F20 inBx
  simp only [bxI, within_is, Option.bind_some]
  cases isBx b <;> cases wi p.X b.Low.X b.High.X <;> rfl
def isIn (b c : Box) : Bool := inBx c b.Low && inBx c b.High
noncomputable abbrev gWt := F67 gInI
theorem wtI (b c : Box) : gWt (b, c, ()) = some (isIn b c, ()) := by
  unfold gWt F67 isIn
  simp only [inI, Option.bind_some]
  cases inBx c b.Low <;> rfl
theorem isIn_bx {b c : Box} (h : isBx c = false) : isIn b c = false := by
  unfold isIn inBx; rw [h]; rfl
/-! ### The limit -/
/-- Whether a drop of a device, thrown with a lift, lands in a basin with each wind of a rose. -/
noncomputable def lbB (d : Device) (r : List Place) (c : Box) (x : Int) : Bool := match gLB ((⟨⟨d.At.X, d.At.Y⟩, d.Heading, d.Tilt, x⟩ : Jet), r, ()) with
  | some (B, b, _) => b && isIn B c
  | none => false
/-- What a limit is. -/
structure LimP (d : Device) (r : List Place) (c : Box) (v : Int) : Prop where
  range : 0 ≤ v ∧ v ≤ d.Most
  below : ∀ x : Int, 1 ≤ x → x ≤ v → lbB d r c x = true
  next : v < d.Most → lbB d r c (v + 1) = false
end Ev

namespace Ev
open Go
theorem inI_is (b : Box) (p : Place) : G20 (b, p, ()) = some (inBx b p, ()) := inI b p
theorem boxS_is (b : Box) : G55 (b, ()) = some (isBx b, ()) := bxS b
theorem boxI_is (b : Box) : G17 (b, ()) = some (isBx b, ()) := bxI b
theorem inBx_no {c : Box} (h : isBx c = false) (p : Place) : inBx c p = false := by unfold inBx; rw [h]; rfl
def wetF (c : Box) (a : List Drop) (x : Drop) : List Drop := if inBx c x.At = true then a else a ++ [x]
def wetL (c : Box) (L : List Drop) : List Drop := if isBx c = true then L.foldl (wetF c) [] else []
theorem wet_len (c : Box) : ∀ (l a : List Drop), (l.foldl (wetF c) a).length ≤ a.length + l.length
  | [], a => by simp
  | d :: l, a => by
    have := wet_len c l (wetF c a d)
    have h1 : (wetF c a d).length ≤ a.length + 1 := by unfold wetF; split <;> simp
    simp only [List.foldl_cons, List.length_cons]
    omega
theorem wetL_len (c : Box) (L : List Drop) : (wetL c L).length ≤ L.length := by
  unfold wetL
  split
  · have := wet_len c L []; simpa using this
  · simp
theorem wet_nil (c : Box) : ∀ (L a : List Drop), (L.foldl (wetF c) a).length = 0 ↔ a = [] ∧ L.all (fun x => inBx c x.At) = true
  | [], a => by simp
  | x :: L, a => by
    rw [List.foldl_cons, wet_nil c L]
    unfold wetF
    cases hx : inBx c x.At <;> simp [hx]
def dryB (c : Box) (L : List Drop) : Bool := L.all fun x => inBx c x.At
/-! ### The least basin -/
theorem roseI_is (r : List Place) (hr : r.length ≤ 1048576) : ∃ b, G57 (r, ()) = some (b, ()) ∧ G60 (r, ()) = some (b, ()) ∧ (b = true → 1 ≤ r.length ∧ r.length ≤ 4 ∧ ∀ p ∈ r, isDr p = true) := by
  obtain ⟨b, h1, h2⟩ := rose_ok r hr
  have h1 : G57 (r, ()) = some (b, ()) := h1
  refine ⟨b, h1, ?_, h2⟩
  have e : G60 = G57 := rose_same
  rw [e]; exact h1
noncomputable def lbx (j : Jet) (r : List Place) : Box := ((G58 (j, r, ())).map fun x => x.1).getD ⟨⟨0, 0⟩, ⟨0, 0⟩⟩
noncomputable def lbb (j : Jet) (r : List Place) : Bool := ((G58 (j, r, ())).map fun x => x.2.1).getD false
theorem lbI_is (j : Jet) (r : List Place) (hr : r.length ≤ 1048576) : G58 (j, r, ()) = some (lbx j r, lbb j r, ()) := by
  obtain ⟨B, b, h1, h2⟩ := landBox_ok j r hr
  have h2 : G58 (j, r, ()) = some (B, b, ()) := h2
  unfold lbx lbb; rw [h2]; rfl
theorem lbS_is (j : Jet) (r : List Place) (hr : r.length ≤ 1048576) : G62 (j, r, ()) = some (lbx j r, lbb j r, ()) := by
  obtain ⟨B, b, h1, h2⟩ := landBox_ok j r hr
  have h1 : G62 (j, r, ()) = some (B, b, ()) := h1
  have h2 : G58 (j, r, ()) = some (B, b, ()) := h2
  unfold lbx lbb; rw [h1, h2]; rfl
noncomputable def cornF (r : List Place) (a : List Place) (x : Throw) : List Place := a ++ [(lbx x.jet r).Low, (lbx x.jet r).High]
theorem corn_len (r : List Place) : ∀ (l : List Throw) (a : List Place), (l.foldl (cornF r) a).length = a.length + 2 * l.length
  | [], a => by simp
  | d :: l, a => by
    simp only [List.foldl_cons, List.length_cons, corn_len r l]
    unfold cornF; simp; omega
noncomputable def cornL (s : ShowT) (r : List Place) : List Place := (throwsL s).foldl (cornF r) []
theorem boxOf_both (l : List Place) (hl : l.length ≤ 1048576) : ∃ B b, G46 (l, ()) = some (B, b, ()) ∧ G59 (l, ()) = some (B, b, ()) := by
  obtain ⟨B, b, h1, h2, _⟩ := boxOf_ok l hl 0
  exact ⟨B, b, h1, h2⟩
theorem boxOf_nil : G59 (([] : List Place), ()) = some (⟨⟨0, 0⟩, ⟨0, 0⟩⟩, false, ()) := by rfl
theorem cornS_loop (r : List Place) (hr : r.length ≤ 1048576) (l : List Throw) (hl : l.length ≤ 1024) (K : List Place × Box × List Place × List Throw × Int × Int × Unit → Option (Box × Bool × Unit)) :
    iterF (s24_0 G16 G60 G61 G62 G46) fuel (r, ⟨⟨0, 0⟩, ⟨0, 0⟩⟩, [], l, Int.ofNat l.length, 0, ()) K = K (r, ⟨⟨0, 0⟩, ⟨0, 0⟩⟩, l.foldl (cornF r) [], l, Int.ofNat l.length, Int.ofNat l.length, ()) := by
  refine (iterF_for (f := s24_0 G16 G60 G61 G62 G46) (K := K) (fun i => (r, ⟨⟨0, 0⟩, ⟨0, 0⟩⟩, (l.take i).foldl (cornF r) [], l, Int.ofNat l.length, (i : Int), ())) l.length (by omega) ?_ ?_).trans (by simp)
  · intro i hi rec K
    have hx : l[i]? = some l[i] := by simp
    have e1 : w64 ((i : Int) + 1) = ((i + 1 : Nat) : Int) := w64_id (by omega) (by omega)
    have hn := corn_len r (l.take i) []
    rw [fold_take _ _ l i hi]
    generalize (l.take i).foldl (cornF r) [] = acc at hn ⊢
    unfold cornF
    simp only [s24_0]
    have hx' := fun (K : Throw → Option (Box × Bool × Unit)) => rdL_at (K := K) hx
    rw [cond_true_dec (by simp; omega)]
    simp only [hx', hx, Int.toNat_natCast, e1, lbS_is _ r hr, Option.bind_some]
    rw [capK_le (by simp at hn ⊢; omega)]
  · intro rec K
    simp only [s24_0]
    rw [cond_false_dec (by simp)]
theorem cornI_loop (r : List Place) (hr : r.length ≤ 1048576) (l : List Throw) (hl : l.length ≤ 1024) (K : List Place × Box × List Place × List Throw × Int × Int × Unit → Option (Box × Bool × Unit)) :
    iterF (s23_0 G57 G36 G58 G59) fuel (r, ⟨⟨0, 0⟩, ⟨0, 0⟩⟩, [], l, Int.ofNat l.length, 0, ()) K = K (r, ⟨⟨0, 0⟩, ⟨0, 0⟩⟩, l.foldl (cornF r) [], l, Int.ofNat l.length, Int.ofNat l.length, ()) := by
  refine (iterF_for (f := s23_0 G57 G36 G58 G59) (K := K) (fun i => (r, ⟨⟨0, 0⟩, ⟨0, 0⟩⟩, (l.take i).foldl (cornF r) [], l, Int.ofNat l.length, (i : Int), ())) l.length (by omega) ?_ ?_).trans (by simp)
  · intro i hi rec K
    have hx : l[i]? = some l[i] := by simp
    have e1 : w64 ((i : Int) + 1) = ((i + 1 : Nat) : Int) := w64_id (by omega) (by omega)
    have hn := corn_len r (l.take i) []
    rw [fold_take _ _ l i hi]
    generalize (l.take i).foldl (cornF r) [] = acc at hn ⊢
    unfold cornF
    simp only [s23_0]
    have hx' := fun (K : Throw → Option (Box × Bool × Unit)) => rdL_at (K := K) hx
    rw [cond_true_dec (by simp; omega)]
    simp only [hx', hx, Int.toNat_natCast, e1, lbI_is _ r hr, Option.bind_some]
    rw [capK_le (by simp at hn ⊢; omega)]
  · intro rec K
    simp only [s23_0]
    rw [cond_false_dec (by simp)]
theorem least_ok (s : ShowT) (h : ShowOK s) (r : List Place) (hr : r.length ≤ 1048576) : ∃ B b, G24 (s, r, ()) = some (B, b, ()) ∧ G23 (s, r, ()) = some (B, b, ()) := by
  obtain ⟨b, r1, r2, _⟩ := roseI_is r hr
  unfold G24 F24 G23 F23
  simp only [es_show]
  rw [showS_is s h, r1]
  simp only [Option.bind_some]
  cases hb : showB s
  · cases b
    · exact ⟨_, _, rfl, rfl⟩
    · refine ⟨_, _, rfl, ?_⟩
      simp only [Bool.not_true, cond_false]
      rw [throwsI_none h hb]
      simp only [Option.bind_some]
      have := cornI_loop r hr [] (by simp) (fun t5 => (G59 (t5.2.2.1, ())).bind fun x6 => some (x6.1, x6.2.1, ()))
      exact this.trans (by rw [show ([] : List Throw).foldl (cornF r) [] = [] from rfl, boxOf_nil]; rfl)
  · have hv := showV_of h hb
    have hl := throwsL_len hv
    simp only [Bool.not_true, cond_false, r2, Option.bind_some]
    cases b
    · exact ⟨_, _, rfl, rfl⟩
    · simp only [Bool.not_true, Bool.not_false, cond_true, cond_false]
      rw [allS_is hv, allI_is hv]
      simp only [Option.bind_some]
      rw [cornS_loop r hr _ (by omega), cornI_loop r hr _ (by omega)]
      obtain ⟨B, b, q1, q2⟩ := boxOf_both ((throwsL s).foldl (cornF r) []) (by rw [corn_len]; simp; omega)
      refine ⟨B, b, ?_, ?_⟩
      · simp only [q1]; rfl
      · simp only [q2]; rfl
theorem within_isI (b c : Box) : G67 (b, c, ()) = some (isIn b c, ()) := wtI b c
end Ev
