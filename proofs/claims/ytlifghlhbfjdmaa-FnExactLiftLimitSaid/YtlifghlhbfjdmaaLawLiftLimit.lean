/- The program's LiftLimit returns what the reference's returns, for all arguments: on no condition. -/
import Derived.Test.YtlifghlhbfjdmaaRows
import Derived.Test.YtlifghlhbfjdmaaPlace
import Derived.Test.YtlifghlhbfjdmaaOpen
import Derived.Test.YtlifghlhbfjdmaaRow
import Derived.WalkKit
import Derived.ProofKit
import Derived.OpenShut
import Derived.ShutString
import Derived.ChangeOld
import Derived.Below
import Derived.SizedLaws
set_option linter.unusedVariables false
set_option linter.unusedSimpArgs false
set_option maxRecDepth 100000
namespace Ev
open Go
theorem okLB : OK Proofs.Try.prog 38 (mkE p38 r38 false gLB) ∧ OK Proofs.Try.prog 35 (mkE p35 r35 false gLBS) :=
  have kHead := ok169 ok72
  have kJet := ok114 ok72 kHead
  have kFl := ok95 kJet
  have kMeas := ok144 ok72
  have kPl := ok115 kMeas
  have kStep := ok188 kPl kHead kMeas (ok197 ok203) (ok198 kPl)
  have kLand := ok93 kFl (ok150 (ok187 kJet kFl ok72) kStep)
  have kRose := ok58 (ok121 ok72) (ok122 (ok172 ok192) ok171) ok72
  have kRB := ok94 kRose ok72 (ok151 kPl)
  have sJet := ok149 ok119 ok186
  have sFl := ok90 sJet
  have sLand := ok88 sFl (ok146 sJet sFl (ok183 (ok196 ok202) ok91))
  have sRB := ok89 (ok147 (ok120 ok170) ok184 ok79) (ok148 (ok175 ok119) ok185)
  ⟨ok38 kLand kFl kRB, ok35 sLand sFl sRB ok91⟩
/-! ### Names -/
def chOK (i : Nat) (c : UInt8) : Bool := wi (c.toNat : Int) 97 122 || (!decide (i = 0) && wi (c.toNat : Int) 48 57)
def nm : Nat → Str → Bool
  | _, [] => true
  | i, c :: r => chOK i c && nm (i + 1) r
def isNm (s : Str) : Bool := nm 0 s && wi (Int.ofNat s.length) 1 8
theorem drop_cons' {α : Type} (s : List α) (i : Nat) (h : i < s.length) : s.drop i = s[i] :: s.drop (i + 1) := by
  rw [List.drop_eq_getElem_cons h]
theorem nameS_round (s : Str) (hs : s.length ≤ 1048576) (i : Nat) (hi : i < s.length) (rec K) : s116_0 (s, (i : Int), ()) rec K = cond (chOK i s[i]) (rec (s, ((i + 1 : Nat) : Int), ())) (some (false, ())) := by
  have hx : s[i]? = some s[i] := by simp
  have hx' := fun (K : UInt8 → Option (Bool × Unit)) => rdL_at (K := K) hx
  have d0 : (i : Int) < Int.ofNat s.length := by simp; omega
  have ew : w64 ((i : Int) + 1) = ((i + 1 : Nat) : Int) := w64_id (by omega) (by omega)
  simp only [s116_0, d0, decide_true, cond_true, hx', ew]
  unfold chOK wi
  have hc : (Int.ofNat s[i].toNat) = (s[i].toNat : Int) := rfl
  simp only [hc]
  generalize (s[i].toNat : Int) = c
  by_cases c1 : c ≥ 97 <;> by_cases c2 : c ≤ 122 <;> by_cases c3 : c ≥ 48 <;> by_cases c4 : c ≤ 57 <;> by_cases h0 : i = 0 <;>
    (have c1' := c1; have c3' := c3; rw [ge_iff_le] at c1' c3'; have h0' : ((i : Int) = 0) = (i = 0) := by simp
     simp only [c1, c2, c3, c4, c1', c3', h0, h0', decide_true, decide_false, Bool.not_true, Bool.not_false, cond_true, cond_false, Bool.true_and, Bool.false_and, Bool.and_true, Bool.and_false, Bool.or_true, Bool.or_false, Bool.true_or, Bool.false_or] <;> first | rfl | omega)
noncomputable abbrev gNmS := F116
noncomputable abbrev gNm := F112 gW
theorem nameI_round (s : Str) (hs : s.length ≤ 1048576) (i : Nat) (hi : i < s.length) (rec K) : s112_0 gW (s, Int.ofNat s.length, (i : Int), ()) rec K = cond (chOK i s[i]) (rec (s, Int.ofNat s.length, ((i + 1 : Nat) : Int), ())) (some (false, ())) := by
  have hx : s[i]? = some s[i] := by simp
  have hx' := fun (K : UInt8 → Option (Bool × Unit)) => rdL_at (K := K) hx
  have d0 : (i : Int) < Int.ofNat s.length := by simp; omega
  have ew : w64 ((i : Int) + 1) = ((i + 1 : Nat) : Int) := w64_id (by omega) (by omega)
  simp only [s112_0, d0, decide_true, cond_true, hx', ew]
  unfold chOK wi
  have hc : (Int.ofNat s[i].toNat) = (s[i].toNat : Int) := rfl
  simp only [hc]
  generalize (s[i].toNat : Int) = c
  by_cases c1 : c ≥ 97 <;> by_cases c2 : c ≤ 122 <;> by_cases c3 : c ≥ 48 <;> by_cases c4 : c ≤ 57 <;> by_cases h0 : i = 0 <;>
    (have c1' := c1; have c3' := c3; rw [ge_iff_le] at c1' c3'; have h0' : ((i : Int) = 0) = (i = 0) := by simp
     have c5 : (c < 48) = ¬ (48 ≤ c) := by simp
     have c6 : (c > 57) = ¬ (c ≤ 57) := by simp
     simp only [c1, c2, c3, c4, c5, c6, c1', c3', h0, h0', not_true_eq_false, not_false_eq_true, decide_true, decide_false, Bool.not_true, Bool.not_false, cond_true, cond_false, Bool.true_and, Bool.false_and, Bool.and_true, Bool.and_false, Bool.or_true, Bool.or_false, Bool.true_or, Bool.false_or] <;> first | rfl | omega)
theorem nameS (s : Str) (hs : s.length ≤ 1048576) : gNmS (s, ()) = some (isNm s, ()) := by
  have key : ∀ (d i n : Nat), i + d = s.length → d < n → iterF s116_0 n (s, (i : Int), ()) (fun t8 => cond (decide ((Int.ofNat (List.length t8.1)) > 0)) (some ((decide ((Int.ofNat (List.length t8.1)) ≤ 8)), ())) (some (false, ()))) = some (nm i (s.drop i) && wi (Int.ofNat s.length) 1 8, ()) := by
    intro d
    induction d with
    | zero =>
      intro i n hd hn
      obtain ⟨n, rfl⟩ : ∃ k, n = k + 1 := ⟨n - 1, by omega⟩
      rw [iterF_succ]; simp only [s116_0]
      rw [cond_false_dec (by simp; omega), List.drop_eq_nil_of_le (by omega)]
      unfold wi
      by_cases h : Int.ofNat s.length > 0
      · rw [cond_true_dec h, decide_eq_true (by omega : 1 ≤ Int.ofNat s.length)]; rfl
      · rw [cond_false_dec h, decide_eq_false (by omega : ¬ 1 ≤ Int.ofNat s.length)]; rfl
    | succ d ih =>
      intro i n hd hn
      obtain ⟨n, rfl⟩ : ∃ k, n = k + 1 := ⟨n - 1, by omega⟩
      have hi : i < s.length := by omega
      rw [iterF_succ, nameS_round s hs i hi, drop_cons' s i hi]
      simp only [nm]
      cases hc : chOK i s[i]
      · rfl
      · rw [cond_true, ih (i + 1) n (by omega) (by omega)]; rfl
  exact key s.length 0 fuel (by omega) (by rw [fuel_eq]; omega)
theorem nameI (s : Str) (hs : s.length ≤ 1048576) : gNm (s, ()) = some (isNm s, ()) := by
  have key : ∀ (d i n : Nat), i + d = s.length → d < n → iterF (s112_0 gW) n (s, Int.ofNat s.length, (i : Int), ()) (fun t8 => (gW ((Int.ofNat (List.length t8.1)), 1, 8, ())).bind fun x9 => some (x9.1, ())) = some (nm i (s.drop i) && wi (Int.ofNat s.length) 1 8, ()) := by
    intro d
    induction d with
    | zero =>
      intro i n hd hn
      obtain ⟨n, rfl⟩ : ∃ k, n = k + 1 := ⟨n - 1, by omega⟩
      rw [iterF_succ]; simp only [s112_0]
      rw [cond_false_dec (by simp; omega), List.drop_eq_nil_of_le (by omega), within_is]
      rfl
    | succ d ih =>
      intro i n hd hn
      obtain ⟨n, rfl⟩ : ∃ k, n = k + 1 := ⟨n - 1, by omega⟩
      have hi : i < s.length := by omega
      rw [iterF_succ, nameI_round s hs i hi, drop_cons' s i hi]
      simp only [nm]
      cases hc : chOK i s[i]
      · rfl
      · rw [cond_true, ih (i + 1) n (by omega) (by omega)]; rfl
  exact key s.length 0 fuel (by omega) (by rw [fuel_eq]; omega)
/-! ### Devices -/
noncomputable abbrev gDevS := F57 gNmS (F117 gIn) (F118 gJetS) gIn gPlS
noncomputable abbrev gDev := F56 gNm (F113 gW) gJet gW gPl
def devJ (d : Device) : Jet := ⟨⟨d.At.X, d.At.Y⟩, d.Heading, d.Tilt, 1⟩
theorem supS (x : Int) : F117 gIn (x, ()) = some (wi x 0 512, ()) := by
  unfold F117; simp only [in_is, Option.bind_some]
theorem supI (x : Int) : F113 gW (x, ()) = some (wi x 0 512, ()) := by
  unfold F113; simp only [within_is, Option.bind_some]
theorem djS (d : Device) : F118 gJetS (d, ()) = some (isJet (devJ d), ()) := by
  unfold F118; exact congrArg (fun o => Option.bind o fun x1 => some (x1.1, ())) (jetS (devJ d))
theorem dev_ok (d : Device) (h1 : d.Name.length ≤ 1048576) (h2 : d.Line.length ≤ 1048576) : ∃ b, gDevS (d, ()) = some (b, ()) ∧ gDev (d, ()) = some (b, ()) ∧ (b = true → d.Kind = 2 → 0 ≤ d.Most ∧ d.Most ≤ 32) := by
  have jI : gJet ((⟨⟨d.At.X, d.At.Y⟩, d.Heading, d.Tilt, 1⟩ : Jet), ()) = some (isJet (devJ d), ()) := jetI (devJ d)
  unfold gDevS F57 gDev F56
  simp only [nameS d.Name h1, nameS d.Line h2, nameI d.Name h1, nameI d.Line h2, supS, supI, djS, jI, in_is, within_is, placeS, placeI, Option.bind_some, decide_true, Bool.true_and, Bool.and_true]
  by_cases k1 : d.Kind = 1
  · have k2 : ¬ d.Kind = 2 := by omega
    simp only [k1, decide_true, cond_true]
    generalize (decide (d.Line = []) && (decide (d.At.X = 0) && (decide (d.At.Y = 0) && (decide (d.Heading = 0) && decide (d.Tilt = 0))))) = z
    cases isNm d.Name <;> cases isNm d.Line <;> cases wi d.Most 0 512 <;> cases z <;> exact ⟨_, rfl, rfl, fun _ h => by first | exact h.elim | omega⟩
  · by_cases k2 : d.Kind = 2
    · simp only [k2, decide_true, cond_true, show ¬ (2 : Int) = 1 by decide, decide_false, cond_false]
      cases hm : wi d.Most 0 32
      · cases isNm d.Name <;> cases isNm d.Line <;> cases decide (d.Line = d.Name) <;> cases isJet (devJ d) <;> exact ⟨_, rfl, rfl, fun h => by cases h⟩
      · have hm' := wi_true.1 hm
        cases isNm d.Name <;> cases isNm d.Line <;> cases decide (d.Line = d.Name) <;> cases isJet (devJ d) <;> exact ⟨_, rfl, rfl, fun _ _ => hm'⟩
    · by_cases k3 : d.Kind = 3
      · simp only [k3, decide_true, cond_true, show ¬ (3 : Int) = 1 by decide, show ¬ (3 : Int) = 2 by decide, decide_false, cond_false]
        generalize (decide (d.Heading = 0) && (decide (d.Tilt = 0) && decide (d.Most = 0))) = z
        cases isNm d.Name <;> cases isNm d.Line <;> cases decide (d.Line = d.Name) <;> cases isPl d.At <;> cases z <;> exact ⟨_, rfl, rfl, fun _ h => by first | exact h.elim | omega⟩
      · simp only [k1, k2, k3, decide_false, cond_false]
        cases isNm d.Name <;> cases isNm d.Line <;> exact ⟨_, rfl, rfl, fun _ h => by first | exact h.elim | exact absurd h k2⟩
/-! ### Boxes -/
def isBx (b : Box) : Bool := isPl b.Low && (isPl b.High && (decide (b.Low.X ≤ b.High.X) && decide (b.Low.Y ≤ b.High.Y)))
noncomputable abbrev gBxS := F123 gPlS
noncomputable abbrev gBx := F59 gPl
theorem bxS (b : Box) : gBxS (b, ()) = some (isBx b, ()) := by
  unfold gBxS F123 isBx
  simp only [placeS, Option.bind_some]
  cases isPl b.Low <;> cases isPl b.High <;> cases decide (b.Low.X ≤ b.High.X) <;> rfl
theorem bxI (b : Box) : gBx (b, ()) = some (isBx b, ()) := by
  unfold gBx F59 isBx
  simp only [placeI, Option.bind_some]
  cases isPl b.Low <;> cases isPl b.High <;> cases decide (b.Low.X ≤ b.High.X) <;> rfl
def inBx (b : Box) (p : Place) : Bool := isBx b && (wi p.X b.Low.X b.High.X && wi p.Y b.Low.Y b.High.Y)
noncomputable abbrev gInS := F173 gBxS
noncomputable abbrev gInI := F60 gBx gW
theorem inS (b : Box) (p : Place) : gInS (b, p, ()) = some (inBx b p, ()) := by
  unfold gInS F173 inBx wi
  simp only [bxS, Option.bind_some, ge_iff_le]
  cases isBx b <;> cases decide (b.Low.X ≤ p.X) <;> cases decide (p.X ≤ b.High.X) <;> cases decide (b.Low.Y ≤ p.Y) <;> rfl
theorem inI (b : Box) (p : Place) : gInI (b, p, ()) = some (inBx b p, ()) := by
  unfold gInI F60 inBx
  simp only [bxI, within_is, Option.bind_some]
  cases isBx b <;> cases wi p.X b.Low.X b.High.X <;> rfl
def isIn (b c : Box) : Bool := inBx c b.Low && inBx c b.High
noncomputable abbrev gWtS := F125 gInS
noncomputable abbrev gWt := F111 gInI
theorem wtS (b c : Box) : gWtS (b, c, ()) = some (isIn b c, ()) := by
  unfold gWtS F125 isIn
  simp only [inS, Option.bind_some]
  cases inBx c b.Low <;> rfl
theorem wtI (b c : Box) : gWt (b, c, ()) = some (isIn b c, ()) := by
  unfold gWt F111 isIn
  simp only [inI, Option.bind_some]
  cases inBx c b.Low <;> rfl
theorem isIn_bx {b c : Box} (h : isBx c = false) : isIn b c = false := by
  unfold isIn inBx; rw [h]; rfl
/-! ### The limit -/
noncomputable abbrev gLimS := F62 gDevS gBxS F124 gLBS gWtS
noncomputable abbrev gLim := F55 gDev gLB gWt
theorem lim_ok (d : Device) (r : List Place) (c : Box) (h1 : d.Name.length ≤ 1048576) (h2 : d.Line.length ≤ 1048576) (hr : r.length ≤ 1048576) : ∃ v, gLimS (d, r, c, ()) = some (v, ()) ∧ gLim (d, r, c, ()) = some (v, ()) := by
  obtain ⟨b, d1, d2, d3⟩ := dev_ok d h1 h2
  unfold gLimS F62 gLim F55
  simp only [d2, Option.bind_some]
  by_cases hgo : b = true ∧ d.Kind = 2
  · obtain ⟨rfl, hk⟩ := hgo
    obtain ⟨m0, m1⟩ := d3 rfl hk
    simp only [Bool.not_true, Bool.not_false, cond_true, hk, decide_true, cond_false]
    have key : ∀ (e i n : Nat), i + e = d.Most.toNat → e < n → ∃ v,
        iterF (s62_0 gDevS gBxS F124 gLBS gWtS) n (r, d, c, (i : Int), ((i + 1 : Nat) : Int), ()) (fun t7 => some (t7.2.2.2.1, ())) = some (v, ()) ∧
        iterF (s55_0 gDev gLB gWt) n (r, d, c, ((i + 1 : Nat) : Int), ()) (fun t5 => some (t5.2.1.Most, ())) = some (v, ()) := by
      intro e
      induction e with
      | zero =>
        intro i n he hn
        obtain ⟨n, rfl⟩ : ∃ k, n = k + 1 := ⟨n - 1, by omega⟩
        refine ⟨d.Most, ?_, ?_⟩
        · rw [iterF_succ]; simp only [s62_0]; rw [cond_false_dec (by omega)]
          have : (i : Int) = d.Most := by omega
          rw [this]
        · rw [iterF_succ]; simp only [s55_0]; rw [cond_false_dec (by omega)]
      | succ e ih =>
        intro i n he hn
        obtain ⟨n, rfl⟩ : ∃ k, n = k + 1 := ⟨n - 1, by omega⟩
        obtain ⟨B, b, l1, l2⟩ := landBox_ok ⟨⟨d.At.X, d.At.Y⟩, d.Heading, d.Tilt, ((i + 1 : Nat) : Int)⟩ r hr
        have e1 : w64 (((i + 1 : Nat) : Int) + 1) = ((i + 1 + 1 : Nat) : Int) := w64_id (by omega) (by omega)
        have e2 : w64 (((i + 1 : Nat) : Int) - 1) = (i : Int) := by rw [w64_id (by omega) (by omega)]; omega
        obtain ⟨v, g1, g2⟩ := ih (i + 1) n (by omega) (by omega)
        by_cases hc : isBx c = true
        · cases hb : b
          · refine ⟨(i : Int), ?_, ?_⟩
            · rw [iterF_succ]; simp only [s62_0]; rw [cond_true_dec (by omega)]
              simp only [d1, Option.bind_some, cond_true, hk, decide_true, bxS, hc, F124, l1, hb]
              rfl
            · rw [iterF_succ]; simp only [s55_0]; rw [cond_true_dec (by omega)]
              simp only [l2, hb, Option.bind_some, e2]
              rfl
          · cases hin : isIn B c
            · refine ⟨(i : Int), ?_, ?_⟩
              · rw [iterF_succ]; simp only [s62_0]; rw [cond_true_dec (by omega)]
                simp only [d1, Option.bind_some, cond_true, hk, decide_true, bxS, hc, F124, l1, hb, wtS, hin]
                rfl
              · rw [iterF_succ]; simp only [s55_0]; rw [cond_true_dec (by omega)]
                simp only [l2, hb, Option.bind_some, wtI, hin, e2]
                rfl
            · refine ⟨v, ?_, ?_⟩
              · rw [iterF_succ]; simp only [s62_0]; rw [cond_true_dec (by omega)]
                simp only [d1, Option.bind_some, cond_true, hk, decide_true, bxS, hc, F124, l1, hb, wtS, hin, e1]
                exact g1
              · rw [iterF_succ]; simp only [s55_0]; rw [cond_true_dec (by omega)]
                simp only [l2, hb, Option.bind_some, wtI, hin, e1]
                exact g2
        · have hc' : isBx c = false := by simpa using hc
          refine ⟨(i : Int), ?_, ?_⟩
          · rw [iterF_succ]; simp only [s62_0]; rw [cond_true_dec (by omega)]
            simp only [d1, Option.bind_some, cond_true, hk, decide_true, bxS, hc']
            rfl
          · rw [iterF_succ]; simp only [s55_0]; rw [cond_true_dec (by omega)]
            cases b <;> simp only [l2, Option.bind_some, wtI, isIn_bx hc', e2] <;> rfl
    obtain ⟨v, g1, g2⟩ := key d.Most.toNat 0 fuel (by omega) (by rw [fuel_eq]; omega)
    exact ⟨v, g1, g2⟩
  · refine ⟨0, ?_, ?_⟩
    · rw [show fuel = (fuel - 1) + 1 by rw [fuel_eq], iterF_succ]
      simp only [s62_0, d1, Option.bind_some]
      cases b with
      | false => cases decide ((1 : Int) ≤ d.Most) <;> rfl
      | true =>
        have hk : ¬ d.Kind = 2 := fun h => hgo ⟨rfl, h⟩
        rw [decide_eq_false hk]
        cases decide ((1 : Int) ≤ d.Most) <;> rfl
    · cases b with
      | false => rfl
      | true =>
        have hk : ¬ d.Kind = 2 := fun h => hgo ⟨rfl, h⟩
        rw [decide_eq_false hk]; rfl
theorem szDev (d : Device) (h1 : d.Name.length ≤ 9223372036854775807) (h2 : d.Line.length ≤ 9223372036854775807) :
    F61 (d, 1048576, ()) = some (if 1048576 < (d.Name.length : Int) + (d.Line.length : Int) then -1 else 1048576 - ((d.Name.length : Int) + (d.Line.length : Int)), ()) := by
  unfold F61
  have e1 : w64 (1048576 - Int.ofNat d.Name.length) = 1048576 - (d.Name.length : Int) := w64_id (by simp; omega) (by simp; omega)
  simp only [e1]
  by_cases c : 1048576 < (d.Name.length : Int)
  · rw [cond_true_dec (by omega), if_pos (by omega)]
  · rw [cond_false_dec (by omega)]
    have e2 : w64 (1048576 - (d.Name.length : Int) - Int.ofNat d.Line.length) = 1048576 - ((d.Name.length : Int) + (d.Line.length : Int)) := by
      rw [w64_id (by simp; omega) (by simp; omega)]; simp; omega
    rw [e2]
    by_cases c2 : 1048576 < (d.Name.length : Int) + (d.Line.length : Int)
    · rw [cond_true_dec (by omega), if_pos c2]
    · rw [cond_false_dec (by omega), if_neg c2]
theorem F11_eq (d : Device) (r : List Place) (c : Box) (hd : Wf .device d) (hw : (∀ p ∈ r, Wf .place p) ∧ r.length ≤ maxLen) (hc : Wf .box c) :
    F11 F61 F34 (F63 F92) gToPs (F64 F92) gLimS gLim (F40 F96) (d, r, c, ()) = some (true, ()) := by
  have n1 : d.Name.length ≤ 9223372036854775807 := Nat.le_trans (hd (.str d.Name) (by simp [Ty.cells])) (by decide)
  have n2 : d.Line.length ≤ 9223372036854775807 := Nat.le_trans (hd (.str d.Line) (by simp [Ty.cells])) (by decide)
  have n3 : r.length ≤ 9223372036854775807 := Nat.le_trans hw.2 (by decide)
  unfold F11
  rw [szDev d n1 n2, Option.bind_some]
  by_cases c1 : 1048576 < (d.Name.length : Int) + (d.Line.length : Int)
  · rw [if_pos c1, cond_true_dec (by decide)]
  · rw [if_neg c1]
    simp only
    rw [cond_false_dec (by omega)]
    generalize hn : 1048576 - ((d.Name.length : Int) + (d.Line.length : Int)) = n
    by_cases hl : r.length ≤ 1048576
    · rw [szPlaces r hl n (by omega), Option.bind_some]
      by_cases c2 : n < (r.length : Int)
      · rw [if_pos c2, cond_true_dec (by decide)]
      · rw [if_neg c2]
        simp only
        rw [cond_false_dec (by omega)]
        obtain ⟨v, g1, g2⟩ := lim_ok d r c (by omega) (by omega) hl
        have t1 : F63 F92 (d, ()) = some (d, ()) := rfl
        have t2 : F64 F92 (c, ()) = some (c, ()) := rfl
        simp only [t1, t2, toPlaces r hl, g1, g2, eqPlaces r hl, Option.bind_some, decide_true, Bool.not_true, cond_false]
    · rw [szPlaces_big r hl n3 n (by omega), Option.bind_some, cond_true_dec (by decide)]
theorem ok11' : OK Proofs.Try.prog 11 (mkE p11 r11 false (F11 F61 F34 (F63 F92) gToPs (F64 F92) gLimS gLim (F40 F96))) :=
  have kPl := ok115 (ok144 ok72)
  have sPl := ok120 ok170
  have kJet := ok114 ok72 (ok169 ok72)
  have sJet := ok149 ok119 ok186
  have kDev := ok56 (ok112 ok72) (ok113 ok72) kJet ok72 kPl
  have sDev := ok57 ok116 (ok117 ok119) (ok118 sJet) ok119 sPl
  have kWt := ok111 (ok60 (ok59 kPl) ok72)
  have sWt := ok125 (ok173 (ok123 sPl))
  ok11 ok61 ok34 (ok63 ok92) (ok37 ok92) (ok64 ok92) (ok62 sDev (ok123 sPl) ok124 okLB.2 sWt) (ok55 kDev okLB.1 kWt) (ok40 ok96)
end Ev
namespace Go.Proofs.Ytlifghlhbfjdmaa.fnExactLiftLimit
open Go.ChangeShapes Go.WideShapes Go.ChangeAt Go.RowKit
open Go.ChangeMaps (open_string shut_string)
theorem own : ownKnob Try.prog.godebug = none := by kernel_rfl
theorem laidOut : laidOutB Try.prog = true := by kernel_rfl
theorem lifted (os : Os) (started : os.Started) (H : Type) (enc : TypeId × Value → H) :
    ReturnsInHanded {} Try.checked os 11 .any (Rows.fnExactLiftLimitSpec.pre6 enc Try.prog Try.f11 Rows.fnExactLiftLimitRow.domain false) (Rows.fnExactLiftLimitSpec.post enc Try.prog Try.f11 false true false false) := by
  refine returnsInHanded_of_change_sized (C := Try.checked) own started (by kernel_rfl) Try.func11
    (ChangeSpec.witness6 (enc := enc) (C := Try.checked) false ⟨#[], #[.agg #[.string ⟨#[]⟩, .int .i64 0, .string ⟨#[]⟩, .int .i64 0, .int .i64 0, .int .i64 0, .int .i64 0, .int .i64 0], .slice none 0 0, .agg #[.int .i64 0, .int .i64 0, .int .i64 0, .int .i64 0]], []⟩ 8 (by kernel_rfl) (by kernel_rfl) (by kernel_rfl) (by kernel_rfl)) ?_
  intro W base args ds gs before hval0 hW hcnd hsz0 _
  have hval : ∀ (j : Nat) t v, Try.f11.params[j]? = some t → args[j]? = some v → Value.okWide Try.prog W .any base t v := hval0
  have hW' := hW
  obtain ⟨p, q, hA0, hV, rfl, hfz, hnd⟩ := hW
  have hA : DataW.TrodAll enc Try.prog W 0 (fun _ => true) true Try.f11.params.toList args.toList ds p := hA0
  rw [Try.params11] at hA hval
  obtain ⟨v0, vs0, d0, ds0, p0, q0, hargs, rfl, rfl, h0, r0⟩ := trodAll_cons hA
  obtain ⟨v1, vs1, d1, ds1, p1, q1, rfl, rfl, rfl, h1, r1⟩ := trodAll_cons r0
  obtain ⟨v2, vs2, d2, ds2, p2, q2, rfl, rfl, rfl, h2, r2⟩ := trodAll_cons r1
  obtain ⟨rfl, rfl, rfl⟩ := trodAll_nil r2
  obtain rfl : args = #[v0, v1, v2] := by cases args; simp_all
  obtain ⟨rfl, rfl⟩ := trodVars_none hV
  obtain ⟨ca0, rfl, sz0⟩ := okWide_struct Try.underlying97 (hval 0 97 v0 rfl rfl)
  have k0 := h0
  have lt0 : ∀ x ∈ p0, x.block < W.heap.size := by obtain ⟨m, hm⟩ := k0; exact DataW.trod_lt m _ _ _ hm
  obtain ⟨x0, hca0, wf0⟩ : ∃ d : Ev.Ty.den .device, ca0.toList = (Ev.Ty.cells .device d).map Ev.sv ∧ Ev.Wf .device d := by
    obtain ⟨fuel, hf⟩ := h0
    exact Ev.open_struct (l := [(52, .place)]) (by kernel_rfl) .device (by kernel_rfl) hf
  obtain ⟨a1, len1, cap1, rfl⟩ := okWide_slice Try.underlying55 (hval 1 55 v1 rfl rfl)
  have k1 := h1
  have lt1 : ∀ x ∈ p1, x.block < W.heap.size := by obtain ⟨m, hm⟩ := k1; exact DataW.trod_lt m _ _ _ hm
  obtain ⟨zs1, hrel1, wf1, ml1⟩ : ∃ l : List (Ev.Ty.den .place), Ev.RelA (fun _ => none) (fun b => b < W.heap.size) W (.lst .place l) (.slice a1 len1 cap1) ∧ (∀ d ∈ l, Ev.Wf .place d) ∧ l.length ≤ maxLen := by
    obtain ⟨fuel, hf⟩ := h1
    exact Ev.open_rows (l := [(52, .place)]) (by kernel_rfl) (by kernel_rfl) hf
  obtain ⟨ca2, rfl, sz2⟩ := okWide_struct Try.underlying99 (hval 2 99 v2 rfl rfl)
  have k2 := h2
  have lt2 : ∀ x ∈ p2, x.block < W.heap.size := by obtain ⟨m, hm⟩ := k2; exact DataW.trod_lt m _ _ _ hm
  obtain ⟨x2, hca2, wf2⟩ : ∃ d : Ev.Ty.den .box, ca2.toList = (Ev.Ty.cells .box d).map Ev.sv ∧ Ev.Wf .box d := by
    obtain ⟨fuel, hf⟩ := h2
    exact Ev.open_struct (l := [(52, .place)]) (by kernel_rfl) .box (by kernel_rfl) hf
  clear hA0 hval0 hsz0
  refine (Ev.calls_true (av := [.agg (Ev.Ty.cells .device x0), .lst .place zs1, .agg (Ev.Ty.cells .box x2)]) (out := []) Ev.ok11' (by
    exact Ev.sem_of (ps := Ev.p11) (rs := Ev.r11) (a := (x0, zs1, x2, ())) rfl (Ev.F11_eq x0 zs1 x2 wf0 (And.intro wf1 ml1) wf2)) (w := W) (ca := #[.agg ca0, .slice a1 len1 cap1, .agg ca2]) rfl (Ev.args_arr (Ev.argsS (Ev.relA_agg _ x0 hca0) (Ev.argsS (hrel1) (Ev.argsS (Ev.relA_agg _ x2 hca2) Ev.args0))))).mono fun e W' ⟨he, bel⟩ => ?_
  subst he
  exact ⟨_, rfl, _, _, _, [], _, [], hW', trodAll_mk1 (shut_bool Try.underlying4 _), (trodAll_cons_mk (Below.trod laidOut (by kernel_rfl) (of_decide_eq_true (by kernel_rfl)) k0 bel lt0) (trodAll_cons_mk (Below.trod laidOut (by kernel_rfl) (of_decide_eq_true (by kernel_rfl)) k1 bel lt1) (trodAll_cons_mk (Below.trod laidOut (by kernel_rfl) (of_decide_eq_true (by kernel_rfl)) k2 bel lt2) trodAll_mk0))), rfl, bel.frame _, fun h => by cases h⟩
theorem over : Rows.fnExactLiftLimitRow.holds Try.pinned (OpenSpec.ofChange Rows.fnExactLiftLimitSpec) :=
  OpenClaim.holds_of_wide 11 Try.f11 rfl rfl rfl rfl rfl rfl rfl ⟨rfl, rfl, rfl, rfl, rfl⟩ rfl rfl rfl rfl rfl (by kernel_rfl) Try.func11 (by kernel_rfl)
    (of_decide_eq_true (by kernel_rfl)) (by unfold Func.isWrapper; first | (rw [if_pos (by decide +kernel)]; kernel_rfl) | (rw [if_neg (by decide +kernel)]; exact ⟨rfl, rfl⟩))
    (fun os started H enc _ => lifted os started H enc)
theorem proved : Rows.FnExactLiftLimitSaid := over
#print axioms proved
end Go.Proofs.Ytlifghlhbfjdmaa.fnExactLiftLimit
