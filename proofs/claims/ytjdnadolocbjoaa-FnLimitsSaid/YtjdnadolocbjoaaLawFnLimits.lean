/- Each lift up to the limit lands in the basin only, and the next one does not: on no condition. -/
import Derived.Test.YtjdnadolocbjoaaRows
import Derived.Test.YtjdnadolocbjoaaDrawL
import Derived.Test.YtjdnadolocbjoaaPureA
import Derived.WalkKit
import Derived.ProofKit
import Derived.OpenShut
import Derived.ShutString
import Derived.ChangeOld
import Derived.Below
import Derived.SizedLaws
set_option linter.unusedVariables false
set_option linter.unusedSimpArgs false
set_option maxRecDepth 100000
namespace Ev
open Go
theorem wp_true {o : Option (Bool × Unit)} (h : wp o (fun r => r.1 = true)) : o = some (true, ()) := by
  obtain ⟨⟨r, u⟩, e, hr⟩ := h
  rw [e, show r = true from hr]
theorem noz_most2 {d : Device} (hd : devB d = true) (hk : d.Kind = 2) : 0 ≤ d.Most ∧ d.Most ≤ 32 := by
  unfold devB at hd
  rw [Bool.and_eq_true] at hd
  have := hd.2
  rw [if_neg (by rw [hk]; decide), if_pos hk] at this
  simp only [Bool.and_eq_true] at this
  exact wi_true.1 this.2.2.2
theorem roseBox_any {r : List Place} (hr : r.length ≤ 1048576) (n : Int) : ∃ B b, G74 (r, n, ()) = some (B, b, ()) ∧ (G22 (r, ()) = some (false, ()) → b = false) := by
  obtain ⟨b, q1, _⟩ := rose_ok r hr
  have q1 : G22 (r, ()) = some (b, ()) := q1
  have hw : G52 (n, 0, 128, ()) = some (wi n 0 128, ()) := within_is _ _ _
  cases hb : b
  · refine ⟨⟨⟨0, 0⟩, ⟨0, 0⟩⟩, false, ?_, fun _ => rfl⟩
    unfold G74 F74
    simp only [q1, hb, Option.bind_some]
    rfl
  · have hv : RoseV r := roseV_of hr (by rw [q1, hb])
    have hsm : ∀ p ∈ r, isPl p = true := fun p hp => by
      have := dr_sm (hv.sm p hp)
      unfold isPl
      rw [wi_of (by have := this.1; omega) (by have := this.1; omega), wi_of (by have := this.2; omega) (by have := this.2; omega)]; rfl
    obtain ⟨C, c1, _⟩ := boxI_P (r := r) hr hv.len.1 hsm
    cases hwn : wi n 0 128
    · refine ⟨⟨⟨0, 0⟩, ⟨0, 0⟩⟩, false, ?_, fun _ => rfl⟩
      unfold G74 F74
      simp only [q1, hb, hw, hwn, Option.bind_some]
      rfl
    · refine ⟨⟨⟨w64 (n * C.Low.X), w64 (n * C.Low.Y)⟩, ⟨w64 (n * C.High.X), w64 (n * C.High.Y)⟩⟩, true, ?_, fun h => by rw [q1, hb] at h; cases h⟩
      unfold G74 F74
      simp only [q1, hb, hw, hwn, c1, Option.bind_some, Bool.not_true, Bool.not_false, cond_true, cond_false]
theorem landBox_any {r : List Place} (hr : r.length ≤ 1048576) (j : Jet) : ∃ B b, G24 (j, r, ()) = some (B, b, ()) ∧ (G22 (r, ()) = some (false, ()) → b = false) := by
  obtain ⟨B, b, e, hb⟩ := roseBox_any hr (fl j)
  have hl : G73 (j, ()) = some ((landP j).1, (landP j).2, ()) := landI j
  unfold G24 F24
  simp only [hl, flI_is, e, Option.bind_some]
  cases (landP j).2
  · exact ⟨_, false, rfl, fun _ => rfl⟩
  · cases hbb : b
    · exact ⟨_, false, rfl, fun _ => rfl⟩
    · exact ⟨_, true, rfl, fun h => by have := hb h; rw [hbb] at this; cases this⟩
noncomputable def bxJ (j : Jet) (r : List Place) : Box := ((G24 (j, r, ())).map fun x => x.1).getD ⟨⟨0, 0⟩, ⟨0, 0⟩⟩
noncomputable def bbJ (j : Jet) (r : List Place) : Bool := ((G24 (j, r, ())).map fun x => x.2.1).getD false
theorem bJ_is {r : List Place} (hr : r.length ≤ 1048576) (j : Jet) : G24 (j, r, ()) = some (bxJ j r, bbJ j r, ()) ∧ (G22 (r, ()) = some (false, ()) → bbJ j r = false) := by
  obtain ⟨B, b, e, h⟩ := landBox_any hr j
  unfold bxJ bbJ
  rw [e]
  exact ⟨rfl, h⟩
def jD (d : Device) (x : Int) : Jet := ⟨⟨d.At.X, d.At.Y⟩, d.Heading, d.Tilt, x⟩
theorem limI_gen (d : Device) (r : List Place) (c : Box) (h1 : d.Name.length ≤ 1048576) (h2 : d.Line.length ≤ 1048576) (hr : r.length ≤ 1048576) : ∃ v, G19 (d, r, c, ()) = some (v, ()) ∧ ((devB d = true ∧ d.Kind = 2 ∧ (0 ≤ v ∧ v ≤ d.Most) ∧ (∀ x : Int, 1 ≤ x → x ≤ v → (bbJ (jD d x) r && isIn (bxJ (jD d x) r) c) = true) ∧ (v < d.Most → (bbJ (jD d (v + 1)) r && isIn (bxJ (jD d (v + 1)) r) c) = false)) ∨ (¬ (devB d = true ∧ d.Kind = 2) ∧ v = 0)) := by
  have hdv : G20 (d, ()) = some (devB d, ()) := (devB_is d h1 h2).2
  unfold G19 F19
  simp only [hdv, Option.bind_some]
  cases hd : devB d
  · exact ⟨0, rfl, .inr ⟨by simp, rfl⟩⟩
  by_cases hk : d.Kind = 2
  · obtain ⟨m0, m1⟩ := noz_most2 hd hk
    rw [decide_eq_true hk]
    simp only [Bool.not_true, Bool.not_false, cond_true, cond_false]
    have key : ∀ (e i n : Nat), i + e = d.Most.toNat → e < n → ∃ v,
        iterF (s19_0 G20 G24 G61) n (r, d, c, ((i + 1 : Nat) : Int), ()) (fun t5 => some (t5.2.1.Most, ())) = some (v, ()) ∧ (i : Int) ≤ v ∧ v ≤ d.Most ∧ (∀ x : Int, (i : Int) < x → x ≤ v → (bbJ (jD d x) r && isIn (bxJ (jD d x) r) c) = true) ∧ (v < d.Most → (bbJ (jD d (v + 1)) r && isIn (bxJ (jD d (v + 1)) r) c) = false) := by
      intro e
      induction e with
      | zero =>
        intro i n he hn
        obtain ⟨n, rfl⟩ : ∃ k, n = k + 1 := ⟨n - 1, by omega⟩
        refine ⟨d.Most, ?_, by omega, by omega, fun x h1 h2 => by omega, fun h => by omega⟩
        rw [iterF_succ]; simp only [s19_0]; rw [cond_false_dec (by omega)]
      | succ e ih =>
        intro i n he hn
        obtain ⟨n, rfl⟩ : ∃ k, n = k + 1 := ⟨n - 1, by omega⟩
        have e1 : w64 (((i + 1 : Nat) : Int) + 1) = ((i + 1 + 1 : Nat) : Int) := w64_id (by omega) (by omega)
        have e2 : w64 (((i + 1 : Nat) : Int) - 1) = (i : Int) := by rw [w64_id (by omega) (by omega)]; omega
        have e3 : (i : Int) + 1 = ((i + 1 : Nat) : Int) := by omega
        have hl := (bJ_is hr (jD d ((i + 1 : Nat) : Int))).1
        have hl : G24 ((⟨⟨d.At.X, d.At.Y⟩, d.Heading, d.Tilt, ((i + 1 : Nat) : Int)⟩ : Jet), r, ()) = some (bxJ (jD d ((i : Int) + 1)) r, bbJ (jD d ((i : Int) + 1)) r, ()) := by rw [e3]; exact hl
        obtain ⟨v, g2, g3, g4, g5, g6⟩ := ih (i + 1) n (by omega) (by omega)
        cases hb : bbJ (jD d ((i : Int) + 1)) r
        · refine ⟨(i : Int), ?_, by omega, by omega, fun x h1 h2 => by omega, fun _ => by rw [hb]; rfl⟩
          rw [iterF_succ]; simp only [s19_0]; rw [cond_true_dec (by omega)]
          simp only [hl, hb, Option.bind_some, e2]
          rfl
        · cases hin : isIn (bxJ (jD d ((i : Int) + 1)) r) c
          · refine ⟨(i : Int), ?_, by omega, by omega, fun x h1 h2 => by omega, fun _ => by rw [hb, hin]; rfl⟩
            rw [iterF_succ]; simp only [s19_0]; rw [cond_true_dec (by omega)]
            have hw : G61 (bxJ (jD d ((i : Int) + 1)) r, c, ()) = some (isIn (bxJ (jD d ((i : Int) + 1)) r) c, ()) := wtI _ _
            simp only [hl, hb, Option.bind_some, hw, hin, e2]
            rfl
          · refine ⟨v, ?_, by omega, by omega, fun x h1 h2 => ?_, g6⟩
            · rw [iterF_succ]; simp only [s19_0]; rw [cond_true_dec (by omega)]
              have hw : G61 (bxJ (jD d ((i : Int) + 1)) r, c, ()) = some (isIn (bxJ (jD d ((i : Int) + 1)) r) c, ()) := wtI _ _
              simp only [hl, hb, Option.bind_some, hw, hin, e1]
              exact g2
            · by_cases hx : x = (i : Int) + 1
              · rw [hx, hb, hin]; rfl
              · exact g5 x (by omega) h2
    obtain ⟨v, g2, g3, g4, g5, g6⟩ := key d.Most.toNat 0 fuel (by omega) (by rw [fuel_eq]; omega)
    exact ⟨v, g2, .inl ⟨by first | rfl | trivial, hk, ⟨by omega, g4⟩, fun x h1 h2 => g5 x (by omega) h2, g6⟩⟩
  · rw [decide_eq_false hk]
    exact ⟨0, rfl, .inr ⟨fun h => hk h.2, rfl⟩⟩
theorem G4_eq (b : List Int) (hw : (∀ d ∈ b, Wf .u8 d) ∧ b.length ≤ maxLen) : G4 (b, ()) = some (true, ()) := by
  unfold G4 F4 G10 F10
  simp only [Option.bind_some]
  by_cases hb : b.length ≤ 4096
  · rw [cond_false_dec (by simp; omega)]
    obtain ⟨⟨d, r, c, u⟩, e, ⟨n1, n2⟩, n3⟩ := drawLimit_w hb
    have n1 : d.Name.length ≤ 9 := n1
    have n2 : d.Line.length ≤ 9 := n2
    have n3 : r.length ≤ 5 := n3
    have hrl : r.length ≤ 1048576 := by omega
    rw [e]
    obtain ⟨dS, dI⟩ := devB_is d (by omega) (by omega)
    have dS : G21 (d, ()) = some (devB d, ()) := dS
    have dI : G20 (d, ()) = some (devB d, ()) := dI
    obtain ⟨v, hv, hcase⟩ := limI_gen d r c (by omega) (by omega) hrl
    obtain ⟨rb, q1, _⟩ := rose_ok r hrl
    have q1 : G22 (r, ()) = some (rb, ()) := q1
    have q2 : G23 (c, ()) = some (isBx c, ()) := bxI c
    simp only [Option.bind_some, hv, dS, dI, q1, q2, decide_true, Bool.not_true, cond_false]
    rcases hcase with ⟨hd, hk, ⟨v0, v1⟩, hbelow, hnext⟩ | ⟨hn, hz⟩
    · obtain ⟨m0, m1⟩ := noz_most2 hd hk
      have zero : (∀ x : Int, (bbJ (jD d x) r && isIn (bxJ (jD d x) r) c) = false) → v = 0 := fun h => by
        by_cases h0 : 1 ≤ v
        · have h2 := hbelow 1 (by omega) h0
          rw [h 1] at h2
          cases h2
        · omega
      rw [hd, decide_eq_true hk]
      simp only [Bool.not_true, Bool.not_false, cond_true, cond_false]
      cases hrb : rb
      · have hz := zero fun x => by rw [(bJ_is hrl (jD d x)).2 (by rw [q1, hrb])]; rfl
        subst hz
        rfl
      · simp only [Bool.not_true, Bool.not_false, cond_true, cond_false]
        cases hc : isBx c
        · have hz := zero fun x => by rw [isIn_bx hc, Bool.and_false]
          subst hz
          rfl
        · simp only [Bool.not_true, Bool.not_false, cond_true, cond_false]
          have hr : RoseV r := roseV_of hrl (by rw [q1, hrb])
          obtain ⟨C, hC1, hC, hB⟩ := roseBox_is hr
          have hjet : ∀ x : Int, 1 ≤ x → x ≤ d.Most → isJet (jD d x) = true := fun x h1 h2 => noz_jet hd hk h1 h2
          have hlb : ∀ x : Int, 1 ≤ x → x ≤ d.Most → G24 ((⟨⟨d.At.X, d.At.Y⟩, d.Heading, d.Tilt, x⟩ : Jet), r, ()) = some (lbE (jD d x) C, true, ()) := fun x h1 h2 => (landBox_is hC hB (hjet x h1 h2)).1
          have hbx : ∀ x : Int, 1 ≤ x → x ≤ d.Most → (bbJ (jD d x) r && isIn (bxJ (jD d x) r) c) = isIn (lbE (jD d x) C) c := fun x h1 h2 => by
            have e1 := (bJ_is hrl (jD d x)).1
            have e2 : G24 (jD d x, r, ()) = some (lbE (jD d x) C, true, ()) := hlb x h1 h2
            rw [e2] at e1
            simp only [Option.some.injEq, Prod.mk.injEq] at e1
            rw [← e1.1, ← e1.2.1, Bool.true_and]
          have ev1 : w64 (v + 1) = v + 1 := w64_id (by omega) (by omega)
          refine wp_true (wp_iter 40 (fun j t => ∃ i : Nat, t = (d, r, c, v, (i : Int), ()) ∧ 1 ≤ i ∧ i + j = 41) (by omega) ⟨1, rfl, by omega, by omega⟩ ?_)
          rintro j _ ⟨i, rfl, hi1, hij⟩ rec hrec
          simp only [s4_0, ev1]
          refine wp_dec (fun hc1 => ?_) fun _ => wp_some (decide_eq_true v1)
          refine wp_dec (fun hc2 => ?_) fun _ => wp_some (decide_eq_true v1)
          have e1 : w64 ((i : Int) + 1) = ((i + 1 : Nat) : Int) := w64_id (by omega) (by omega)
          have inL : ∀ p, G25 (c, p, ()) = some (inBx c p, ()) := fun p => inI c p
          simp only [hlb (i : Int) (by omega) hc2, Option.bind_some, Bool.not_true, Bool.not_false, cond_true, inL, e1]
          have next : wp (rec (d, r, c, v, ((i + 1 : Nat) : Int), ())) (fun r => r.1 = true) := hrec (j - 1) _ (by omega) ⟨i + 1, rfl, by omega, by omega⟩
          by_cases hiv : (i : Int) ≤ v
          · have h3 := hbelow (i : Int) (by omega) hiv
            rw [hbx (i : Int) (by omega) hc2] at h3
            unfold isIn at h3
            rw [Bool.and_eq_true] at h3
            rw [h3.1, h3.2, decide_eq_true hiv]
            exact next
          · have hv1 : (i : Int) = v + 1 := by omega
            have h3 := hnext (by omega)
            rw [← hv1, hbx (i : Int) (by omega) hc2] at h3
            unfold isIn at h3
            rw [decide_eq_false hiv]
            cases hL : inBx c (lbE (jD d (i : Int)) C).Low
            · exact next
            · rw [hL, Bool.true_and] at h3
              rw [h3]
              exact next
    · subst hz
      cases hd : devB d
      · rfl
      · have hk : ¬ d.Kind = 2 := fun h => hn ⟨hd, h⟩
        rw [decide_eq_false hk]
        rfl
  · rw [cond_true_dec (by simp; omega)]
end Ev
namespace Go.Proofs.Ytjdnadolocbjoaa.fnLimits
open Go.ChangeShapes Go.WideShapes Go.ChangeAt Go.RowKit
open Go.ChangeMaps (open_string shut_string)
theorem own : ownKnob Try.prog.godebug = none := by kernel_rfl
theorem laidOut : laidOutB Try.prog = true := by kernel_rfl
theorem lifted (os : Os) (started : os.Started) (H : Type) (enc : TypeId × Value → H) :
    ReturnsInHanded {} Try.checked os 4 .any (Rows.fnLimitsSpec.pre6 enc Try.prog Try.f4 Rows.fnLimitsRow.domain false) (Rows.fnLimitsSpec.post enc Try.prog Try.f4 false true false false) := by
  refine returnsInHanded_of_change_sized (C := Try.checked) own started (by kernel_rfl) Try.func4
    (ChangeSpec.witness6 (enc := enc) (C := Try.checked) false ⟨#[], #[.slice none 0 0], []⟩ 8 (by kernel_rfl) (by kernel_rfl) (by kernel_rfl) (by kernel_rfl)) ?_
  intro W base args ds gs before hval0 hW hcnd hsz0 _
  have hval : ∀ (j : Nat) t v, Try.f4.params[j]? = some t → args[j]? = some v → Value.okWide Try.prog W .any base t v := hval0
  have hW' := hW
  obtain ⟨p, q, hA0, hV, rfl, hfz, hnd⟩ := hW
  have hA : DataW.TrodAll enc Try.prog W 0 (fun _ => true) true Try.f4.params.toList args.toList ds p := hA0
  rw [Try.params4] at hA hval
  obtain ⟨v0, vs0, d0, ds0, p0, q0, hargs, rfl, rfl, h0, r0⟩ := trodAll_cons hA
  obtain ⟨rfl, rfl, rfl⟩ := trodAll_nil r0
  obtain rfl : args = #[v0] := by cases args; simp_all
  obtain ⟨rfl, rfl⟩ := trodVars_none hV
  obtain ⟨a0, len0, cap0, rfl⟩ := okWide_slice Try.underlying22 (hval 0 22 v0 rfl rfl)
  have k0 := h0
  have lt0 : ∀ x ∈ p0, x.block < W.heap.size := by obtain ⟨m, hm⟩ := k0; exact DataW.trod_lt m _ _ _ hm
  obtain ⟨zs0, hrel0, wf0, ml0⟩ : ∃ l : List (Ev.Ty.den .u8), Ev.RelA (fun _ => none) (fun b => b < W.heap.size) W (.lst .u8 l) (.slice a0 len0 cap0) ∧ (∀ d ∈ l, Ev.Wf .u8 d) ∧ l.length ≤ maxLen := by
    obtain ⟨fuel, hf⟩ := h0
    exact Ev.open_rows (l := [(5, .u8)]) (by kernel_rfl) (by kernel_rfl) hf
  clear hA0 hval0 hsz0
  refine (Ev.calls_true (av := [.lst .u8 zs0]) (out := []) Ev.okG4 (by
    exact Ev.sem_of (ps := Ev.p4) (rs := Ev.r4) (a := (zs0, ())) rfl (Ev.G4_eq zs0 (And.intro wf0 ml0))) (w := W) (ca := #[.slice a0 len0 cap0]) rfl (Ev.args_arr (Ev.argsS (hrel0) Ev.args0))).mono fun e W' ⟨he, bel⟩ => ?_
  subst he
  exact ⟨_, rfl, _, _, _, [], _, [], hW', trodAll_mk1 (shut_bool Try.underlying4 _), (trodAll_cons_mk (Below.trod laidOut (by kernel_rfl) (of_decide_eq_true (by kernel_rfl)) k0 bel lt0) trodAll_mk0), rfl, bel.frame _, fun h => by cases h⟩
theorem over : Rows.fnLimitsRow.holds Try.pinned (OpenSpec.ofChange Rows.fnLimitsSpec) :=
  OpenClaim.holds_of_wide 4 Try.f4 rfl rfl rfl rfl rfl rfl rfl ⟨rfl, rfl, rfl, rfl, rfl⟩ rfl rfl rfl rfl rfl (by kernel_rfl) Try.func4 (by kernel_rfl)
    (of_decide_eq_true (by kernel_rfl)) (by unfold Func.isWrapper; first | (rw [if_pos (by decide +kernel)]; kernel_rfl) | (rw [if_neg (by decide +kernel)]; exact ⟨rfl, rfl⟩))
    (fun os started H enc _ => lifted os started H enc)
theorem proved : Rows.FnLimitsSaid := over
#print axioms proved
end Go.Proofs.Ytjdnadolocbjoaa.fnLimits
