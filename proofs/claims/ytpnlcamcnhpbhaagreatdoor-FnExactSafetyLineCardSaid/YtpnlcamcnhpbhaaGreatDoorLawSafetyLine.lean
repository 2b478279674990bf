/- The program's SafetyLine returns what the reference's returns, for all arguments: on no condition. -/
import Derived.Test.YtpnlcamcnhpbhaaGreatDoorRows
import Derived.Test.YtpnlcamcnhpbhaaGreatDoorSafeT
import Derived.Test.YtpnlcamcnhpbhaaGreatDoorMarkA
import Derived.Test.YtpnlcamcnhpbhaaGreatDoorPureA
import Derived.WalkKit
import Derived.ProofKit
import Derived.OpenShut
import Derived.ShutString
import Derived.ChangeOld
import Derived.Below
import Derived.SizedLaws
import Derived.Test.YtpnlcamcnhpbhaaGreatDoorTie
import Derived.Test.YtpnlcamcnhpbhaaGreatDoorCards
import Derived.LaidMore
import Derived.Lay
import Derived.SevenTiedAt
import Derived.MakeChecks
import Derived.Lib.LaidTab
import Derived.LaidSub
set_option linter.unusedVariables false
set_option linter.unusedSimpArgs false
set_option maxRecDepth 100000
namespace Ev
open Go
theorem G3_eq (s : ShowT) (r : List Place) (c : Box) (hw : ShowWf s) (hr : (∀ d ∈ r, Wf .place d) ∧ r.length ≤ maxLen) (hc : Wf .box c) : G3 (s, r, c, ()) = some (true, ()) := by
  obtain ⟨x, hx, hxx⟩ := szShow_ok s hw 1048576 (by omega)
  have hx : G5 (s, 1048576, ()) = some (x, ()) := hx
  unfold G3 F3
  simp only [es_show]
  rw [hx]
  simp only [Option.bind_some]
  by_cases h0 : x < 0
  · rw [cond_true_dec h0]
  · rw [cond_false_dec h0]
    obtain ⟨hx1, hs⟩ := hxx (by omega)
    have ht : G8 (s, ()) = some (s, ()) := toShow_ok s hs
    have he : G12 (s, s, ()) = some (true, ()) := eqShow_ok s hs
    by_cases hl : r.length ≤ 1048576
    · have z1 : G6 (r, x, ()) = _ := szPlaces r hl x ⟨by omega, hx1⟩
      rw [z1]
      simp only [Option.bind_some]
      by_cases c1 : x < (r.length : Int)
      · rw [if_pos c1, cond_true_dec (by decide)]
      · rw [if_neg c1, cond_false_dec (by omega)]
        have p1 : G9 (r, ()) = some (r, ()) := toPlaces r hl
        have p2 : G13 (r, r, ()) = some (true, ()) := eqPlaces r hl
        have p3 : G10 (c, ()) = some (c, ()) := rfl
        obtain ⟨T, g1, g2⟩ := safety_ok s hs r hl c
        simp only [ht, p1, p2, p3, Option.bind_some, es_show, g1, g2, he, decide_true, Bool.not_true, Bool.not_false, cond_true, cond_false]
    · have z1 : G6 (r, x, ()) = _ := szPlaces_big r hl (Nat.le_trans hr.2 (by decide)) x ⟨by omega, hx1⟩
      rw [z1]
      simp only [Option.bind_some]
      rw [cond_true_dec (by decide)]
end Ev
namespace Go.Proofs.YtpnlcamcnhpbhaaGreatDoor.fnExactSafetyLine
open Go.ChangeShapes Go.WideShapes Go.ChangeAt Go.RowKit
open Go.ChangeMaps (open_string shut_string)
theorem own : ownKnob Tryz.prog.godebug = none := by kernel_rfl
theorem laidOut : laidOutB Tryz.prog = true := by kernel_rfl
theorem glob {W : World} (hL : laidMetH Tryz.prog Rows.fnExactSafetyLineRow.laid W) : Ev.Glob (fun b => b < W.heap.size) W := by
  rw [MakeChecks.laidMetH_plain _ _ _ (by kernel_rfl)] at hL
  have e : (Rows.fnExactSafetyLineRow.laid.filter fun x => x.1 == "internal/strconv.uint64pow10") = [("internal/strconv.uint64pow10", Go.Lib.tabData .u64 Go.Lib.pow10Tab)] := by kernel_rfl
  have h := hL.filter (fun x => x.1 == "internal/strconv.uint64pow10")
  rw [e] at h
  have ht := Go.Lib.tabIs_of_head (g := 0) (t := 208) (e := 190) (n := 20) (by kernel_rfl) (by kernel_rfl) Tryz.underlying208 Tryz.underlying190 (by kernel_rfl) (by kernel_rfl) h
  have hg : Tryz.prog.globalNamed "internal/strconv.uint64pow10" = some 0 := by kernel_rfl
  unfold Go.Lib.TabIs World.var? at ht
  rw [hg, Option.bind_some] at ht
  intro x hx
  simp only [Ev.GP, List.mem_singleton] at hx
  subst hx
  simp only
  split at ht
  · rename_i cs e r hc
    cases ht
    have h0 : 0 < W.heap.size := by
      rcases Nat.lt_or_ge 0 W.heap.size with h | h
      · exact h
      · rw [Array.getElem?_eq_none h] at hc; cases hc
    exact ⟨h0, _, e, r, hc, rfl⟩
  · cases ht
theorem lifted (os : Os) (started : os.Started) (H : Type) (enc : TypeId × Value → H) :
    ReturnsInHanded {} Tryz.checked os 3 .any (fun w args => (Rows.fnExactSafetyLineSpec.pre enc Tryz.prog Tryz.f3 Rows.fnExactSafetyLineRow.domain false w args ∧ laidMetH Tryz.prog Rows.fnExactSafetyLineRow.laid w) ∧ sizedMet enc Tryz.prog Tryz.f3 (OpenSpec.ofChange Rows.fnExactSafetyLineSpec) false w args) (Rows.fnExactSafetyLineSpec.post enc Tryz.prog Tryz.f3 false true false false) := by
  refine returnsInHanded_of_change_and (C := Tryz.checked) (X := fun w _ => laidMetH Tryz.prog Rows.fnExactSafetyLineRow.laid w) (fun _ _ _ hh h => h.of_heap hh) own started (by kernel_rfl) Tryz.func3
    (ChangeSpec.witness_shaped (enc := enc) (C := Tryz.checked) (os := os) (X := fun w _ => laidMetH Tryz.prog Rows.fnExactSafetyLineRow.laid w) false (World.laidAll Tryz.prog os Rows.fnExactSafetyLineRow.laid) #[.agg #[.slice none 0 0, .slice none 0 0, .slice none 0 0, .int .i64 0], .slice none 0 0, .agg #[.int .i64 0, .int .i64 0, .int .i64 0, .int .i64 0]] 8 (World.laidAll_os _ _ _)
      (World.shaped_of_ZipB (by kernel_rfl) (by kernel_rfl)) (by kernel_rfl) (by kernel_rfl) (by kernel_rfl)
      (by rw [MakeChecks.laidMetH_plain _ _ _ (by kernel_rfl)]; exact laidMet_laidAll _ (by kernel_rfl) (by kernel_rfl))) ?_
  intro W base args ds gs before hval0 hW hcnd hsz0 hL _
  have hval : ∀ (j : Nat) t v, Tryz.f3.params[j]? = some t → args[j]? = some v → Value.okWide Tryz.prog W .any base t v := hval0
  have hW' := hW
  obtain ⟨p, q, hA0, hV, rfl, hfz, hnd⟩ := hW
  have hA : DataW.TrodAll enc Tryz.prog W 0 (fun _ => true) true Tryz.f3.params.toList args.toList ds p := hA0
  rw [Tryz.params3] at hA hval
  obtain ⟨v0, vs0, d0, ds0, p0, q0, hargs, rfl, rfl, h0, r0⟩ := trodAll_cons hA
  obtain ⟨v1, vs1, d1, ds1, p1, q1, rfl, rfl, rfl, h1, r1⟩ := trodAll_cons r0
  obtain ⟨v2, vs2, d2, ds2, p2, q2, rfl, rfl, rfl, h2, r2⟩ := trodAll_cons r1
  obtain ⟨rfl, rfl, rfl⟩ := trodAll_nil r2
  obtain rfl : args = #[v0, v1, v2] := by cases args; simp_all
  obtain ⟨rfl, rfl⟩ := trodVars_none hV
  obtain ⟨ca0, rfl, sz0⟩ := okWide_struct Tryz.underlying26 (hval 0 26 v0 rfl rfl)
  have k0 := h0
  have lt0 : ∀ x ∈ p0, x.block < W.heap.size := by obtain ⟨m, hm⟩ := k0; exact DataW.trod_lt m _ _ _ hm
  obtain ⟨x0, hrel0, wf0⟩ : ∃ x : Ev.ShowT, Ev.RelA (fun _ => none) (fun b => b < W.heap.size) W (.agg [.lst .device x.1, .lst .cue x.2.1, .lst .gust x.2.2.1, .int .i64 x.2.2.2.1]) (.agg ca0) ∧ Ev.ShowWf x := by
    obtain ⟨fuel, hf⟩ := h0
    exact Ev.open_show (Ev.kinds_open (Ev.seB_ok (l := [(120, .gust), (29, .place), (96, .device), (99, .cue)]) (by kernel_rfl)) (n := 4) (ks := [.sl .device, .sl .cue, .sl .gust, .int .i64]) (by kernel_rfl) hf)
  obtain ⟨a1, len1, cap1, rfl⟩ := okWide_slice Tryz.underlying27 (hval 1 27 v1 rfl rfl)
  have k1 := h1
  have lt1 : ∀ x ∈ p1, x.block < W.heap.size := by obtain ⟨m, hm⟩ := k1; exact DataW.trod_lt m _ _ _ hm
  obtain ⟨zs1, hrel1, wf1, ml1⟩ : ∃ l : List (Ev.Ty.den .place), Ev.RelA (fun _ => none) (fun b => b < W.heap.size) W (.lst .place l) (.slice a1 len1 cap1) ∧ (∀ d ∈ l, Ev.Wf .place d) ∧ l.length ≤ maxLen := by
    obtain ⟨fuel, hf⟩ := h1
    exact Ev.open_rows (l := [(120, .gust), (29, .place), (96, .device), (99, .cue)]) (by kernel_rfl) (by kernel_rfl) hf
  obtain ⟨ca2, rfl, sz2⟩ := okWide_struct Tryz.underlying31 (hval 2 31 v2 rfl rfl)
  have k2 := h2
  have lt2 : ∀ x ∈ p2, x.block < W.heap.size := by obtain ⟨m, hm⟩ := k2; exact DataW.trod_lt m _ _ _ hm
  obtain ⟨x2, hca2, wf2⟩ : ∃ d : Ev.Ty.den .box, ca2.toList = (Ev.Ty.cells .box d).map Ev.sv ∧ Ev.Wf .box d := by
    obtain ⟨fuel, hf⟩ := h2
    exact Ev.open_struct (l := [(120, .gust), (29, .place), (96, .device), (99, .cue)]) (by kernel_rfl) .box (by kernel_rfl) hf
  clear hA0 hval0 hsz0
  refine (Ev.calls_true (av := [.agg [.lst .device x0.1, .lst .cue x0.2.1, .lst .gust x0.2.2.1, .int .i64 x0.2.2.2.1], .lst .place zs1, .agg (Ev.Ty.cells .box x2)]) (out := []) Ev.okG3 (by
    exact Ev.sem_of (ps := Ev.p3) (rs := Ev.r3) (a := (x0, zs1, x2, ())) rfl (Ev.G3_eq x0 zs1 x2 wf0 (And.intro wf1 ml1) wf2)) (w := W) (ca := #[.agg ca0, .slice a1 len1 cap1, .agg ca2]) (glob hL) rfl (Ev.args_arr (Ev.argsS (hrel0) (Ev.argsS (hrel1) (Ev.argsS (Ev.relA_agg _ x2 hca2) Ev.args0))))).mono fun e W' ⟨he, bel⟩ => ?_
  subst he
  exact ⟨_, rfl, _, _, _, [], _, [], hW', trodAll_mk1 (shut_bool Tryz.underlying4 _), (trodAll_cons_mk (Below.trod laidOut (by kernel_rfl) (of_decide_eq_true (by kernel_rfl)) k0 bel lt0) (trodAll_cons_mk (Below.trod laidOut (by kernel_rfl) (of_decide_eq_true (by kernel_rfl)) k1 bel lt1) (trodAll_cons_mk (Below.trod laidOut (by kernel_rfl) (of_decide_eq_true (by kernel_rfl)) k2 bel lt2) trodAll_mk0))), rfl, bel.frame _, fun h => by cases h⟩
theorem over : Rows.fnExactSafetyLineRow.holds Tryz.pinned (OpenSpec.ofChange Rows.fnExactSafetyLineSpec) :=
  OpenClaim.holds_of_wide 3 Tryz.f3 rfl rfl rfl rfl rfl rfl rfl ⟨rfl, rfl, rfl, rfl, rfl⟩ rfl rfl rfl rfl rfl (by kernel_rfl) Tryz.func3 (by kernel_rfl)
    (of_decide_eq_true (by kernel_rfl)) (by unfold Func.isWrapper; first | (rw [if_pos (by decide +kernel)]; kernel_rfl) | (rw [if_neg (by decide +kernel)]; exact ⟨rfl, rfl⟩))
    (fun os started H enc _ => lifted os started H enc)
theorem proved : Rows.FnExactSafetyLineCardSaid :=
  Claim7.holds_tied_plain_at .later [] [.data, .data, .data, .data, .pinned] true (true, "eb455140b353b21055947424f9a3ded76a0f1318e01725f3b00b9dda26209b71") false over (fun _ h => by cases h) (by kernel_rfl) (fun _ h => by cases h) fnExactSafetyLine_row_tie rfl ⟨rfl, rfl⟩ (by kernel_rfl) rfl
    (fun f fn hf hfn => by
      obtain rfl : f = 3 := Option.some.inj ((show Tryz.prog.funcNamed "loop.example/g03017/laws.FnExactSafetyLine" = some 3 by kernel_rfl).symm.trans hf) |>.symm
      obtain rfl : fn = Tryz.f3 := (Option.some.inj (Tryz.func3.symm.trans hfn)).symm
      exact ⟨by kernel_rfl, fun j t ht => by
        rw [Tryz.params3] at ht
        have hm : t ∈ [26, 27, 31] := by simpa using Array.mem_of_getElem? ht
        have hall : ([26, 27, 31].all fun u => !Tryz.prog.wantsStandIn u) = true := by kernel_rfl
        exact (show Tryz.prog.wantsStandIn t = false by simpa using List.all_eq_true.1 hall t hm)⟩)
    (by kernel_rfl)
#print axioms proved
end Go.Proofs.YtpnlcamcnhpbhaaGreatDoor.fnExactSafetyLine
