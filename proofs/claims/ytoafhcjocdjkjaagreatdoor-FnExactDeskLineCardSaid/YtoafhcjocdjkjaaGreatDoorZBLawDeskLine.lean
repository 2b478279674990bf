/- The program's DeskLine returns what the reference's returns, for all arguments: on no condition. -/
import Derived.Test.YtoafhcjocdjkjaaGreatDoorRows
import Derived.Test.YtoafhcjocdjkjaaGreatDoorZB14
import Derived.WalkKit
import Derived.ProofKit
import Derived.OpenShut
import Derived.ShutString
import Derived.ChangeOld
import Derived.Below
import Derived.SizedLaws
import Derived.Test.YtoafhcjocdjkjaaGreatDoorTie
import Derived.Test.YtoafhcjocdjkjaaGreatDoorFactsDeskLine
import Derived.Test.YtoafhcjocdjkjaaGreatDoorCards
import Derived.LaidMore
import Derived.Lay
import Derived.SevenTiedAt
import Derived.MakeChecks
import Derived.Lib.LaidTab
import Derived.LaidSub
set_option linter.unusedVariables false
set_option linter.unusedSimpArgs false
set_option maxRecDepth 100000

namespace Go.Proofs.YtoafhcjocdjkjaaGreatDoor.fnExactDeskLine
open Go.ChangeShapes Go.WideShapes Go.ChangeAt Go.RowKit
open Go.ChangeMaps (open_string shut_string)
theorem lifted (os : Os) (started : os.Started) (H : Type) (enc : TypeId × Value → H) :
    ReturnsInHanded {} Tryz.checked os 7 .any (fun w args => (Rows.fnExactDeskLineSpec.pre enc Tryz.prog Tryz.f7 Rows.fnExactDeskLineRow.domain false w args ∧ laidMetH Tryz.prog Rows.fnExactDeskLineRow.laid w) ∧ sizedMet enc Tryz.prog Tryz.f7 (OpenSpec.ofChange Rows.fnExactDeskLineSpec) false w args) (Rows.fnExactDeskLineSpec.post enc Tryz.prog Tryz.f7 false true false false) := by
  refine ZZr (C := Tryz.checked) (X := fun w _ => laidMetH Tryz.prog Rows.fnExactDeskLineRow.laid w) (fun _ _ _ hh h => h.of_heap hh) own started (by kernel_rfl) Tryz.func7
    (ChangeSpec.witness_shaped (enc := enc) (C := Tryz.checked) (os := os) (X := fun w _ => laidMetH Tryz.prog Rows.fnExactDeskLineRow.laid w) false (World.laidAll Tryz.prog os Rows.fnExactDeskLineRow.laid) #[.agg #[.slice none 0 0, .slice none 0 0, .slice none 0 0, .int .i64 0, .slice none 0 0, .int .i64 0, .int .i64 0, .int .i64 0, .int .i64 0], .string ⟨#[]⟩] 8 (World.laidAll_os _ _ _)
      (World.shaped_of_ZipB (by kernel_rfl) (by kernel_rfl)) (by kernel_rfl) (by kernel_rfl) (by kernel_rfl)
      (by rw [MakeChecks.laidMetH_plain _ _ _ (by kernel_rfl)]; exact laidMet_laidAll _ (by kernel_rfl) (by kernel_rfl))) ?_
  intro W base args ds gs before hval0 hW hcnd hsz0 hL hS _
  have hG : Ev.Glob (fun b => b < W.heap.size) W := by
    rw [MakeChecks.laidMetH_plain _ _ _ (by kernel_rfl)] at hL
    exact ZZs hL hS
  have hval : ∀ (j : Nat) t v, Tryz.f7.params[j]? = some t → args[j]? = some v → Value.okWide Tryz.prog W .any base t v := hval0
  have hW' := hW
  obtain ⟨p, q, hA0, hV, rfl, hfz, hnd⟩ := hW
  have hA : DataW.TrodAll enc Tryz.prog W 0 (fun _ => true) true Tryz.f7.params.toList args.toList ds p := hA0
  rw [Tryz.params7] at hA hval
  obtain ⟨v0, vs0, d0, ds0, p0, q0, hargs, rfl, rfl, h0, r0⟩ := trodAll_cons hA
  obtain ⟨v1, vs1, d1, ds1, p1, q1, rfl, rfl, rfl, h1, r1⟩ := trodAll_cons r0
  obtain ⟨rfl, rfl, rfl⟩ := trodAll_nil r1
  obtain rfl : args = #[v0, v1] := by cases args; simp_all
  obtain ⟨rfl, rfl⟩ := trodVars_none hV
  obtain ⟨ca0, rfl, sz0⟩ := okWide_struct Tryz.underlying65 (hval 0 65 v0 rfl rfl)
  have k0 := h0
  have lt0 : ∀ x ∈ p0, x.block < W.heap.size := by obtain ⟨m, hm⟩ := k0; exact DataW.trod_lt m _ _ _ hm
  obtain ⟨x0, hrel0, wf0⟩ : ∃ x : Ev.ZAQ, Ev.RelA (fun _ => none) (fun b => b < W.heap.size) W (.agg [.lst .device x.1, .lst .cue x.2.1, .lst .gust x.2.2.1, .int .i64 x.2.2.2.1, .lst .place x.2.2.2.2.1, .int .i64 x.2.2.2.2.2.1, .int .i64 x.2.2.2.2.2.2.1, .int .i64 x.2.2.2.2.2.2.2.1, .int .i64 x.2.2.2.2.2.2.2.2.1]) (.agg ca0) ∧ Ev.ZMF x := by
    obtain ⟨fuel, hf⟩ := h0
    exact Ev.ZZp (Ev.ZZl (Ev.ZTj (l := [(255, .device), (257, .cue), (264, .gust), (61, .place)]) (by kernel_rfl)) (n := 4) (ks := [.sl .device, .sl .cue, .sl .gust, .int .i64, .sl .place, .int .i64, .int .i64, .int .i64, .int .i64]) (by kernel_rfl) hf)
  obtain ⟨s1, rfl, rfl, rfl, ws1⟩ := open_string Tryz.underlying9 (hval 1 9 v1 rfl rfl) h1
  clear hA0 hval0 hsz0
  refine (Ev.ZZk (av := [.agg [.lst .device x0.1, .lst .cue x0.2.1, .lst .gust x0.2.2.1, .int .i64 x0.2.2.2.1, .lst .place x0.2.2.2.2.1, .int .i64 x0.2.2.2.2.2.1, .int .i64 x0.2.2.2.2.2.2.1, .int .i64 x0.2.2.2.2.2.2.2.1, .int .i64 x0.2.2.2.2.2.2.2.2.1], .str s1.data.toList]) (out := []) Ev.okG7 (by
    exact Ev.ZOR (ps := Ev.p7) (rs := Ev.r7) (a := (x0, s1.data.toList, ())) rfl (Ev.ZZq x0 s1.data.toList wf0 (by simpa using ws1))) (w := W) (ca := #[.agg ca0, .string s1]) hG rfl (Ev.ZTe (Ev.ZOS (hrel0) (Ev.ZOS (rfl) Ev.ZTd)))).mono fun e W' ⟨he, bel⟩ => ?_
  subst he
  exact ⟨_, rfl, _, _, _, [], _, [], hW', trodAll_mk1 (shut_bool Tryz.underlying4 _), (trodAll_cons_mk (Below.trod laidOut (by kernel_rfl) (of_decide_eq_true (by kernel_rfl)) k0 bel lt0) (trodAll_cons_mk (shut_string Tryz.underlying9 ws1) trodAll_mk0)), rfl, bel.frame _, fun h => by cases h⟩
theorem over : Rows.fnExactDeskLineRow.holds Tryz.pinned (OpenSpec.ofChange Rows.fnExactDeskLineSpec) :=
  OpenClaim.holds_of_wide 7 Tryz.f7 rfl rfl rfl rfl rfl rfl rfl ⟨rfl, rfl, rfl, rfl, rfl⟩ rfl rfl rfl rfl rfl (by kernel_rfl) Tryz.func7 closed
    (of_decide_eq_true (by kernel_rfl)) (by unfold Func.isWrapper; first | (rw [if_pos (by decide +kernel)]; kernel_rfl) | (rw [if_neg (by decide +kernel)]; exact ⟨rfl, rfl⟩))
    (fun os started H enc _ => lifted os started H enc)
theorem proved : Rows.FnExactDeskLineCardSaid :=
  Claim7.holds_tied_plain_at .later [] [.data, .data, .data, .data, .pinned] true (true, "c15eab3090931e494801575c67d21ba347e622c71c5452045cc733125eadeb3b") false over (fun _ h => by cases h) wfText (fun _ h => by cases h) fnExactDeskLine_row_tie rfl ⟨rfl, rfl⟩ (by kernel_rfl) rfl
    (fun f fn hf hfn => by
      obtain rfl : f = 7 := Option.some.inj ((show Tryz.prog.funcNamed "loop.example/g03017/laws.FnExactDeskLine" = some 7 by kernel_rfl).symm.trans hf) |>.symm
      obtain rfl : fn = Tryz.f7 := (Option.some.inj (Tryz.func7.symm.trans hfn)).symm
      exact ⟨by kernel_rfl, fun j t ht => by
        rw [Tryz.params7] at ht
        have hm : t ∈ [65, 9] := by simpa using Array.mem_of_getElem? ht
        have hall : ([65, 9].all fun u => !Tryz.prog.wantsStandIn u) = true := by kernel_rfl
        exact (show Tryz.prog.wantsStandIn t = false by simpa using List.all_eq_true.1 hall t hm)⟩)
    goes
#print axioms proved
end Go.Proofs.YtoafhcjocdjkjaaGreatDoor.fnExactDeskLine
