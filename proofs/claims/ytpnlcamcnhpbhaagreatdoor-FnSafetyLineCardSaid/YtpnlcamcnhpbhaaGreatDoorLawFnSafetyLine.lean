/- What is told of a show is whether it is safe: on no condition. -/
import Derived.Test.YtpnlcamcnhpbhaaGreatDoorRows
import Derived.Test.YtpnlcamcnhpbhaaGreatDoorHit
import Derived.Test.YtpnlcamcnhpbhaaGreatDoorSafeT
import Derived.Test.YtpnlcamcnhpbhaaGreatDoorSafeD
import Derived.Test.YtpnlcamcnhpbhaaGreatDoorPureA
import Derived.WalkKit
import Derived.ProofKit
import Derived.OpenShut
import Derived.ShutString
import Derived.ChangeOld
import Derived.Below
import Derived.SizedLaws
import Derived.Test.YtpnlcamcnhpbhaaGreatDoorTie
import Derived.Test.YtpnlcamcnhpbhaaGreatDoorCards
import Derived.LaidMore
import Derived.Lay
import Derived.SevenTiedAt
import Derived.MakeChecks
import Derived.Lib.LaidTab
import Derived.LaidSub
set_option linter.unusedVariables false
set_option linter.unusedSimpArgs false
set_option maxRecDepth 100000
namespace Ev
open Go
theorem wetWindI_b {s : ShowT} (h : ShowV s) {r : List Place} (hr : RoseV r) {c : Box} (hc : isBx c = true) : ∃ L, G16 (s, r, c, ()) = some (L, (wwL s r c).isSome, ()) := by
  have hl : r.length ≤ 1048576 := by have := hr.len.2; omega
  unfold G16 F16
  simp only [es_show]
  rw [wetDrop_is h hl hr.isI hc]
  cases hw : wwL s r c with
  | none => exact ⟨[], rfl⟩
  | some a =>
    refine ⟨stL (wdV (a.2 : Int) r), ?_⟩
    simp only [Option.elim, Option.bind_some, Bool.not_true, cond_false, changes_one, Option.isSome_some]
theorem wetWindI_no {s : ShowT} (h : ShowOK s) {r : List Place} (hl : r.length ≤ 1048576) {c : Box} {b : Bool} (hb : G36 (r, ()) = some (b, ())) (hgo : ¬ (showB s = true ∧ b = true ∧ isBx c = true)) : G16 (s, r, c, ()) = some ([], false, ()) := by
  obtain ⟨b', r1, r2, r3⟩ := roseI_is r hl
  obtain rfl : b' = b := by rw [hb] at r1; cases r1; rfl
  unfold G16 F16
  have : G38 (s, r, c, ()) = some (noThrow, ⟨0, 0⟩, ⟨0, 0⟩, false, ()) := by
    unfold G38 F38
    simp only [es_show]
    rw [r1]
    simp only [Option.bind_some, boxI_is]
    cases b'
    · rfl
    · cases hc : isBx c
      · rfl
      · have hsb : showB s = false := by
          cases hsb : showB s
          · rfl
          · exact absurd ⟨hsb, rfl, hc⟩ hgo
        simp only [Bool.not_true, Bool.not_false, cond_true, cond_false]
        rw [throwsI_none h hsb]
        obtain ⟨p1, p2, _⟩ := r3 rfl
        simp only [Option.bind_some]
        exact wetLI p2 p1 r1 c [] (by simp) _
  simp only [es_show]
  rw [this]; rfl
theorem safeI_no {s : ShowT} (h : ShowOK s) {r : List Place} {c : Box} {b : Bool} (hb : G36 (r, ()) = some (b, ())) (hgo : ¬ (showB s = true ∧ b = true ∧ isBx c = true)) : G17 (s, r, c, ()) = some (false, ()) := by
  unfold G17 F17
  simp only [es_show]
  rw [showI_is s h, hb]
  simp only [Option.bind_some, boxI_is]
  cases hsb : showB s
  · rfl
  · cases b
    · rfl
    · cases hc : isBx c
      · rfl
      · exact absurd ⟨hsb, rfl, hc⟩ hgo
theorem wetT_ne (r : List Place) (a : Throw × Nat) : wetT r a ≠ safeT ∧ wetT r a ≠ noT := by
  unfold wetT safeT noT
  simp
theorem G4_eq (b : List Int) (hw : (∀ d ∈ b, Wf .u8 d) ∧ b.length ≤ maxLen) : G4 (b, ()) = some (true, ()) := by
  unfold G4 F4 G14 F14
  simp only [Option.bind_some]
  by_cases hb : b.length ≤ 4096
  · rw [cond_false_dec (by simp; omega)]
    obtain ⟨⟨s, r, c, u⟩, e, hs, hl⟩ := drawSafety_w hb
    have hs : ShowOK s := hs
    have hl : r.length ≤ 8 := hl
    rw [e]
    obtain ⟨v, r1, r2, r3⟩ := roseI_is r (by omega)
    have hsl := safeLI_is s hs r (by omega) c v r1
    simp only [Option.bind_some, es_show, hsl]
    unfold safeL
    by_cases hgo : showB s = true ∧ v = true ∧ isBx c = true
    · rw [if_pos hgo]
      obtain ⟨hsb, rfl, hc⟩ := hgo
      have hv := showV_of hs hsb
      have hr := roseV_of (by omega) r1
      obtain ⟨C, hC1, hC, hB⟩ := roseBox_is hr
      obtain ⟨z, ez, hiff⟩ := safeI_is hv hr hC hB c
      have hit := hit_safe hv hr hC1 c
      obtain ⟨L, hL⟩ := wetWindI_b hv hr hc
      rw [hL, ez]
      cases hww : wwL s r c with
      | none =>
        have hz : z = true := hiff.2 ⟨hc, hit.1 hww⟩
        subst hz
        rfl
      | some a =>
        have hz : z = false := by
          cases z
          · rfl
          · have := hit.2 (hiff.1 rfl).2
            rw [hww] at this; cases this
        subst hz
        obtain ⟨n1, n2⟩ := wetT_ne r a
        unfold safeT at n1
        unfold noT at n2
        simp only [Option.elim, Option.isSome_some, Option.bind_some, decide_eq_false n1, decide_eq_false n2]
        rfl
    · rw [if_neg hgo, wetWindI_no hs (by omega) r1 hgo, safeI_no hs r1 hgo]
      rfl
  · rw [cond_true_dec (by simp; omega)]
end Ev
namespace Go.Proofs.YtpnlcamcnhpbhaaGreatDoor.fnSafetyLine
open Go.ChangeShapes Go.WideShapes Go.ChangeAt Go.RowKit
open Go.ChangeMaps (open_string shut_string)
theorem own : ownKnob Tryz.prog.godebug = none := by kernel_rfl
theorem laidOut : laidOutB Tryz.prog = true := by kernel_rfl
theorem glob {W : World} (hL : laidMetH Tryz.prog Rows.fnSafetyLineRow.laid W) : Ev.Glob (fun b => b < W.heap.size) W := by
  rw [MakeChecks.laidMetH_plain _ _ _ (by kernel_rfl)] at hL
  have e : (Rows.fnSafetyLineRow.laid.filter fun x => x.1 == "internal/strconv.uint64pow10") = [("internal/strconv.uint64pow10", Go.Lib.tabData .u64 Go.Lib.pow10Tab)] := by kernel_rfl
  have h := hL.filter (fun x => x.1 == "internal/strconv.uint64pow10")
  rw [e] at h
  have ht := Go.Lib.tabIs_of_head (g := 0) (t := 208) (e := 190) (n := 20) (by kernel_rfl) (by kernel_rfl) Tryz.underlying208 Tryz.underlying190 (by kernel_rfl) (by kernel_rfl) h
  have hg : Tryz.prog.globalNamed "internal/strconv.uint64pow10" = some 0 := by kernel_rfl
  unfold Go.Lib.TabIs World.var? at ht
  rw [hg, Option.bind_some] at ht
  intro x hx
  simp only [Ev.GP, List.mem_singleton] at hx
  subst hx
  simp only
  split at ht
  · rename_i cs e r hc
    cases ht
    have h0 : 0 < W.heap.size := by
      rcases Nat.lt_or_ge 0 W.heap.size with h | h
      · exact h
      · rw [Array.getElem?_eq_none h] at hc; cases hc
    exact ⟨h0, _, e, r, hc, rfl⟩
  · cases ht
theorem lifted (os : Os) (started : os.Started) (H : Type) (enc : TypeId × Value → H) :
    ReturnsInHanded {} Tryz.checked os 4 .any (fun w args => (Rows.fnSafetyLineSpec.pre enc Tryz.prog Tryz.f4 Rows.fnSafetyLineRow.domain false w args ∧ laidMetH Tryz.prog Rows.fnSafetyLineRow.laid w) ∧ sizedMet enc Tryz.prog Tryz.f4 (OpenSpec.ofChange Rows.fnSafetyLineSpec) false w args) (Rows.fnSafetyLineSpec.post enc Tryz.prog Tryz.f4 false true false false) := by
  refine returnsInHanded_of_change_and (C := Tryz.checked) (X := fun w _ => laidMetH Tryz.prog Rows.fnSafetyLineRow.laid w) (fun _ _ _ hh h => h.of_heap hh) own started (by kernel_rfl) Tryz.func4
    (ChangeSpec.witness_shaped (enc := enc) (C := Tryz.checked) (os := os) (X := fun w _ => laidMetH Tryz.prog Rows.fnSafetyLineRow.laid w) false (World.laidAll Tryz.prog os Rows.fnSafetyLineRow.laid) #[.slice none 0 0] 8 (World.laidAll_os _ _ _)
      (World.shaped_of_ZipB (by kernel_rfl) (by kernel_rfl)) (by kernel_rfl) (by kernel_rfl) (by kernel_rfl)
      (by rw [MakeChecks.laidMetH_plain _ _ _ (by kernel_rfl)]; exact laidMet_laidAll _ (by kernel_rfl) (by kernel_rfl))) ?_
  intro W base args ds gs before hval0 hW hcnd hsz0 hL _
  have hval : ∀ (j : Nat) t v, Tryz.f4.params[j]? = some t → args[j]? = some v → Value.okWide Tryz.prog W .any base t v := hval0
  have hW' := hW
  obtain ⟨p, q, hA0, hV, rfl, hfz, hnd⟩ := hW
  have hA : DataW.TrodAll enc Tryz.prog W 0 (fun _ => true) true Tryz.f4.params.toList args.toList ds p := hA0
  rw [Tryz.params4] at hA hval
  obtain ⟨v0, vs0, d0, ds0, p0, q0, hargs, rfl, rfl, h0, r0⟩ := trodAll_cons hA
  obtain ⟨rfl, rfl, rfl⟩ := trodAll_nil r0
  obtain rfl : args = #[v0] := by cases args; simp_all
  obtain ⟨rfl, rfl⟩ := trodVars_none hV
  obtain ⟨a0, len0, cap0, rfl⟩ := okWide_slice Tryz.underlying50 (hval 0 50 v0 rfl rfl)
  have k0 := h0
  have lt0 : ∀ x ∈ p0, x.block < W.heap.size := by obtain ⟨m, hm⟩ := k0; exact DataW.trod_lt m _ _ _ hm
  obtain ⟨zs0, hrel0, wf0, ml0⟩ : ∃ l : List (Ev.Ty.den .u8), Ev.RelA (fun _ => none) (fun b => b < W.heap.size) W (.lst .u8 l) (.slice a0 len0 cap0) ∧ (∀ d ∈ l, Ev.Wf .u8 d) ∧ l.length ≤ maxLen := by
    obtain ⟨fuel, hf⟩ := h0
    exact Ev.open_rows (l := [(5, .u8)]) (by kernel_rfl) (by kernel_rfl) hf
  clear hA0 hval0 hsz0
  refine (Ev.calls_true (av := [.lst .u8 zs0]) (out := []) Ev.okG4 (by
    exact Ev.sem_of (ps := Ev.p4) (rs := Ev.r4) (a := (zs0, ())) rfl (Ev.G4_eq zs0 (And.intro wf0 ml0))) (w := W) (ca := #[.slice a0 len0 cap0]) (glob hL) rfl (Ev.args_arr (Ev.argsS (hrel0) Ev.args0))).mono fun e W' ⟨he, bel⟩ => ?_
  subst he
  exact ⟨_, rfl, _, _, _, [], _, [], hW', trodAll_mk1 (shut_bool Tryz.underlying4 _), (trodAll_cons_mk (Below.trod laidOut (by kernel_rfl) (of_decide_eq_true (by kernel_rfl)) k0 bel lt0) trodAll_mk0), rfl, bel.frame _, fun h => by cases h⟩
theorem over : Rows.fnSafetyLineRow.holds Tryz.pinned (OpenSpec.ofChange Rows.fnSafetyLineSpec) :=
  OpenClaim.holds_of_wide 4 Tryz.f4 rfl rfl rfl rfl rfl rfl rfl ⟨rfl, rfl, rfl, rfl, rfl⟩ rfl rfl rfl rfl rfl (by kernel_rfl) Tryz.func4 (by kernel_rfl)
    (of_decide_eq_true (by kernel_rfl)) (by unfold Func.isWrapper; first | (rw [if_pos (by decide +kernel)]; kernel_rfl) | (rw [if_neg (by decide +kernel)]; exact ⟨rfl, rfl⟩))
    (fun os started H enc _ => lifted os started H enc)
theorem proved : Rows.FnSafetyLineCardSaid :=
  Claim7.holds_tied_plain_at .later [] [.data, .data, .data, .data, .pinned] true (true, "eb455140b353b21055947424f9a3ded76a0f1318e01725f3b00b9dda26209b71") false over (fun _ h => by cases h) (by kernel_rfl) (fun _ h => by cases h) fnSafetyLine_row_tie rfl ⟨rfl, rfl⟩ (by kernel_rfl) rfl
    (fun f fn hf hfn => by
      obtain rfl : f = 4 := Option.some.inj ((show Tryz.prog.funcNamed "loop.example/g03017/laws.FnSafetyLine" = some 4 by kernel_rfl).symm.trans hf) |>.symm
      obtain rfl : fn = Tryz.f4 := (Option.some.inj (Tryz.func4.symm.trans hfn)).symm
      exact ⟨by kernel_rfl, fun j t ht => by
        rw [Tryz.params4] at ht
        have hm : t ∈ [50] := by simpa using Array.mem_of_getElem? ht
        have hall : ([50].all fun u => !Tryz.prog.wantsStandIn u) = true := by kernel_rfl
        exact (show Tryz.prog.wantsStandIn t = false by simpa using List.all_eq_true.1 hall t hm)⟩)
    (by kernel_rfl)
#print axioms proved
end Go.Proofs.YtpnlcamcnhpbhaaGreatDoor.fnSafetyLine
