/- A show keeps dry exactly if no drop has landed outside, and so does it around each greater basin: on no condition. -/
import Derived.Test.YtpnlcamcnhpbhaaGreatRows
import Derived.Test.YtpnlcamcnhpbhaaGreatDryD
import Derived.Test.YtpnlcamcnhpbhaaGreatPureA
import Derived.WalkKit
import Derived.ProofKit
import Derived.OpenShut
import Derived.ShutString
import Derived.ChangeOld
import Derived.Below
import Derived.SizedLaws
set_option linter.unusedVariables false
set_option linter.unusedSimpArgs false
set_option maxRecDepth 100000
namespace Ev
open Go
theorem plusD_is (p q : Place) : G21 (p, q, ()) = some (plus p q, ()) := rfl
theorem dry_no {s : ShowT} (hs : ShowOK s) {c : Box} (h : showB s = false ∨ isBx c = false) : G18 (s, c, ()) = some (false, ()) := by
  unfold G18 F18
  simp only [es_show]
  rw [showI_is s hs]
  simp only [Option.bind_some, boxI_is]
  cases hb : showB s
  · rfl
  · rcases h with h | h
    · rw [hb] at h; cases h
    · rw [h]; rfl
theorem G4_eq (b : List Int) (hw : (∀ d ∈ b, Wf .u8 d) ∧ b.length ≤ maxLen) : G4 (b, ()) = some (true, ()) := by
  unfold G4 F4 G6 F6
  simp only [Option.bind_some]
  by_cases hb : b.length ≤ 4096
  · rw [cond_false_dec (by simp; omega)]
    obtain ⟨⟨s, c, u⟩, e, hs⟩ := drawDry_w hb
    have hs : ShowOK s := hs
    rw [e]
    simp only [Option.bind_some, es_show, showI_is s hs, showS_is s hs, decide_true, Bool.not_true, cond_false]
    cases hsb : showB s
    · simp only [dry_no hs (.inl hsb), Option.bind_some]
      rfl
    · have hv := showV_of hs hsb
      simp only [Bool.not_true, Bool.not_false, cond_true, boxI_is, Option.bind_some]
      cases hc : isBx c
      · simp only [dry_no hs (.inr hc), Option.bind_some]
        rfl
      · simp only [Bool.not_true, cond_false, wetD_is hv hc, Option.bind_some]
        have hWl := wetL_len c (landL s)
        have hl : (landL s).length ≤ 512 := by rw [landL_len]; exact throwsL_len hv
        have hall : ∀ d ∈ wetL c (landL s), inBx c d.At = false := by
          unfold wetL
          rw [if_pos hc]
          exact wet_mem c (landL s) [] (fun d hd => by cases hd)
        have hlen : decide (Int.ofNat (wetL c (landL s)).length = 0) = dryB c (landL s) := by
          unfold wetL
          rw [if_pos hc]
          have hw := wet_nil c (landL s) []
          unfold dryB
          rw [Bool.eq_iff_iff, decide_eq_true_eq]
          simp only [true_and] at hw
          rw [← hw]; simp
        have hd1 := dry_is hv c hc
        generalize wetL c (landL s) = W at hWl hall hlen
        refine (iterF_for (f := s4_0 G6 G15 G12 G16 G17 G18 G19 G20 G21) (fun i => (s, c, W, (i : Int), ())) W.length (by omega) ?_ ?_).trans ?_
        · intro i hi rec K
          have hx : W[i]? = some W[i] := by simp
          have hx' := fun (K : Drop → Option (Bool × Unit)) => rdL_at (K := K) hx
          have e1 : w64 ((i : Int) + 1) = ((i + 1 : Nat) : Int) := w64_id (by omega) (by omega)
          simp only [s4_0, es_show]
          rw [cond_true_dec (by simp; omega)]
          simp only [hx', hx, Int.toNat_natCast, Option.bind_some, inI_is, hall W[i] (by simp), cond_false, e1]
        · intro rec K
          simp only [s4_0, es_show]
          rw [cond_false_dec (by simp)]
        · simp only [es_show, plusD_is, Option.bind_some, hd1, hlen, decide_true, cond_true]
          cases hdr : dryB c (landL s)
          · rfl
          · simp only [Bool.not_true, Bool.not_false, cond_true, boxI_is, Option.bind_some]
            have hcb := hc
            unfold isBx isPl at hcb
            simp only [Bool.and_eq_true, wi_true, decide_eq_true_eq] at hcb
            have a1 : w64 (c.Low.X + -1) = c.Low.X - 1 := by rw [w64_id (by omega) (by omega)]; omega
            have a2 : w64 (c.Low.Y + -2) = c.Low.Y - 2 := by rw [w64_id (by omega) (by omega)]; omega
            have a3 : w64 (c.High.X + 3) = c.High.X + 3 := w64_id (by omega) (by omega)
            have a4 : w64 (c.High.Y + 0) = c.High.Y := by rw [w64_id (by omega) (by omega)]; omega
            simp only [plus, a1, a2, a3, a4]
            cases hg : isBx ⟨⟨c.Low.X - 1, c.Low.Y - 2⟩, ⟨c.High.X + 3, c.High.Y⟩⟩
            · rfl
            · simp only [Bool.not_true, Bool.not_false, cond_true, dry_is hv _ hg, Option.bind_some]
              have : dryB ⟨⟨c.Low.X - 1, c.Low.Y - 2⟩, ⟨c.High.X + 3, c.High.Y⟩⟩ (landL s) = true := by
                unfold dryB at hdr ⊢
                rw [List.all_eq_true] at hdr ⊢
                intro d hd
                have h1 := (inBx_iff hc d.At).1 (hdr d hd)
                refine (inBx_iff hg d.At).2 ?_
                unfold InP at h1 ⊢
                simp only
                omega
              rw [this]
  · rw [cond_true_dec (by simp; omega)]
end Ev
namespace Go.Proofs.YtpnlcamcnhpbhaaGreat.fnDryShow
open Go.ChangeShapes Go.WideShapes Go.ChangeAt Go.RowKit
open Go.ChangeMaps (open_string shut_string)
theorem own : ownKnob Tryz.prog.godebug = none := by kernel_rfl
theorem laidOut : laidOutB Tryz.prog = true := by kernel_rfl
theorem lifted (os : Os) (started : os.Started) (H : Type) (enc : TypeId × Value → H) :
    ReturnsInHanded {} Tryz.checked os 4 .any (Rows.fnDryShowSpec.pre6 enc Tryz.prog Tryz.f4 Rows.fnDryShowRow.domain false) (Rows.fnDryShowSpec.post enc Tryz.prog Tryz.f4 false true false false) := by
  refine returnsInHanded_of_change_sized (C := Tryz.checked) own started (by kernel_rfl) Tryz.func4
    (ChangeSpec.witness6 (enc := enc) (C := Tryz.checked) false ⟨#[], #[.slice none 0 0], []⟩ 8 (by kernel_rfl) (by kernel_rfl) (by kernel_rfl) (by kernel_rfl)) ?_
  intro W base args ds gs before hval0 hW hcnd hsz0 _
  have hval : ∀ (j : Nat) t v, Tryz.f4.params[j]? = some t → args[j]? = some v → Value.okWide Tryz.prog W .any base t v := hval0
  have hW' := hW
  obtain ⟨p, q, hA0, hV, rfl, hfz, hnd⟩ := hW
  have hA : DataW.TrodAll enc Tryz.prog W 0 (fun _ => true) true Tryz.f4.params.toList args.toList ds p := hA0
  rw [Tryz.params4] at hA hval
  obtain ⟨v0, vs0, d0, ds0, p0, q0, hargs, rfl, rfl, h0, r0⟩ := trodAll_cons hA
  obtain ⟨rfl, rfl, rfl⟩ := trodAll_nil r0
  obtain rfl : args = #[v0] := by cases args; simp_all
  obtain ⟨rfl, rfl⟩ := trodVars_none hV
  obtain ⟨a0, len0, cap0, rfl⟩ := okWide_slice Tryz.underlying22 (hval 0 22 v0 rfl rfl)
  have k0 := h0
  have lt0 : ∀ x ∈ p0, x.block < W.heap.size := by obtain ⟨m, hm⟩ := k0; exact DataW.trod_lt m _ _ _ hm
  obtain ⟨zs0, hrel0, wf0, ml0⟩ : ∃ l : List (Ev.Ty.den .u8), Ev.RelA (fun _ => none) (fun b => b < W.heap.size) W (.lst .u8 l) (.slice a0 len0 cap0) ∧ (∀ d ∈ l, Ev.Wf .u8 d) ∧ l.length ≤ maxLen := by
    obtain ⟨fuel, hf⟩ := h0
    exact Ev.open_rows (l := [(5, .u8)]) (by kernel_rfl) (by kernel_rfl) hf
  clear hA0 hval0 hsz0
  refine (Ev.calls_true (av := [.lst .u8 zs0]) (out := []) Ev.okG4 (by
    exact Ev.sem_of (ps := Ev.p4) (rs := Ev.r4) (a := (zs0, ())) rfl (Ev.G4_eq zs0 (And.intro wf0 ml0))) (w := W) (ca := #[.slice a0 len0 cap0]) (fun x hx => absurd (show x ∈ ([] : List (Nat × (Array Value → Prop))) from hx) (by simp)) rfl (Ev.args_arr (Ev.argsS (hrel0) Ev.args0))).mono fun e W' ⟨he, bel⟩ => ?_
  subst he
  exact ⟨_, rfl, _, _, _, [], _, [], hW', trodAll_mk1 (shut_bool Tryz.underlying4 _), (trodAll_cons_mk (Below.trod laidOut (by kernel_rfl) (of_decide_eq_true (by kernel_rfl)) k0 bel lt0) trodAll_mk0), rfl, bel.frame _, fun h => by cases h⟩
theorem over : Rows.fnDryShowRow.holds Tryz.pinned (OpenSpec.ofChange Rows.fnDryShowSpec) :=
  OpenClaim.holds_of_wide 4 Tryz.f4 rfl rfl rfl rfl rfl rfl rfl ⟨rfl, rfl, rfl, rfl, rfl⟩ rfl rfl rfl rfl rfl (by kernel_rfl) Tryz.func4 (by kernel_rfl)
    (of_decide_eq_true (by kernel_rfl)) (by unfold Func.isWrapper; first | (rw [if_pos (by decide +kernel)]; kernel_rfl) | (rw [if_neg (by decide +kernel)]; exact ⟨rfl, rfl⟩))
    (fun os started H enc _ => lifted os started H enc)
theorem proved : Rows.FnDryShowSaid := over
#print axioms proved
end Go.Proofs.YtpnlcamcnhpbhaaGreat.fnDryShow
