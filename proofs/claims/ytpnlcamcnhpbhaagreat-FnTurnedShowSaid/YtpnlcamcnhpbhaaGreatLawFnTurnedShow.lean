/- A drawn show that is turned throws and lands the same drops, turned: on no condition. -/
import Derived.Test.YtpnlcamcnhpbhaaGreatRows
import Derived.Test.YtpnlcamcnhpbhaaGreatTurnI
import Derived.Test.YtpnlcamcnhpbhaaGreatAnyShow
import Derived.Test.YtpnlcamcnhpbhaaGreatPureA
import Derived.WalkKit
import Derived.ProofKit
import Derived.OpenShut
import Derived.ShutString
import Derived.ChangeOld
import Derived.Below
import Derived.SizedLaws
set_option linter.unusedVariables false
set_option linter.unusedSimpArgs false
set_option maxRecDepth 100000
namespace Ev
open Go
theorem land_memT {w : List Gust} {d : Drop} : ∀ (l : List Throw) (a : List Drop), d ∈ l.foldl (allF w) a → d ∈ a ∨ ∃ x ∈ l, d = dropV w x (fl x.jet).toNat
  | [], a, h => .inl h
  | y :: l, a, h => by
    rw [List.foldl_cons] at h
    rcases land_memT l _ h with h | ⟨x, hx, e⟩
    · unfold allF at h
      rcases List.mem_append.mp h with h | h
      · exact .inl h
      · rw [List.mem_singleton] at h
        exact .inr ⟨y, by simp, h⟩
    · exact .inr ⟨x, by simp [hx], e⟩
theorem drop_sm {s : ShowT} (hv : ShowV s) {t : Int} {d : Drop} (hd : d ∈ nowL s t ++ landL s) : Sm 1816 d.At := by
  have hw := wind_sm (wind_p hv)
  rcases List.mem_append.mp hd with h | h
  · obtain ⟨x, hx, n, _, hn, e⟩ := now_mem h
    rw [e, (drop_at hw (throws_fly hv hx) (n := n) (by omega)).1]
    exact (drop_at hw (throws_fly hv hx) (n := n) (by omega)).2
  · rcases land_memT (throwsL s) [] h with h0 | ⟨x, hx, e⟩
    · cases h0
    · have hb := fl_bound x.jet
      rw [e, (drop_at hw (throws_fly hv hx) (n := (fl x.jet).toNat) (by omega)).1]
      exact (drop_at hw (throws_fly hv hx) (n := (fl x.jet).toNat) (by omega)).2
theorem turnPl {p : Place} (hp : Sm 1816 p) (n : Int) : G14 (p, n, ()) = some (rt (q4 n) p, ()) := by
  have q1 : G43 (p, ()) = some (isPl p, ()) := placeI p
  have p1 : isPl p = true := by
    unfold isPl
    rw [wi_of (by have := hp.1; omega) (by have := hp.1; omega), wi_of (by have := hp.2; omega) (by have := hp.2; omega)]; rfl
  have q2 : G44 (p, n, ()) = some (rotN (q4 n) p, ()) := turnI' p n
  unfold G14 F14
  simp only [q1, p1, q2, Option.bind_some, Bool.not_true, cond_false]
  rw [rot_rt (m := 1816) (by omega) hp (q4_lt n)]
theorem G3_eq (b : List Int) (hw : (∀ d ∈ b, Wf .u8 d) ∧ b.length ≤ maxLen) : G3 (b, ()) = some (true, ()) := by
  unfold G3 F3 G6 F6
  simp only [Option.bind_some]
  by_cases hb : b.length ≤ 4096
  · rw [cond_false_dec (by simp; omega)]
    obtain ⟨⟨s, t, u⟩, e, hv, h1, ht0, ht1⟩ := drawShow_w hb
    have hv : ShowV s := hv
    obtain ⟨⟨s2, n, u2⟩, e2, _⟩ := drawTurn_w hb
    rw [e, e2]
    have hv' := turned_valid hv n
    obtain ⟨d1, d2⟩ := turned_drops hv n t
    have hl0 := nowL_len hv t
    have hl2 : (landL s).length ≤ 512 := by rw [landL_len]; exact throwsL_len hv
    simp only [Option.bind_some, es_show, turnShowT hv n, showI_true3 hv', nowI_is hv, nowI_is hv', landI_is hv, landI_is hv', d1, d2, waterI_is hv, waterI_is hv', Bool.not_true, Bool.not_false, cond_true, cond_false]
    rw [capK_le (by omega), capK_le (by simp; omega), ← List.map_append, decide_eq_true (by simp)]
    have hwt : ∀ z, waterAt (mvS n s) z = waterAt s z := turned_water hv n
    have htk : (mvS n s).2.2.2.1 = s.2.2.2.1 := rfl
    simp only [htk, hwt, decide_true, Bool.not_true, Bool.not_false, cond_true, cond_false]
    have hsm : ∀ d ∈ nowL s t ++ landL s, Sm 1816 d.At := fun d hd => drop_sm hv hd
    have hLl : (nowL s t ++ landL s).length ≤ 1024 := by simp; omega
    generalize nowL s t ++ landL s = L at hsm hLl
    refine (iterF_for (f := s3_0 G6 G7 G8 G9 G10 G11 G12 G13 G14) (fun i => (n, L, L.map (mvO (rt (q4 n))), (i : Int), ())) L.length (by omega) ?_ ?_).trans rfl
    · intro i hi rec K
      have hx : L[i]? = some L[i] := by simp
      have hx' := fun (K : Drop → Option (Bool × Unit)) => rdL_at (K := K) hx
      have hz : (L.map (mvO (rt (q4 n))))[i]? = some (mvO (rt (q4 n)) L[i]) := by rw [List.getElem?_map, hx]; rfl
      have hz' := fun (K : Drop → Option (Bool × Unit)) => rdL_at (K := K) hz
      have e1 : w64 ((i : Int) + 1) = ((i + 1 : Nat) : Int) := w64_id (by omega) (by omega)
      have hp := turnPl (hsm L[i] (by simp)) n
      simp only [s3_0]
      rw [cond_true_dec (by simp; omega)]
      simp only [hx', hx, hz', hz, Int.toNat_natCast, Option.bind_some, e1, hp, mvO, decide_true, Bool.and_self, Bool.not_true, cond_false]
    · intro rec K
      simp only [s3_0]
      rw [cond_false_dec (by simp)]
  · rw [cond_true_dec (by simp; omega)]
end Ev
namespace Go.Proofs.YtpnlcamcnhpbhaaGreat.fnTurnedShow
open Go.ChangeShapes Go.WideShapes Go.ChangeAt Go.RowKit
open Go.ChangeMaps (open_string shut_string)
theorem own : ownKnob Tryz.prog.godebug = none := by kernel_rfl
theorem laidOut : laidOutB Tryz.prog = true := by kernel_rfl
theorem lifted (os : Os) (started : os.Started) (H : Type) (enc : TypeId × Value → H) :
    ReturnsInHanded {} Tryz.checked os 3 .any (Rows.fnTurnedShowSpec.pre6 enc Tryz.prog Tryz.f3 Rows.fnTurnedShowRow.domain false) (Rows.fnTurnedShowSpec.post enc Tryz.prog Tryz.f3 false true false false) := by
  refine returnsInHanded_of_change_sized (C := Tryz.checked) own started (by kernel_rfl) Tryz.func3
    (ChangeSpec.witness6 (enc := enc) (C := Tryz.checked) false ⟨#[], #[.slice none 0 0], []⟩ 8 (by kernel_rfl) (by kernel_rfl) (by kernel_rfl) (by kernel_rfl)) ?_
  intro W base args ds gs before hval0 hW hcnd hsz0 _
  have hval : ∀ (j : Nat) t v, Tryz.f3.params[j]? = some t → args[j]? = some v → Value.okWide Tryz.prog W .any base t v := hval0
  have hW' := hW
  obtain ⟨p, q, hA0, hV, rfl, hfz, hnd⟩ := hW
  have hA : DataW.TrodAll enc Tryz.prog W 0 (fun _ => true) true Tryz.f3.params.toList args.toList ds p := hA0
  rw [Tryz.params3] at hA hval
  obtain ⟨v0, vs0, d0, ds0, p0, q0, hargs, rfl, rfl, h0, r0⟩ := trodAll_cons hA
  obtain ⟨rfl, rfl, rfl⟩ := trodAll_nil r0
  obtain rfl : args = #[v0] := by cases args; simp_all
  obtain ⟨rfl, rfl⟩ := trodVars_none hV
  obtain ⟨a0, len0, cap0, rfl⟩ := okWide_slice Tryz.underlying22 (hval 0 22 v0 rfl rfl)
  have k0 := h0
  have lt0 : ∀ x ∈ p0, x.block < W.heap.size := by obtain ⟨m, hm⟩ := k0; exact DataW.trod_lt m _ _ _ hm
  obtain ⟨zs0, hrel0, wf0, ml0⟩ : ∃ l : List (Ev.Ty.den .u8), Ev.RelA (fun _ => none) (fun b => b < W.heap.size) W (.lst .u8 l) (.slice a0 len0 cap0) ∧ (∀ d ∈ l, Ev.Wf .u8 d) ∧ l.length ≤ maxLen := by
    obtain ⟨fuel, hf⟩ := h0
    exact Ev.open_rows (l := [(5, .u8)]) (by kernel_rfl) (by kernel_rfl) hf
  clear hA0 hval0 hsz0
  refine (Ev.calls_true (av := [.lst .u8 zs0]) (out := []) Ev.okG3 (by
    exact Ev.sem_of (ps := Ev.p3) (rs := Ev.r3) (a := (zs0, ())) rfl (Ev.G3_eq zs0 (And.intro wf0 ml0))) (w := W) (ca := #[.slice a0 len0 cap0]) (fun x hx => absurd (show x ∈ ([] : List (Nat × (Array Value → Prop))) from hx) (by simp)) rfl (Ev.args_arr (Ev.argsS (hrel0) Ev.args0))).mono fun e W' ⟨he, bel⟩ => ?_
  subst he
  exact ⟨_, rfl, _, _, _, [], _, [], hW', trodAll_mk1 (shut_bool Tryz.underlying4 _), (trodAll_cons_mk (Below.trod laidOut (by kernel_rfl) (of_decide_eq_true (by kernel_rfl)) k0 bel lt0) trodAll_mk0), rfl, bel.frame _, fun h => by cases h⟩
theorem over : Rows.fnTurnedShowRow.holds Tryz.pinned (OpenSpec.ofChange Rows.fnTurnedShowSpec) :=
  OpenClaim.holds_of_wide 3 Tryz.f3 rfl rfl rfl rfl rfl rfl rfl ⟨rfl, rfl, rfl, rfl, rfl⟩ rfl rfl rfl rfl rfl (by kernel_rfl) Tryz.func3 (by kernel_rfl)
    (of_decide_eq_true (by kernel_rfl)) (by unfold Func.isWrapper; first | (rw [if_pos (by decide +kernel)]; kernel_rfl) | (rw [if_neg (by decide +kernel)]; exact ⟨rfl, rfl⟩))
    (fun os started H enc _ => lifted os started H enc)
theorem proved : Rows.FnTurnedShowSaid := over
#print axioms proved
end Go.Proofs.YtpnlcamcnhpbhaaGreat.fnTurnedShow
