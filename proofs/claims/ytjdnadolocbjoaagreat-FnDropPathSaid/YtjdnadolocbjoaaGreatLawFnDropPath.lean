/- From tick to tick a drop goes by its tilt and by the drift, and lands so: on no condition. -/
import Derived.Test.YtjdnadolocbjoaaGreatRows
import Derived.Test.YtjdnadolocbjoaaGreatDrawA
import Derived.Test.YtjdnadolocbjoaaGreatPureA
import Derived.WalkKit
import Derived.ProofKit
import Derived.OpenShut
import Derived.ShutString
import Derived.ChangeOld
import Derived.Below
import Derived.SizedLaws
set_option linter.unusedVariables false
set_option linter.unusedSimpArgs false
set_option maxRecDepth 100000
namespace Ev
open Go
theorem now_of {w : List Gust} {t : Int} {x : Throw} (hb : x.born ≤ t) (hf : t < x.born + fl x.jet) : ∀ (l : List Throw) (a : List Drop), (dropV w x (t - x.born).toNat ∈ a ∨ x ∈ l) → dropV w x (t - x.born).toNat ∈ l.foldl (nowF w t) a
  | [], a, h => by
    rcases h with h | h
    · exact h
    · cases h
  | y :: l, a, h => by
    rw [List.foldl_cons]
    refine now_of hb hf l _ ?_
    rcases h with h | h
    · left
      unfold nowF
      split
      · exact List.mem_append_left _ h
      · exact h
    · rcases List.mem_cons.mp h with rfl | h
      · left
        unfold nowF
        rw [if_pos ⟨hb, hf⟩]
        simp
      · exact .inr h
theorem land_of {w : List Gust} {x : Throw} : ∀ (l : List Throw) (a : List Drop), (dropV w x (fl x.jet).toNat ∈ a ∨ x ∈ l) → dropV w x (fl x.jet).toNat ∈ l.foldl (allF w) a
  | [], a, h => by
    rcases h with h | h
    · exact h
    · cases h
  | y :: l, a, h => by
    rw [List.foldl_cons]
    refine land_of l _ ?_
    unfold allF
    rcases h with h | h
    · exact .inl (List.mem_append_left _ h)
    · rcases List.mem_cons.mp h with rfl | h
      · exact .inl (by simp)
      · exact .inr h
theorem land_mem {w : List Gust} {d : Drop} : ∀ (l : List Throw) (a : List Drop), d ∈ l.foldl (allF w) a → d ∈ a ∨ ∃ x ∈ l, d = dropV w x (fl x.jet).toNat
  | [], a, h => .inl h
  | y :: l, a, h => by
    rw [List.foldl_cons] at h
    rcases land_mem l _ h with h | ⟨x, hx, e⟩
    · unfold allF at h
      rcases List.mem_append.mp h with h | h
      · exact .inl h
      · rw [List.mem_singleton] at h
        exact .inr ⟨y, by simp, h⟩
    · exact .inr ⟨x, by simp [hx], e⟩
theorem throws_uniq {s : ShowT} (h : ShowV s) {x y : Throw} (hx : x ∈ throwsL s) (hy : y ∈ throwsL s) (hn : x.name = y.name) (hb : x.born = y.born) : x = y := by
  obtain ⟨_, _, i, d, hd, _, n1, j1, l1, _⟩ := throws_mem h hx
  obtain ⟨_, _, i', d', hd', _, n2, j2, l2, _⟩ := throws_mem h hy
  have e := rig_uniq h.rig hd hd' (by rw [← n1, ← n2, hn])
  subst e
  rw [hd] at hd'; cases hd'
  rw [← hb, l1] at l2
  have hl := Option.some.inj l2
  have hj : x.jet = y.jet := by rw [j1, j2, hl]
  cases x; cases y
  simp only at hn hb hj
  subst hn hb hj
  rfl
theorem step_zero {j : Jet} (J : JetOK j) : G43 ((⟨0, 0⟩ : Place), j.Heading, j.Tilt, ()) = some (rt j.Heading.toNat ⟨j.Tilt, 0⟩, true, ()) := by
  have hk : j.Heading.toNat < 4 := by have := J.h; omega
  have hh : (j.Heading.toNat : Int) = j.Heading := by have := J.h; omega
  have hs : Sm 16 ⟨j.Tilt, 0⟩ := ⟨⟨by have := J.t; simp only; omega, by have := J.t; simp only; omega⟩, by simp only; omega, by simp only; omega⟩
  have ht := turnI ⟨j.Tilt, 0⟩ j.Heading.toNat hk
  rw [hh] at ht
  have ht : G83 (⟨j.Tilt, 0⟩, j.Heading, ()) = some (rotN j.Heading.toNat ⟨j.Tilt, 0⟩, ()) := ht
  have hr := rot_rt (m := 16) (by omega) hs hk
  have hrs := rt_sm hs j.Heading.toNat
  have q1 : G92 ((⟨0, 0⟩ : Place), ()) = some (isPl ⟨0, 0⟩, ()) := placeI _
  have q2 : G95 (j.Heading, ()) = some (wi j.Heading 0 3, ()) := headI _
  have q3 : G96 (j.Tilt, ()) = some (wi j.Tilt (-4096) 4096, ()) := measI _
  have p1 : isPl ⟨0, 0⟩ = true := by decide
  have p2 : wi j.Heading 0 3 = true := wi_of J.h.1 J.h.2
  have p3 : wi j.Tilt (-4096) 4096 = true := wi_of (by have := J.t; omega) (by have := J.t; omega)
  have e0 : (⟨w64 (0 + (rt j.Heading.toNat ⟨j.Tilt, 0⟩).X), w64 (0 + (rt j.Heading.toNat ⟨j.Tilt, 0⟩).Y)⟩ : Place) = rt j.Heading.toNat ⟨j.Tilt, 0⟩ :=
    place_ext (by simp only; rw [w64_id (by have := hrs.1; omega) (by have := hrs.1; omega)]; omega) (by simp only; rw [w64_id (by have := hrs.2; omega) (by have := hrs.2; omega)]; omega)
  have p5 : G97 (rt j.Heading.toNat ⟨j.Tilt, 0⟩, ()) = some (rt j.Heading.toNat ⟨j.Tilt, 0⟩, true, ()) := by
    have hp : G92 (rt j.Heading.toNat ⟨j.Tilt, 0⟩, ()) = some (isPl (rt j.Heading.toNat ⟨j.Tilt, 0⟩), ()) := placeI _
    have p4 : isPl (rt j.Heading.toNat ⟨j.Tilt, 0⟩) = true := by
      unfold isPl
      rw [wi_of (by have := hrs.1; omega) (by have := hrs.1; omega), wi_of (by have := hrs.2; omega) (by have := hrs.2; omega)]; rfl
    unfold G97 F97
    simp only [hp, p4, Option.bind_some]
    rfl
  unfold G43 F43
  simp only [q1, q2, q3, p1, p2, p3, ht, hr, Option.bind_some, Bool.not_true, Bool.not_false, cond_true, cond_false]
  rw [e0, p5]
  rfl
theorem pN_next (j : Jet) (n : Int) : pN j (n + 1) = add (pN j n) (rt j.Heading.toNat ⟨j.Tilt, 0⟩) := by
  unfold pN
  have e : (⟨(n + 1) * j.Tilt, 0⟩ : Place) = add ⟨n * j.Tilt, 0⟩ ⟨j.Tilt, 0⟩ := place_ext (by simp only [add]; rw [Int.add_mul, Int.one_mul]) (by simp only [add]; omega)
  rw [e, rt_add]
  unfold add
  exact place_ext (by simp only; omega) (by simp only; omega)
/-- Where a drop is a tick later. -/
theorem path_next {w : List Gust} (hw : WdSm w) {x : Throw} (h : FliesP x) {n : Nat} (hn : (n : Int) < fl x.jet) :
    (dropV w x (n + 1)).At = plus (plus (dropV w x n).At (rt x.jet.Heading.toNat ⟨x.jet.Tilt, 0⟩)) (drL w (x.born + (n : Int))) := by
  have J := jet_ok h.jet
  obtain ⟨a1, a2⟩ := drop_at hw h (n := n) (by omega)
  obtain ⟨b1, b2⟩ := drop_at hw h (n := n + 1) (by omega)
  have hs : Sm 16 ⟨x.jet.Tilt, 0⟩ := ⟨⟨by have := J.t; simp only; omega, by have := J.t; simp only; omega⟩, by simp only; omega, by simp only; omega⟩
  have hr := rt_sm hs x.jet.Heading.toNat
  rw [a1, b1]
  simp only
  rw [plus_add (m := 1816) (n := 16) (by omega) a2 hr, plus_add (m := 1816 + 16) (n := 8) (by omega) (add_sm a2 hr) (drL_sm hw _)]
  rw [show ((n + 1 : Nat) : Int) = (n : Int) + 1 by omega, pN_next]
  show add _ (add (dS w x.born n) (drL w (x.born + (n : Int)))) = _
  unfold add
  exact place_ext (by simp only; omega) (by simp only; omega)
theorem wp_true {o : Option (Bool × Unit)} (h : wp o (fun r => r.1 = true)) : o = some (true, ()) := by
  obtain ⟨⟨r, u⟩, e, hr⟩ := h
  rw [e, show r = true from hr]
theorem plusL_is (p q : Place) : G22 (p, q, ()) = some (plus p q, ()) := rfl
theorem G7_eq (b : List Int) (hw : (∀ d ∈ b, Wf .u8 d) ∧ b.length ≤ maxLen) : G7 (b, ()) = some (true, ()) := by
  unfold G7 F7 G14 F14
  simp only [Option.bind_some]
  by_cases hb : b.length ≤ 4096
  · rw [cond_false_dec (by simp; omega)]
    obtain ⟨⟨s, t, u⟩, e, hv, h1, ht0, ht1⟩ := drawShow_w hb
    have hv : ShowV s := hv
    have ht0 : 0 ≤ t := ht0
    have ht1 : t < 30 := ht1
    rw [e]
    obtain ⟨hwv, hwl⟩ := wind_v hv
    have hsm := wind_sm (wind_p hv)
    have hl0 := nowL_len hv t
    have hl1 := nowL_len hv (t + 1)
    have hl2 : (landL s).length ≤ 512 := by rw [landL_len]; exact throwsL_len hv
    have et : w64 (t + 1) = t + 1 := w64_id (by omega) (by omega)
    simp only [Option.bind_some, es_show, nowI_is hv, nowS_is hv, landI_is hv, et, decide_true, Bool.not_true, cond_false]
    rw [capK_le (by omega)]
    generalize hnx : nowL s (t + 1) ++ landL s = next
    have hnl : next.length ≤ 1024 := by rw [← hnx]; simp; omega
    refine wp_true (wp_iter (nowL s t).length (fun j st => ∃ i : Nat, st = (s, t, nowL s t, next, (i : Int), ()) ∧ i + j = (nowL s t).length) (by omega) ⟨0, rfl, by omega⟩ ?_)
    rintro j _ ⟨i, rfl, hij⟩ rec hrec
    simp only [s7_0, es_show]
    by_cases hi : i < (nowL s t).length
    · rw [cond_true_dec (by simp; omega)]
      have hx : (nowL s t)[i]? = some (nowL s t)[i] := by simp
      have hx' := fun (K : Drop → Option (Bool × Unit)) => rdL_at (K := K) hx
      have e1 : w64 ((i : Int) + 1) = ((i + 1 : Nat) : Int) := w64_id (by omega) (by omega)
      obtain ⟨x, hxm, n, htn, hnf, hD⟩ := now_mem (show (nowL s t)[i] ∈ nowL s t by simp)
      have fx := throws_fly hv hxm
      have J := jet_ok fx.jet
      have hf2 := fl_two hv hxm
      have hbx := fx.born
      generalize hDD : (nowL s t)[i] = D at hx hx' hD
      have hFrom : D.From = x.name := by rw [hD]; rfl
      have hBorn : D.Born = x.born := by rw [hD]; rfl
      have hjet := jet_throw hv hxm
      simp only [hx', hx, Int.toNat_natCast, Option.bind_some, hFrom, hBorn, jetAtI_is hv, hjet, Option.getD_some, Option.isSome_some, step_zero J, plusL_is]
      rw [driftAt_is s.2.2.1 hwl hwv]
      simp only [Option.bind_some]
      have hto : plus (plus D.At (rt x.jet.Heading.toNat ⟨x.jet.Tilt, 0⟩)) (drL s.2.2.1 t) = (dropV s.2.2.1 x (n + 1)).At := by
        rw [path_next hsm fx hnf, hD, htn]
      rw [hto]
      have hit : ∀ (k : Nat) d, next[k]? = some d → d.From = x.name → d.Born = x.born → (∀ (m : Nat) d', m < k → next[m]? = some d' → ¬ (d'.From = x.name ∧ d'.Born = x.born)) → d = dropV s.2.2.1 x (n + 1) := by
        intro k d hk hF hB hno
        rw [← hnx] at hk hno
        by_cases hka : k < (nowL s (t + 1)).length
        · rw [List.getElem?_append_left hka] at hk
          obtain ⟨y, hy, m, hm1, hm2, hd⟩ := now_mem (mem_at hk)
          have hyx := throws_uniq hv hy hxm (by rw [hd] at hF; exact hF) (by rw [hd] at hB; exact hB)
          subst hyx
          have : m = n + 1 := by omega
          rw [hd, this]
        · rw [List.getElem?_append_right (by omega)] at hk
          rcases land_mem (throwsL s) [] (show d ∈ landL s from mem_at hk) with h0 | ⟨y, hy, hd⟩
          · cases h0
          · have hyx := throws_uniq hv hy hxm (by rw [hd] at hF; exact hF) (by rw [hd] at hB; exact hB)
            subst hyx
            by_cases hlt : (n : Int) + 1 < fl y.jet
            · exfalso
              have hin : dropV s.2.2.1 y (t + 1 - y.born).toNat ∈ nowL s (t + 1) := now_of (by omega) (by omega) (throwsL s) [] (.inr hxm)
              obtain ⟨m, hm⟩ := List.mem_iff_getElem?.mp hin
              have hml := (List.getElem?_eq_some_iff.mp hm).1
              exact hno m (dropV s.2.2.1 y (t + 1 - y.born).toNat) (by omega) (by rw [List.getElem?_append_left hml]; exact hm) ⟨rfl, rfl⟩
            · rw [hd]
              congr 1
              omega
      have hex : ∃ (k : Nat) (d : Drop), next[k]? = some d ∧ d.From = x.name ∧ d.Born = x.born := by
        have hin : dropV s.2.2.1 x (fl x.jet).toNat ∈ landL s := land_of (throwsL s) [] (.inr hxm)
        obtain ⟨m, hm⟩ := List.mem_iff_getElem?.mp hin
        refine ⟨(nowL s (t + 1)).length + m, dropV s.2.2.1 x (fl x.jet).toNat, ?_, rfl, rfl⟩
        rw [← hnx, List.getElem?_append_right (by omega)]
        rw [show (nowL s (t + 1)).length + m - (nowL s (t + 1)).length = m by omega]; exact hm
      refine wp_loop next.length (fun j' st => ∃ (k : Nat) (fd : Bool), st = (s, t, nowL s t, next, (i : Int), x.jet, true, (dropV s.2.2.1 x (n + 1)).At, fd, (k : Int), ()) ∧ k + j' = next.length ∧ (fd = false → ∀ (m : Nat) d', m < k → next[m]? = some d' → ¬ (d'.From = x.name ∧ d'.Born = x.born)))
        (fun st => ∃ k : Int, st = (s, t, nowL s t, next, (i : Int), x.jet, true, (dropV s.2.2.1 x (n + 1)).At, true, k, ())) (by omega) ⟨0, false, rfl, by omega, fun _ m d' hm => by omega⟩ ?_ ?_
      · rintro j' _ ⟨k, fd, rfl, hkj, hno⟩ rec' K' hrec' hK'
        simp only [s7_2, es_show]
        by_cases hk : k < next.length
        · rw [cond_true_dec (by simp; omega)]
          cases fd
          · simp only [Bool.not_false, cond_true]
            have hz : next[k]? = some next[k] := by simp
            have hz' := fun (K : Drop → Option (Bool × Unit)) => rdL_at (K := K) hz
            have e2 : w64 ((k : Int) + 1) = ((k + 1 : Nat) : Int) := w64_id (by omega) (by omega)
            have ew : w64 (t + 1 - x.born) = ((n + 1 : Nat) : Int) := by rw [w64_id (by omega) (by omega)]; omega
            generalize next[k] = d at hz hz'
            simp only [hz', hz, hx', hx, Int.toNat_natCast, Option.bind_some, hFrom, hBorn, e2, et]
            have skip : ¬ (d.From = x.name ∧ d.Born = x.born) → ∀ (m : Nat) d', m < k + 1 → next[m]? = some d' → ¬ (d'.From = x.name ∧ d'.Born = x.born) := fun hd m d' hm hmd => by
              by_cases hmk : m = k
              · subst hmk; rw [hz] at hmd; cases hmd; exact hd
              · exact hno rfl m d' (by omega) hmd
            refine wp_dec (fun hF => ?_) fun hF => hrec' (j' - 1) _ (by omega) ⟨k + 1, false, rfl, by omega, fun _ => skip fun h => hF h.1⟩
            refine wp_dec (fun hB => ?_) fun hB => hrec' (j' - 1) _ (by omega) ⟨k + 1, false, rfl, by omega, fun _ => skip fun h => hB h.2⟩
            have hdd := hit k d hz hF hB (hno rfl)
            rw [hdd]
            simp only [decide_true, Bool.and_self, Bool.not_true, Bool.not_false, cond_true, htI_is, Option.bind_some, ew]
            have eh : (dropV s.2.2.1 x (n + 1)).Height = ht x.jet ((n + 1 : Nat) : Int) := rfl
            rw [eh, decide_eq_true rfl]
            simp only [Bool.not_true, cond_false]
            exact hrec' (j' - 1) _ (by omega) ⟨k + 1, true, rfl, by omega, fun h => by cases h⟩
          · simp only [Bool.not_true, cond_false]
            exact hK' _ ⟨_, rfl⟩
        · rw [cond_false_dec (by simp; omega)]
          cases fd
          · exfalso
            obtain ⟨m, d, hm, hF, hB⟩ := hex
            exact hno rfl m d (by have := (List.getElem?_eq_some_iff.mp hm).1; omega) hm ⟨hF, hB⟩
          · exact hK' _ ⟨_, rfl⟩
      · rintro _ ⟨k, rfl⟩
        simp only [es_show, Bool.not_true, Bool.not_false, cond_true, hx', hx, Int.toNat_natCast, Option.bind_some, hBorn, flI_is, e1]
        rw [w64_id (n := x.born + fl x.jet) (by omega) (by omega), decide_eq_false (show ¬ t < x.born by omega)]
        simp only [Bool.not_false, cond_true]
        rw [cond_false_dec (by omega)]
        exact hrec (j - 1) _ (by omega) ⟨i + 1, rfl, by omega⟩
    · rw [cond_false_dec (by simp; omega)]
      exact wp_some rfl
  · rw [cond_true_dec (by simp; omega)]
end Ev
namespace Go.Proofs.YtjdnadolocbjoaaGreat.fnDropPath
open Go.ChangeShapes Go.WideShapes Go.ChangeAt Go.RowKit
open Go.ChangeMaps (open_string shut_string)
theorem own : ownKnob Tryz.prog.godebug = none := by kernel_rfl
theorem laidOut : laidOutB Tryz.prog = true := by kernel_rfl
theorem lifted (os : Os) (started : os.Started) (H : Type) (enc : TypeId × Value → H) :
    ReturnsInHanded {} Tryz.checked os 7 .any (Rows.fnDropPathSpec.pre6 enc Tryz.prog Tryz.f7 Rows.fnDropPathRow.domain false) (Rows.fnDropPathSpec.post enc Tryz.prog Tryz.f7 false true false false) := by
  refine returnsInHanded_of_change_sized (C := Tryz.checked) own started (by kernel_rfl) Tryz.func7
    (ChangeSpec.witness6 (enc := enc) (C := Tryz.checked) false ⟨#[], #[.slice none 0 0], []⟩ 8 (by kernel_rfl) (by kernel_rfl) (by kernel_rfl) (by kernel_rfl)) ?_
  intro W base args ds gs before hval0 hW hcnd hsz0 _
  have hval : ∀ (j : Nat) t v, Tryz.f7.params[j]? = some t → args[j]? = some v → Value.okWide Tryz.prog W .any base t v := hval0
  have hW' := hW
  obtain ⟨p, q, hA0, hV, rfl, hfz, hnd⟩ := hW
  have hA : DataW.TrodAll enc Tryz.prog W 0 (fun _ => true) true Tryz.f7.params.toList args.toList ds p := hA0
  rw [Tryz.params7] at hA hval
  obtain ⟨v0, vs0, d0, ds0, p0, q0, hargs, rfl, rfl, h0, r0⟩ := trodAll_cons hA
  obtain ⟨rfl, rfl, rfl⟩ := trodAll_nil r0
  obtain rfl : args = #[v0] := by cases args; simp_all
  obtain ⟨rfl, rfl⟩ := trodVars_none hV
  obtain ⟨a0, len0, cap0, rfl⟩ := okWide_slice Tryz.underlying22 (hval 0 22 v0 rfl rfl)
  have k0 := h0
  have lt0 : ∀ x ∈ p0, x.block < W.heap.size := by obtain ⟨m, hm⟩ := k0; exact DataW.trod_lt m _ _ _ hm
  obtain ⟨zs0, hrel0, wf0, ml0⟩ : ∃ l : List (Ev.Ty.den .u8), Ev.RelA (fun _ => none) (fun b => b < W.heap.size) W (.lst .u8 l) (.slice a0 len0 cap0) ∧ (∀ d ∈ l, Ev.Wf .u8 d) ∧ l.length ≤ maxLen := by
    obtain ⟨fuel, hf⟩ := h0
    exact Ev.open_rows (l := [(5, .u8)]) (by kernel_rfl) (by kernel_rfl) hf
  clear hA0 hval0 hsz0
  refine (Ev.calls_true (av := [.lst .u8 zs0]) (out := []) Ev.okG7 (by
    exact Ev.sem_of (ps := Ev.p7) (rs := Ev.r7) (a := (zs0, ())) rfl (Ev.G7_eq zs0 (And.intro wf0 ml0))) (w := W) (ca := #[.slice a0 len0 cap0]) rfl (Ev.args_arr (Ev.argsS (hrel0) Ev.args0))).mono fun e W' ⟨he, bel⟩ => ?_
  subst he
  exact ⟨_, rfl, _, _, _, [], _, [], hW', trodAll_mk1 (shut_bool Tryz.underlying4 _), (trodAll_cons_mk (Below.trod laidOut (by kernel_rfl) (of_decide_eq_true (by kernel_rfl)) k0 bel lt0) trodAll_mk0), rfl, bel.frame _, fun h => by cases h⟩
theorem over : Rows.fnDropPathRow.holds Tryz.pinned (OpenSpec.ofChange Rows.fnDropPathSpec) :=
  OpenClaim.holds_of_wide 7 Tryz.f7 rfl rfl rfl rfl rfl rfl rfl ⟨rfl, rfl, rfl, rfl, rfl⟩ rfl rfl rfl rfl rfl (by kernel_rfl) Tryz.func7 (by kernel_rfl)
    (of_decide_eq_true (by kernel_rfl)) (by unfold Func.isWrapper; first | (rw [if_pos (by decide +kernel)]; kernel_rfl) | (rw [if_neg (by decide +kernel)]; exact ⟨rfl, rfl⟩))
    (fun os started H enc _ => lifted os started H enc)
theorem proved : Rows.FnDropPathSaid := over
#print axioms proved
end Go.Proofs.YtjdnadolocbjoaaGreat.fnDropPath
