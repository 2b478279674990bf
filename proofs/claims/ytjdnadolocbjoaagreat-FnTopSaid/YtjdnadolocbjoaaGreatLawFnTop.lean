/- For each drawn show, rose and basin: no drop is lost, each lands where its jet and the drifts say, the show is safe or made wet by the wind that is told, and limited it is safe, turned as well: on no condition. -/
import Derived.Test.YtjdnadolocbjoaaGreatRows
import Derived.Test.YtjdnadolocbjoaaGreatWwd
import Derived.Test.YtjdnadolocbjoaaGreatLmt
import Derived.Test.YtjdnadolocbjoaaGreatPureA
import Derived.WalkKit
import Derived.ProofKit
import Derived.OpenShut
import Derived.ShutString
import Derived.ChangeOld
import Derived.Below
import Derived.SizedLaws
set_option linter.unusedVariables false
set_option linter.unusedSimpArgs false
set_option maxRecDepth 100000
namespace Ev
open Go
theorem turnRigI {l : List Device} (h : RigP l) (n : Int) : G79 (l, n, ()) = some (l.map (mvD n), ()) := by
  have hlen := h.len
  have hR : G90 (l, ()) = some (true, ()) := by rw [rigI_is l (by omega) (rig_devs h), (rigB_iff l).2 h]
  have tI : ∀ p, G83 (p, n, ()) = some (rotN (q4 n) p, ()) := fun p => turnI' p n
  have hI : ∀ x, G131 (x, n, ()) = some (hd4 x n, ()) := fun x => thI x n
  unfold G79 F79
  simp only [hR, Option.bind_some, Bool.not_true, cond_false]
  have run := iterF_for (f := s79_0 G90 G83 G131) (K := fun t6 => some (t6.2.1, ())) (fun i => (n, (l.take i).map (mvD n), l, Int.ofNat l.length, (i : Int), ())) l.length (by omega)
    (by
      intro i hi rec K
      have hx : l[i]? = some l[i] := by simp
      have e1 : w64 ((i : Int) + 1) = ((i + 1 : Nat) : Int) := w64_id (by omega) (by omega)
      have hcap : ((l.take i).map (mvD n)).length + 1 ≤ 1099511627776 := by simp; omega
      rw [← map_take_snoc (mvD n) l i hi]
      simp only [s79_0]
      rw [cond_true_dec (by simp; omega), rdL_at hx]
      simp only [tI, hI, Option.bind_some]
      by_cases k2 : l[i].Kind = 2
      · rw [cond_true_dec k2, capK_le (by simpa using hcap), e1]
        unfold mvD; rw [if_pos k2]
      · rw [cond_false_dec k2, capK_le (by simpa using hcap), e1]
        unfold mvD; rw [if_neg k2])
    (by
      intro rec K
      simp only [s79_0]
      rw [cond_false_dec (by simp)])
  rw [List.take_length] at run
  exact run
theorem turnWindI {l : List Gust} (h : WindP l) (n : Int) : G81 (l, n, ()) = some (l.map (mvG n), ()) := by
  have hlen := h.len
  have hW : G69 (l, ()) = some (true, ()) := by rw [wdI_is l (by omega), (wdB_iff (by omega)).2 h]
  have tI : ∀ p, G83 (p, n, ()) = some (rotN (q4 n) p, ()) := fun p => turnI' p n
  unfold G81 F81
  simp only [hW, Option.bind_some, Bool.not_true, cond_false]
  have run := iterF_for (f := s81_0 G69 G83) (K := fun t5 => some (t5.2.1, ())) (fun i => (n, (l.take i).map (mvG n), l, Int.ofNat l.length, (i : Int), ())) l.length (by omega)
    (by
      intro i hi rec K
      have hx : l[i]? = some l[i] := by simp
      have e1 : w64 ((i : Int) + 1) = ((i + 1 : Nat) : Int) := w64_id (by omega) (by omega)
      have hcap : ((l.take i).map (mvG n)).length + 1 ≤ 1099511627776 := by simp; omega
      rw [← map_take_snoc (mvG n) l i hi]
      simp only [s81_0]
      rw [cond_true_dec (by simp; omega), rdL_at hx]
      simp only [tI, Option.bind_some]
      rw [capK_le (by simpa using hcap), e1]
      rfl)
    (by
      intro rec K
      simp only [s81_0]
      rw [cond_false_dec (by simp)])
  rw [List.take_length] at run
  exact run
theorem turnShowI {s : ShowT} (h : ShowV s) (n : Int) : G31 (s, n, ()) = some (mvS n s, ()) := by
  have c2 : G80 (s.2.1, ()) = some (s.2.1, ()) := cloneCue s.2.1 h.ok.score
  unfold G31 F31
  simp only [es_show, showI_true2 h, turnRigI h.rig n, c2, turnWindI (wind_p h) n, Option.bind_some, Bool.not_true, cond_false]
  rfl
theorem bx_bounds {c : Box} (h : isBx c = true) : ((-4096 ≤ c.Low.X ∧ c.Low.X ≤ 4096) ∧ -4096 ≤ c.Low.Y ∧ c.Low.Y ≤ 4096) ∧ ((-4096 ≤ c.High.X ∧ c.High.X ≤ 4096) ∧ -4096 ≤ c.High.Y ∧ c.High.Y ≤ 4096) ∧ c.Low.X ≤ c.High.X ∧ c.Low.Y ≤ c.High.Y := by
  unfold isBx isPl at h
  simp only [Bool.and_eq_true, wi_true, decide_eq_true_eq] at h
  exact h
theorem turnBoxI {c : Box} (hc : isBx c = true) : ∃ B, G32 (c, 3, ()) = some (B, ()) ∧ isBx B = true ∧ ∀ p, inBx B (rt 3 p) = inBx c p := by
  obtain ⟨h1, h2, h3, h4⟩ := bx_bounds hc
  have tI : ∀ p, Sm 4096 p → G83 (p, 3, ()) = some (rt 3 p, ()) := fun p hp => by
    have := turnI' p 3
    have e : q4 3 = 3 := by decide
    rw [e, rot_rt (m := 4096) (by omega) hp (by omega)] at this
    exact this
  have hlow : Sm 4096 c.Low := ⟨h1.1, h1.2⟩
  have hhigh : Sm 4096 c.High := ⟨h2.1, h2.2⟩
  have r1 : rt 3 c.Low = ⟨c.Low.Y, -c.Low.X⟩ := rfl
  have r2 : rt 3 c.High = ⟨c.High.Y, -c.High.X⟩ := rfl
  obtain ⟨B, b1, b2⟩ := boxI_P (r := [rt 3 c.Low, rt 3 c.High]) (by simp) (by simp) (fun p hp => by
    simp only [List.mem_cons, List.not_mem_nil, or_false] at hp
    unfold isPl
    rcases hp with rfl | rfl
    · rw [r1, wi_of (by simp only; omega) (by simp only; omega), wi_of (by simp only; omega) (by simp only; omega)]; rfl
    · rw [r2, wi_of (by simp only; omega) (by simp only; omega), wi_of (by simp only; omega) (by simp only; omega)]; rfl)
  have i1 := b2.inn (rt 3 c.Low) (by simp)
  have i2 := b2.inn (rt 3 c.High) (by simp)
  rw [r1] at i1; rw [r2] at i2
  simp only at i1 i2
  have v1 : B.Low.X = c.Low.Y := by
    obtain ⟨p, hp, e⟩ := b2.lx
    simp only [List.mem_cons, List.not_mem_nil, or_false] at hp
    rcases hp with rfl | rfl
    · rw [r1] at e; simp only at e; omega
    · rw [r2] at e; simp only at e; omega
  have v2 : B.High.X = c.High.Y := by
    obtain ⟨p, hp, e⟩ := b2.hx
    simp only [List.mem_cons, List.not_mem_nil, or_false] at hp
    rcases hp with rfl | rfl
    · rw [r1] at e; simp only at e; omega
    · rw [r2] at e; simp only at e; omega
  have v3 : B.Low.Y = -c.High.X := by
    obtain ⟨p, hp, e⟩ := b2.ly
    simp only [List.mem_cons, List.not_mem_nil, or_false] at hp
    rcases hp with rfl | rfl
    · rw [r1] at e; simp only at e; omega
    · rw [r2] at e; simp only at e; omega
  have v4 : B.High.Y = -c.Low.X := by
    obtain ⟨p, hp, e⟩ := b2.hy
    simp only [List.mem_cons, List.not_mem_nil, or_false] at hp
    rcases hp with rfl | rfl
    · rw [r1] at e; simp only at e; omega
    · rw [r2] at e; simp only at e; omega
  have hB : isBx B = true := by
    unfold isBx isPl
    rw [wi_of (by omega) (by omega), wi_of (by omega) (by omega), wi_of (by omega) (by omega), wi_of (by omega) (by omega), decide_eq_true (show B.Low.X ≤ B.High.X by omega), decide_eq_true (show B.Low.Y ≤ B.High.Y by omega)]
    rfl
  refine ⟨B, ?_, hB, fun p => ?_⟩
  · unfold G32 F32
    simp only [boxI_is, hc, Option.bind_some, Bool.not_true, cond_false, tI _ hlow, tI _ hhigh, b1]
  · have e : inBx B (rt 3 p) = true ↔ inBx c p = true := by
      rw [inBx_iff hB, inBx_iff hc]
      have rp : rt 3 p = ⟨p.Y, -p.X⟩ := rfl
      unfold InP
      rw [rp]
      simp only
      omega
    cases h5 : inBx c p
    · cases h6 : inBx B (rt 3 p)
      · rfl
      · rw [e.1 h6] at h5; cases h5
    · exact e.2 h5
theorem dry_turned {S : ShowT} (h : ShowV S) {c B : Box} (hB : ∀ p, inBx B (rt 3 p) = inBx c p) : dryB B (landL (mvS 3 S)) = dryB c (landL S) := by
  have e := (turned_drops h 3 0).2
  have q : q4 3 = 3 := by decide
  rw [q] at e
  rw [e]
  unfold dryB
  rw [List.all_map]
  congr 1
  funext d
  exact hB d.At
theorem lbE_box {r : List Place} {C : Box} (hC1 : BoxP r C) (hC : Sm 8 C.Low ∧ Sm 8 C.High) {j : Jet} (hj : isJet j = true) : isBx (lbE j C) = true := by
  have hb := fl_bound j
  have h1 := pN_sm (jet_ok hj) hb.1 hb.2
  have s1 := add_sm h1 (scale_sm hb.1 hb.2 hC.1)
  have s2 := add_sm h1 (scale_sm hb.1 hb.2 hC.2)
  obtain ⟨g1, g2⟩ := lbE_le hC1 j
  have s1 : Sm (1552 + 264) (lbE j C).Low := s1
  have s2 : Sm (1552 + 264) (lbE j C).High := s2
  unfold isBx isPl
  rw [wi_of (by have := s1.1; omega) (by have := s1.1; omega), wi_of (by have := s1.2; omega) (by have := s1.2; omega), wi_of (by have := s2.1; omega) (by have := s2.1; omega), wi_of (by have := s2.2; omega) (by have := s2.2; omega), decide_eq_true g1, decide_eq_true g2]
  rfl
theorem ht_end {j : Jet} (hj : isJet j = true) : ht j (fl j) = 0 := by
  have hf : fl j = j.Lift + 1 := by unfold fl; rw [if_pos hj]
  unfold ht
  split
  · rw [hf]; simp
  · rfl
theorem plusT_is (p q : Place) : G22 (p, q, ()) = some (plus p q, ()) := rfl
theorem G3_eq (b : List Int) (hw : (∀ d ∈ b, Wf .u8 d) ∧ b.length ≤ maxLen) : G3 (b, ()) = some (true, ()) := by
  unfold G3 F3 G14 F14
  simp only [Option.bind_some]
  by_cases hb : b.length ≤ 4096
  · rw [cond_false_dec (by simp; omega)]
    obtain ⟨⟨s, r, c, w, u⟩, e, hD⟩ := drawBasin_w hb
    have hD : DrawB s r c w := hD
    rw [e]
    have hv := hD.show_
    have hr := hD.rose
    have hrl : r.length ≤ 1048576 := by have := hr.len; omega
    obtain ⟨C, hC1, hC, hB⟩ := roseBox_is hr
    have hv' := wS_valid hv hD.fit.wind
    have ew : (s.1, s.2.1, w, s.2.2.2.1, ()) = wS w s := rfl
    have hwl := hD.fit.wind.len
    have hwv : wdB w = true := (wdB_iff (by omega)).2 hD.fit.wind
    simp only [Option.bind_some, es_show, ew, landI_is hv']
    have hll : (landL (wS w s)).length ≤ 512 := by rw [landL_len]; exact throwsL_len hv'
    have hall : ∀ t : Int, w64 (Int.ofNat (nowL (wS w s) t).length + ((throwsL (wS w s)).countP (doneB t) : Int)) = ((throwsL (wS w s)).countP (bornB t) : Int) := fun t => by
      have hsp := born_split hv' t
      have hle := count_le (bornB t) (fun _ => true) (throwsL (wS w s)) (fun _ _ _ => rfl)
      rw [count_all (fun _ => true) (throwsL (wS w s)) (fun _ _ => rfl)] at hle
      have hlt := throwsL_len hv'
      rw [hsp, w64_id (by simp; omega) (by simp; omega)]; simp
    generalize hL : landL (wS w s) = L at hll
    refine (iterF_for (f := s3_0 G14 G15 G16 G17 G18 G20 G19 G21 G22 G23 G24 G25 G26 G27 G28 G29 G30 G31 G32) (fun i => (s, r, c, w, (s.1, s.2.1, (), s.2.2.2.1, ()), L, (i : Int), ())) L.length (by omega) ?_ ?_).trans ?_
    · intro i hi rec K
      have hx : L[i]? = some L[i] := by simp
      have hx' := fun (K : Drop → Option (Bool × Unit)) => rdL_at (K := K) hx
      have e1 : w64 ((i : Int) + 1) = ((i + 1 : Nat) : Int) := w64_id (by omega) (by omega)
      have hmem : L[i] ∈ landL (wS w s) := by rw [hL]; simp
      generalize L[i] = d at hx hx' hmem
      rcases land_memW (throwsL (wS w s)) [] hmem with h0 | ⟨x, hxm, hd⟩
      · cases h0
      have hd : d = dropV w x (fl x.jet).toNat := hd
      have hjet := jet_throw hv' hxm
      have hxs : x ∈ throwsL s := by rw [← wS_throws hv w]; exact hxm
      have hfl := throws_fly hv hxs
      have hf2 := fl_two hv hxs
      have hfb := fl_bound x.jet
      have hbx := hfl.born
      have hn : (((fl x.jet).toNat : Nat) : Int) = fl x.jet := by omega
      have hFrom : d.From = x.name := by rw [hd]; rfl
      have hBorn : d.Born = x.born := by rw [hd]; rfl
      have eb : w64 (x.born + fl x.jet) = x.born + fl x.jet := w64_id (by omega) (by omega)
      have hlo : G18 (x.jet, ()) = some ((landP x.jet).1, (landP x.jet).2, ()) := landI x.jet
      have hov : G19 (w, x.born, x.born + fl x.jet, ()) = some (drSum w x.born (fl x.jet).toNat, true, ()) := overI_is w (by omega) hwv hbx.1 (by omega) (by omega)
      have hlb := (landBox_is hC hB hfl.jet).1
      have hat0 : d.At = plus (pN x.jet (fl x.jet)) (drSum w x.born (fl x.jet).toNat) := by
        rw [hd]
        unfold dropV
        simp only
        rw [hn, placeN_pN (jet_ok hfl.jet) hfb.1 hfb.2]
      have hh0 : d.Height = 0 := by
        rw [hd]
        show ht x.jet (((fl x.jet).toNat : Nat) : Int) = 0
        rw [hn, ht_end hfl.jet]
      have hinb : G23 (lbE x.jet C, d.At, ()) = some (true, ()) := by
        rw [inI_is, (inBx_iff (lbE_box hC1 hC hfl.jet) _).2]
        have ed := (drop_at (wind_sm hD.fit.wind) hfl (n := (fl x.jet).toNat) (by omega)).1
        have hin := dS_in hC1 (fun t ht => fit_at hD.fit ht) hbx.1 (fl x.jet).toNat
        rw [hd, ed]
        unfold InP lbE
        rw [hn] at hin
        simp only [add] at *
        rw [hn]
        omega
      simp only [s3_0, es_show, ew]
      rw [cond_true_dec (by simp; omega)]
      simp only [hx', hx, Int.toNat_natCast, Option.bind_some, hFrom, hBorn, jetAtI_is hv', hjet, Option.getD_some, Option.isSome_some, hlo, land_pN hfl.jet, flI_is, eb, hov, hlb, plusT_is, ← hat0, hh0, hinb, decide_true, Bool.and_self, Bool.not_true, Bool.not_false, cond_true, cond_false, e1]
    · intro rec K
      simp only [s3_0, es_show, ew]
      rw [cond_false_dec (by simp)]
    · simp only [es_show]
      refine (iterF_for (f := s3_2 G14 G15 G16 G17 G18 G20 G19 G21 G22 G23 G24 G25 G26 G27 G28 G29 G30 G31 G32) (fun i => (s, r, c, w, (s.1, s.2.1, (), s.2.2.2.1, ()), ((7 * i : Nat) : Int), ())) 9 (by omega) ?_ ?_).trans ?_
      · intro i hi rec K
        have e1 : w64 (((7 * i : Nat) : Int) + 7) = ((7 * (i + 1) : Nat) : Int) := by rw [w64_id (by omega) (by omega)]; omega
        have e2 := hall ((7 * i : Nat) : Int)
        simp only [s3_2, es_show, ew]
        rw [cond_true_dec (by omega)]
        simp only [thrownI_is hv', nowI_is hv', landedI_is hv', Option.bind_some, e2, decide_true, Bool.not_true, cond_false, e1]
      · intro rec K
        simp only [s3_2, es_show, ew]
        rw [cond_false_dec (by omega)]
      · obtain ⟨v, ev, hiff⟩ := safeI_is hv hr hC hB c
        have hit := hit_safe hv hr hC1 c
        have hlv := lmS_valid hv hrl c
        have hlw := wS_valid hlv hD.fit.wind
        have elw : ((lmS r c s).1, (lmS r c s).2.1, w, (lmS r c s).2.2.2.1, ()) = wS w (lmS r c s) := rfl
        have d1 : G30 (wS w (lmS r c s), c, ()) = some (true, ()) := by
          rw [dry_is hlw c hD.box, safe_dry' hlv hC1 hD.fit hD.box (lim_safe hv hr hC hB hD.box)]
        obtain ⟨B, tb1, tb2, tb3⟩ := turnBoxI hD.box
        have d2 : G30 (mvS 3 (wS w (lmS r c s)), B, ()) = some (true, ()) := by
          rw [dry_is (turned_valid hlw 3) B tb2, dry_turned hlw tb3, safe_dry' hlv hC1 hD.fit hD.box (lim_safe hv hr hC hB hD.box)]
        simp only [es_show, ew, wetWindI_is hv hr hD.box, limShow_is hv hr hD.box, ev, elw]
        cases hww : wwL s r c with
        | none =>
          have hsf := hit.1 hww
          have hvt : v = true := hiff.2 ⟨hD.box, hsf⟩
          subst hvt
          have d0 : G30 (wS w s, c, ()) = some (true, ()) := by
            rw [dry_is hv' c hD.box, safe_dry' hv hC1 hD.fit hD.box hsf]
          simp only [Option.elim, Option.bind_some, d0, d1, elw, turnShowI hlw 3, tb1, d2, es_show, Bool.not_true, Bool.not_false, cond_true, cond_false]
          rfl
        | some a =>
          obtain ⟨x, k⟩ := a
          have hvf : v = false := by
            cases v
            · rfl
            · have := hit.2 (hiff.1 rfl).2
              rw [hww] at this; cases this
          subst hvf
          obtain ⟨hwp, hdry⟩ := told_wet hv hr hD.box hww
          have d0 : G30 (wS (stL (wdV (k : Int) r)) s, c, ()) = some (false, ()) := by
            rw [dry_is (wS_valid hv hwp) c hD.box, hdry]
          have es2 : (s.1, s.2.1, stL (wdV (k : Int) r), s.2.2.2.1, ()) = wS (stL (wdV (k : Int) r)) s := rfl
          simp only [Option.elim, Option.bind_some, es2, d0, d1, elw, turnShowI hlw 3, tb1, d2, es_show, Bool.not_true, Bool.not_false, cond_true, cond_false]
          rfl
  · rw [cond_true_dec (by simp; omega)]
end Ev
namespace Go.Proofs.YtjdnadolocbjoaaGreat.fnTop
open Go.ChangeShapes Go.WideShapes Go.ChangeAt Go.RowKit
open Go.ChangeMaps (open_string shut_string)
theorem own : ownKnob Tryz.prog.godebug = none := by kernel_rfl
theorem laidOut : laidOutB Tryz.prog = true := by kernel_rfl
theorem lifted (os : Os) (started : os.Started) (H : Type) (enc : TypeId × Value → H) :
    ReturnsInHanded {} Tryz.checked os 3 .any (Rows.fnTopSpec.pre6 enc Tryz.prog Tryz.f3 Rows.fnTopRow.domain false) (Rows.fnTopSpec.post enc Tryz.prog Tryz.f3 false true false false) := by
  refine returnsInHanded_of_change_sized (C := Tryz.checked) own started (by kernel_rfl) Tryz.func3
    (ChangeSpec.witness6 (enc := enc) (C := Tryz.checked) false ⟨#[], #[.slice none 0 0], []⟩ 8 (by kernel_rfl) (by kernel_rfl) (by kernel_rfl) (by kernel_rfl)) ?_
  intro W base args ds gs before hval0 hW hcnd hsz0 _
  have hval : ∀ (j : Nat) t v, Tryz.f3.params[j]? = some t → args[j]? = some v → Value.okWide Tryz.prog W .any base t v := hval0
  have hW' := hW
  obtain ⟨p, q, hA0, hV, rfl, hfz, hnd⟩ := hW
  have hA : DataW.TrodAll enc Tryz.prog W 0 (fun _ => true) true Tryz.f3.params.toList args.toList ds p := hA0
  rw [Tryz.params3] at hA hval
  obtain ⟨v0, vs0, d0, ds0, p0, q0, hargs, rfl, rfl, h0, r0⟩ := trodAll_cons hA
  obtain ⟨rfl, rfl, rfl⟩ := trodAll_nil r0
  obtain rfl : args = #[v0] := by cases args; simp_all
  obtain ⟨rfl, rfl⟩ := trodVars_none hV
  obtain ⟨a0, len0, cap0, rfl⟩ := okWide_slice Tryz.underlying22 (hval 0 22 v0 rfl rfl)
  have k0 := h0
  have lt0 : ∀ x ∈ p0, x.block < W.heap.size := by obtain ⟨m, hm⟩ := k0; exact DataW.trod_lt m _ _ _ hm
  obtain ⟨zs0, hrel0, wf0, ml0⟩ : ∃ l : List (Ev.Ty.den .u8), Ev.RelA (fun _ => none) (fun b => b < W.heap.size) W (.lst .u8 l) (.slice a0 len0 cap0) ∧ (∀ d ∈ l, Ev.Wf .u8 d) ∧ l.length ≤ maxLen := by
    obtain ⟨fuel, hf⟩ := h0
    exact Ev.open_rows (l := [(5, .u8)]) (by kernel_rfl) (by kernel_rfl) hf
  clear hA0 hval0 hsz0
  refine (Ev.calls_true (av := [.lst .u8 zs0]) (out := []) Ev.okG3 (by
    exact Ev.sem_of (ps := Ev.p3) (rs := Ev.r3) (a := (zs0, ())) rfl (Ev.G3_eq zs0 (And.intro wf0 ml0))) (w := W) (ca := #[.slice a0 len0 cap0]) rfl (Ev.args_arr (Ev.argsS (hrel0) Ev.args0))).mono fun e W' ⟨he, bel⟩ => ?_
  subst he
  exact ⟨_, rfl, _, _, _, [], _, [], hW', trodAll_mk1 (shut_bool Tryz.underlying4 _), (trodAll_cons_mk (Below.trod laidOut (by kernel_rfl) (of_decide_eq_true (by kernel_rfl)) k0 bel lt0) trodAll_mk0), rfl, bel.frame _, fun h => by cases h⟩
theorem over : Rows.fnTopRow.holds Tryz.pinned (OpenSpec.ofChange Rows.fnTopSpec) :=
  OpenClaim.holds_of_wide 3 Tryz.f3 rfl rfl rfl rfl rfl rfl rfl ⟨rfl, rfl, rfl, rfl, rfl⟩ rfl rfl rfl rfl rfl (by kernel_rfl) Tryz.func3 (by kernel_rfl)
    (of_decide_eq_true (by kernel_rfl)) (by unfold Func.isWrapper; first | (rw [if_pos (by decide +kernel)]; kernel_rfl) | (rw [if_neg (by decide +kernel)]; exact ⟨rfl, rfl⟩))
    (fun os started H enc _ => lifted os started H enc)
theorem proved : Rows.FnTopSaid := over
#print axioms proved
end Go.Proofs.YtjdnadolocbjoaaGreat.fnTop
