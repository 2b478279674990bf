/- A drawn show that is shifted throws and lands the same drops, shifted: on no condition. -/
import Derived.Test.YtjdnadolocbjoaaRows
import Derived.Test.YtjdnadolocbjoaaDrawA
import Derived.Test.YtjdnadolocbjoaaPureA
import Derived.WalkKit
import Derived.ProofKit
import Derived.OpenShut
import Derived.ShutString
import Derived.ChangeOld
import Derived.Below
import Derived.SizedLaws
set_option linter.unusedVariables false
set_option linter.unusedSimpArgs false
set_option maxRecDepth 100000
namespace Ev
open Go
def mix (f : Device → Device) (l : List Device) (i : Nat) : List Device := l.mapIdx fun m d => if m < i then f d else d
theorem mix_at (f : Device → Device) (l : List Device) (i m : Nat) : (mix f l i)[m]? = (l[m]?).map fun d => if m < i then f d else d := by
  unfold mix; rw [List.getElem?_mapIdx]
theorem mix_len (f : Device → Device) (l : List Device) (i : Nat) : (mix f l i).length = l.length := by unfold mix; simp
theorem mix_zero (f : Device → Device) (l : List Device) : mix f l 0 = l := by
  apply List.ext_getElem?; intro m
  rw [mix_at]
  cases l[m]? <;> simp
theorem mix_all (f : Device → Device) (l : List Device) : mix f l l.length = l.map f := by
  apply List.ext_getElem?; intro m
  rw [mix_at, List.getElem?_map]
  by_cases h : m < l.length
  · simp only [h, if_true]
  · rw [List.getElem?_eq_none (by omega)]; rfl
theorem mix_set (f : Device → Device) (l : List Device) (i : Nat) (h : i < l.length) : (mix f l i).set i (f l[i]) = mix f l (i + 1) := by
  apply List.ext_getElem?; intro m
  rw [List.getElem?_set, mix_at, mix_at, mix_len]
  by_cases hm : i = m
  · subst hm
    simp [h]
  · rw [if_neg hm]
    by_cases h1 : m < i
    · simp only [h1, show m < i + 1 by omega, if_true]
    · simp only [h1, show ¬ m < i + 1 by omega, if_false]
theorem mix_same (f : Device → Device) (l : List Device) (i : Nat) (h : i < l.length) (hf : f l[i] = l[i]) : mix f l i = mix f l (i + 1) := by
  apply List.ext_getElem?; intro m
  rw [mix_at, mix_at]
  by_cases hm : i = m
  · subst hm
    simp [h, hf]
  · by_cases h1 : m < i
    · simp only [h1, show m < i + 1 by omega, if_true]
    · simp only [h1, show ¬ m < i + 1 by omega, if_false]
/-- A device that is shifted. -/
def shD (y : Place) (d : Device) : Device := if d.Kind = 1 then d else ⟨d.Name, d.Kind, d.Line, ⟨(add d.At y).X, (add d.At y).Y⟩, d.Heading, d.Tilt, d.Most⟩
theorem shD_keeps (y : Place) : Keeps (shD y) := by
  constructor <;> intro d <;> unfold shD <;> split <;> rfl
theorem shD_ok {y : Place} (hy : Sm 128 y) {d : Device} (h : devB d = true) (hn : d.Kind ≠ 1 → (-64 ≤ d.At.X ∧ d.At.X ≤ 64) ∧ -64 ≤ d.At.Y ∧ d.At.Y ≤ 64) : devB (shD y d) = true := by
  unfold shD
  by_cases k1 : d.Kind = 1
  · rw [if_pos k1]; exact h
  · rw [if_neg k1]
    have hn := hn k1
    obtain ⟨⟨y1, y2⟩, y3, y4⟩ := hy
    unfold devB at h
    rw [devB_mk]
    rw [Bool.and_eq_true] at h ⊢
    refine ⟨h.1, ?_⟩
    have h := h.2
    rw [if_neg k1] at h ⊢
    by_cases k2 : d.Kind = 2
    · rw [if_pos k2] at h ⊢
      simp only [Bool.and_eq_true] at h ⊢
      refine ⟨h.1, h.2.1, ?_, h.2.2.2⟩
      have J := jet_ok h.2.2.1
      have jh := J.h; have jt := J.t
      simp only [devJ] at jh jt
      unfold isJet devJ add
      simp only
      rw [wi_of (by omega) (by omega), wi_of (by omega) (by omega), wi_of jh.1 jh.2, wi_of jt.1 jt.2, wi_of (by omega) (by omega)]
      rfl
    · rw [if_neg k2] at h ⊢
      by_cases k3 : d.Kind = 3
      · rw [if_pos k3] at h ⊢
        simp only [Bool.and_eq_true] at h ⊢
        refine ⟨h.1, h.2.1, h.2.2.1, h.2.2.2.1, h.2.2.2.2.1, ?_⟩
        unfold isPl add
        simp only
        rw [wi_of (by omega) (by omega), wi_of (by omega) (by omega)]; rfl
      · rw [if_neg k3] at h; cases h
theorem addPl_is {p y : Place} (hp : (-64 ≤ p.X ∧ p.X ≤ 64) ∧ -64 ≤ p.Y ∧ p.Y ≤ 64) (hy : Sm 128 y) : G142 (p, y, ()) = some (add p y, true, ()) := by
  obtain ⟨⟨y1, y2⟩, y3, y4⟩ := hy
  have q1 : G65 (p, ()) = some (isPl p, ()) := placeI p
  have q2 : G65 (y, ()) = some (isPl y, ()) := placeI y
  have q3 : G65 (add p y, ()) = some (isPl (add p y), ()) := placeI _
  have p1 : isPl p = true := by unfold isPl; rw [wi_of (by omega) (by omega), wi_of (by omega) (by omega)]; rfl
  have p2 : isPl y = true := by unfold isPl; rw [wi_of (by omega) (by omega), wi_of (by omega) (by omega)]; rfl
  have p3 : isPl (add p y) = true := by unfold isPl add; simp only; rw [wi_of (by omega) (by omega), wi_of (by omega) (by omega)]; rfl
  have e0 : (⟨w64 (p.X + y.X), w64 (p.Y + y.Y)⟩ : Place) = add p y := by rw [w64_id (by omega) (by omega), w64_id (by omega) (by omega)]; rfl
  unfold G142 F142 G178 F178
  simp only [q1, q2, p1, p2, Option.bind_some, Bool.not_true, Bool.not_false, cond_true, cond_false, e0, q3, p3]
theorem cloneDevS (l : List Device) (hl : l.length ≤ 1048576) : G141 (l, ()) = some (l, ()) := by
  unfold G141 F141 emptyK
  cases l with
  | nil => rw [capK_le (by simp)]; exact both_self'
  | cons x l => rw [capK_le (by simp at hl ⊢; omega)]; rfl
theorem cloneGustS (l : List Gust) (hl : l.length ≤ 1048576) : G143 (l, ()) = some (l, ()) := by
  unfold G143 F143 emptyK
  cases l with
  | nil => rw [capK_le (by simp)]; exact both_self'
  | cons x l => rw [capK_le (by simp at hl ⊢; omega)]; rfl
theorem shiftRig_is {l : List Device} (h : RigP l) (hn : NearB l) {y : Place} (hy : Sm 128 y) : G81 (l, y, ()) = some (l.map (shD y), true, ()) := by
  have hlen := h.len
  have hl : l.length ≤ 1048576 := by omega
  have hR : G83 (l, ()) = some (true, ()) := by rw [rigI_is l hl (rig_devs h), (rigB_iff l).2 h]
  have q2 : G65 (y, ()) = some (isPl y, ()) := placeI y
  have p2 : isPl y = true := by obtain ⟨⟨y1, y2⟩, y3, y4⟩ := hy; unfold isPl; rw [wi_of (by omega) (by omega), wi_of (by omega) (by omega)]; rfl
  unfold G81 F81
  simp only [hR, q2, p2, cloneDevS l hl, Option.bind_some, Bool.not_true, Bool.not_false, cond_true, cond_false]
  have run := iterF_for (f := s81_0 G83 G65 G141 G142 G20) (K := fun t10 => some (t10.2.1, true, ())) (fun i => (y, mix (shD y) l i, (), Int.ofNat l.length, (i : Int), ())) l.length (by omega)
    (by
      intro i hi rec K
      have hx : (mix (shD y) l i)[i]? = some l[i] := by rw [mix_at]; simp [hi]
      have hx' := fun (K : Device → Option (List Device × Bool × Unit)) => rdL_at (K := K) hx
      have e1 : w64 ((i : Int) + 1) = ((i + 1 : Nat) : Int) := w64_id (by omega) (by omega)
      have hm : l[i] ∈ l := by simp
      simp only [s81_0]
      rw [cond_true_dec (by simp; omega)]
      simp only [hx', hx, Int.toNat_natCast, Option.bind_some, e1]
      by_cases k1 : l[i].Kind = 1
      · rw [cond_true_dec k1, mix_same (shD y) l i hi (by unfold shD; rw [if_pos k1])]
      · rw [cond_false_dec k1, addPl_is (hn _ hm k1) hy]
        simp only [Option.bind_some, Bool.not_true, Bool.not_false, cond_true]
        have ed : (⟨l[i].Name, l[i].Kind, l[i].Line, ⟨(add l[i].At y).X, (add l[i].At y).Y⟩, l[i].Heading, l[i].Tilt, l[i].Most⟩ : Device) = shD y l[i] := by unfold shD; rw [if_neg k1]
        have hz : (mix (shD y) l (i + 1))[i]? = some (shD y l[i]) := by rw [mix_at]; simp [hi]
        have hz' := fun (K : Device → Option (List Device × Bool × Unit)) => rdL_at (K := K) hz
        have hdv : G20 (shD y l[i], ()) = some (true, ()) := by
          have hnl := rig_devs h _ hm
          have := (devB_is (shD y l[i]) (by rw [(shD_keeps y).name]; exact hnl.1) (by rw [(shD_keeps y).line]; exact hnl.2)).2
          rw [shD_ok hy (h.dev _ hm) (hn _ hm)] at this
          exact this
        rw [ed, mix_set _ _ _ hi]
        simp only [hz', hz, hdv, Option.bind_some, Bool.not_true, cond_false])
    (by
      intro rec K
      simp only [s81_0]
      rw [cond_false_dec (by simp)])
  rw [mix_zero, mix_all] at run
  exact run
def shS (y : Place) (s : ShowT) : ShowT := (s.1.map (shD y), s.2.1, s.2.2.1, s.2.2.2.1, ())
theorem shS_valid {y : Place} (hy : Sm 128 y) {s : ShowT} (h : ShowV s) (hn : NearB s.1) : ShowV (shS y s) :=
  show_valid (rig_map (shD_keeps y) h.rig fun d hd => shD_ok hy (h.rig.dev d hd) (hn d hd)) (score_p h) (wind_p h) h.tick
theorem showI_true {s : ShowT} (h : ShowV s) : G31 (s, ()) = some (true, ()) := by rw [showI_is s h.ok, showB_of h]
theorem shiftShow_is {y : Place} (hy : Sm 128 y) {s : ShowT} (h : ShowV s) (hn : NearB s.1) : G30 (s, y, ()) = some (shS y s, true, ()) := by
  have c1 := cloneDevS s.1 h.ok.rig
  have c2 : G54 (s.2.1, ()) = some (s.2.1, ()) := cloneCue s.2.1 h.ok.score
  have c3 := cloneGustS s.2.2.1 h.ok.wind
  have hc : G82 (s, ()) = some (s, ()) := by
    unfold G82 F82
    simp only [c1, c2, c3, Option.bind_some]
  unfold G30 F30
  simp only [es_show, shiftRig_is h.rig hn hy, showI_true h, hc, Option.bind_some, Bool.not_true, Bool.not_false, cond_true, cond_false]
  rfl
theorem sh_jet {y : Place} (hy : Sm 128 y) {j : Jet} (h : isJet j = true) (hn : (-64 ≤ j.At.X ∧ j.At.X ≤ 64) ∧ -64 ≤ j.At.Y ∧ j.At.Y ≤ 64) : isJet (shJ y j) = true := by
  have J := jet_ok h
  obtain ⟨⟨y1, y2⟩, y3, y4⟩ := hy
  unfold isJet shJ add
  simp only
  rw [wi_of (by omega) (by omega), wi_of (by omega) (by omega), wi_of J.h.1 J.h.2, wi_of J.t.1 J.t.2, wi_of J.l.1 J.l.2]
  rfl
theorem land_memS {w : List Gust} {d : Drop} : ∀ (l : List Throw) (a : List Drop), d ∈ l.foldl (allF w) a → d ∈ a ∨ ∃ x ∈ l, d = dropV w x (fl x.jet).toNat
  | [], a, h => .inl h
  | y :: l, a, h => by
    rw [List.foldl_cons] at h
    rcases land_memS l _ h with h | ⟨x, hx, e⟩
    · unfold allF at h
      rcases List.mem_append.mp h with h | h
      · exact .inl h
      · rw [List.mem_singleton] at h
        exact .inr ⟨y, by simp, h⟩
    · exact .inr ⟨x, by simp [hx], e⟩
theorem throw_near {s : ShowT} (h : ShowV s) (hn : NearB s.1) {x : Throw} (hx : x ∈ throwsL s) : (-64 ≤ x.jet.At.X ∧ x.jet.At.X ≤ 64) ∧ -64 ≤ x.jet.At.Y ∧ x.jet.At.Y ≤ 64 := by
  obtain ⟨i, d, hd, hk, _, hj, _⟩ := (throws_mem h hx).dev
  rw [hj]
  exact hn d (mem_at hd) (by rw [hk]; decide)
theorem shifted_drops {y : Place} (hy : Sm 128 y) {s : ShowT} (h : ShowV s) (hn : NearB s.1) (t : Int) : nowL (shS y s) t = (nowL s t).map (mvO (fun p => plus p y)) ∧ landL (shS y s) = (landL s).map (mvO (fun p => plus p y)) := by
  have hw := wind_sm (wind_p h)
  have hth : throwsL (shS y s) = (throwsL s).map (mvT (shJ y)) := by
    refine throws_map h (shD_keeps y) _ (shJ y) fun d hd hk x => ?_
    unfold shD shJ
    rw [if_neg (by rw [hk]; decide)]
  refine drops_map (shJ y) (fun p => plus p y) hth (fun x hx => ?_) (fun x hx n hm => ?_) t
  · unfold fl
    rw [if_pos (throws_fly h hx).jet, if_pos (sh_jet hy (throws_fly h hx).jet (throw_near h hn hx))]
    rfl
  · have hf := throws_fly h hx
    have hj := sh_jet hy hf.jet (throw_near h hn hx)
    have hf' : FliesP (mvT (shJ y) x) := ⟨hf.born, hj⟩
    have hfl : fl (shJ y x.jet) = fl x.jet := by
      unfold fl
      rw [if_pos hf.jet, if_pos hj]
      rfl
    obtain ⟨e1, e3⟩ := drop_at hw hf hm
    have e2 := (drop_at hw hf' (show (n : Int) ≤ fl (mvT (shJ y) x).jet by show _ ≤ fl (shJ y x.jet); rw [hfl]; exact hm)).1
    have hs : (shS y s).2.2.1 = s.2.2.1 := rfl
    have hht : ht (shJ y x.jet) (n : Int) = ht x.jet (n : Int) := by
      unfold ht
      rw [hj, hf.jet]
      rfl
    rw [hs, e2, e1]
    unfold mvO mvT
    simp only
    rw [hht, sh_pN, plus_add (m := 1816) (n := 128) (by omega) e3 hy]
    congr 1
    unfold add
    exact place_ext (by simp only; omega) (by simp only; omega)
theorem plusLw_is (p q : Place) : G34 (p, q, ()) = some (plus p q, ()) := rfl
theorem G6_eq (b : List Int) (hw : (∀ d ∈ b, Wf .u8 d) ∧ b.length ≤ maxLen) : G6 (b, ()) = some (true, ()) := by
  unfold G6 F6 G10 F10
  simp only [Option.bind_some]
  by_cases hb : b.length ≤ 4096
  · rw [cond_false_dec (by simp; omega)]
    obtain ⟨⟨s, t, u⟩, e, ⟨hv, hn⟩, h1, ht0, ht1⟩ := drawShow_near hb
    have hv : ShowV s := hv
    have hn : NearB s.1 := hn
    rw [e]
    have hy0 := Int.tmod_nonneg 90 (show 0 ≤ Int.ofNat b.length by simp)
    have hy1 := Int.tmod_lt_of_pos (Int.ofNat b.length) (show (0 : Int) < 90 by decide)
    have hy : Sm 128 ⟨Int.tmod (Int.ofNat b.length) 90, -40⟩ := ⟨⟨by simp only; omega, by simp only; omega⟩, by simp only; omega, by simp only; omega⟩
    generalize (⟨Int.tmod (Int.ofNat b.length) 90, -40⟩ : Place) = y at hy ⊢
    have hv' := shS_valid hy hv hn
    obtain ⟨d1, d2⟩ := shifted_drops hy hv hn t
    have hl0 := nowL_len hv t
    have hl2 : (landL s).length ≤ 512 := by rw [landL_len]; exact throwsL_len hv
    simp only [Option.bind_some, es_show, shiftShow_is hy hv hn, showI_true hv', nowI_is hv, nowI_is hv', landI_is hv, landI_is hv', d1, d2, Bool.not_true, Bool.not_false, cond_true, cond_false]
    rw [capK_le (by omega), capK_le (by simp; omega), ← List.map_append, decide_eq_true (by simp)]
    simp only [Bool.not_true, cond_false]
    generalize hL : nowL s t ++ landL s = L
    have hLl : L.length ≤ 1024 := by rw [← hL]; simp; omega
    refine (iterF_for (f := s6_0 G10 G26 G30 G31 G32 G33 G34) (fun i => (y, L, L.map (mvO (fun p => plus p y)), (i : Int), ())) L.length (by omega) ?_ ?_).trans rfl
    · intro i hi rec K
      have hx : L[i]? = some L[i] := by simp
      have hx' := fun (K : Drop → Option (Bool × Unit)) => rdL_at (K := K) hx
      have hz : (L.map (mvO (fun p => plus p y)))[i]? = some (mvO (fun p => plus p y) L[i]) := by rw [List.getElem?_map, hx]; rfl
      have hz' := fun (K : Drop → Option (Bool × Unit)) => rdL_at (K := K) hz
      have e1 : w64 ((i : Int) + 1) = ((i + 1 : Nat) : Int) := w64_id (by omega) (by omega)
      simp only [s6_0]
      rw [cond_true_dec (by simp; omega)]
      simp only [hx', hx, hz', hz, Int.toNat_natCast, Option.bind_some, e1, plusLw_is, mvO, decide_true, Bool.and_self, Bool.not_true, cond_false]
    · intro rec K
      simp only [s6_0]
      rw [cond_false_dec (by simp)]
  · rw [cond_true_dec (by simp; omega)]
end Ev
namespace Go.Proofs.Ytjdnadolocbjoaa.fnShiftedShow
open Go.ChangeShapes Go.WideShapes Go.ChangeAt Go.RowKit
open Go.ChangeMaps (open_string shut_string)
theorem own : ownKnob Try.prog.godebug = none := by kernel_rfl
theorem laidOut : laidOutB Try.prog = true := by kernel_rfl
theorem lifted (os : Os) (started : os.Started) (H : Type) (enc : TypeId × Value → H) :
    ReturnsInHanded {} Try.checked os 6 .any (Rows.fnShiftedShowSpec.pre6 enc Try.prog Try.f6 Rows.fnShiftedShowRow.domain false) (Rows.fnShiftedShowSpec.post enc Try.prog Try.f6 false true false false) := by
  refine returnsInHanded_of_change_sized (C := Try.checked) own started (by kernel_rfl) Try.func6
    (ChangeSpec.witness6 (enc := enc) (C := Try.checked) false ⟨#[], #[.slice none 0 0], []⟩ 8 (by kernel_rfl) (by kernel_rfl) (by kernel_rfl) (by kernel_rfl)) ?_
  intro W base args ds gs before hval0 hW hcnd hsz0 _
  have hval : ∀ (j : Nat) t v, Try.f6.params[j]? = some t → args[j]? = some v → Value.okWide Try.prog W .any base t v := hval0
  have hW' := hW
  obtain ⟨p, q, hA0, hV, rfl, hfz, hnd⟩ := hW
  have hA : DataW.TrodAll enc Try.prog W 0 (fun _ => true) true Try.f6.params.toList args.toList ds p := hA0
  rw [Try.params6] at hA hval
  obtain ⟨v0, vs0, d0, ds0, p0, q0, hargs, rfl, rfl, h0, r0⟩ := trodAll_cons hA
  obtain ⟨rfl, rfl, rfl⟩ := trodAll_nil r0
  obtain rfl : args = #[v0] := by cases args; simp_all
  obtain ⟨rfl, rfl⟩ := trodVars_none hV
  obtain ⟨a0, len0, cap0, rfl⟩ := okWide_slice Try.underlying22 (hval 0 22 v0 rfl rfl)
  have k0 := h0
  have lt0 : ∀ x ∈ p0, x.block < W.heap.size := by obtain ⟨m, hm⟩ := k0; exact DataW.trod_lt m _ _ _ hm
  obtain ⟨zs0, hrel0, wf0, ml0⟩ : ∃ l : List (Ev.Ty.den .u8), Ev.RelA (fun _ => none) (fun b => b < W.heap.size) W (.lst .u8 l) (.slice a0 len0 cap0) ∧ (∀ d ∈ l, Ev.Wf .u8 d) ∧ l.length ≤ maxLen := by
    obtain ⟨fuel, hf⟩ := h0
    exact Ev.open_rows (l := [(5, .u8)]) (by kernel_rfl) (by kernel_rfl) hf
  clear hA0 hval0 hsz0
  refine (Ev.calls_true (av := [.lst .u8 zs0]) (out := []) Ev.okG6 (by
    exact Ev.sem_of (ps := Ev.p6) (rs := Ev.r6) (a := (zs0, ())) rfl (Ev.G6_eq zs0 (And.intro wf0 ml0))) (w := W) (ca := #[.slice a0 len0 cap0]) rfl (Ev.args_arr (Ev.argsS (hrel0) Ev.args0))).mono fun e W' ⟨he, bel⟩ => ?_
  subst he
  exact ⟨_, rfl, _, _, _, [], _, [], hW', trodAll_mk1 (shut_bool Try.underlying4 _), (trodAll_cons_mk (Below.trod laidOut (by kernel_rfl) (of_decide_eq_true (by kernel_rfl)) k0 bel lt0) trodAll_mk0), rfl, bel.frame _, fun h => by cases h⟩
theorem over : Rows.fnShiftedShowRow.holds Try.pinned (OpenSpec.ofChange Rows.fnShiftedShowSpec) :=
  OpenClaim.holds_of_wide 6 Try.f6 rfl rfl rfl rfl rfl rfl rfl ⟨rfl, rfl, rfl, rfl, rfl⟩ rfl rfl rfl rfl rfl (by kernel_rfl) Try.func6 (by kernel_rfl)
    (of_decide_eq_true (by kernel_rfl)) (by unfold Func.isWrapper; first | (rw [if_pos (by decide +kernel)]; kernel_rfl) | (rw [if_neg (by decide +kernel)]; exact ⟨rfl, rfl⟩))
    (fun os started H enc _ => lifted os started H enc)
theorem proved : Rows.FnShiftedShowSaid := over
#print axioms proved
end Go.Proofs.Ytjdnadolocbjoaa.fnShiftedShow
