/- Limited shows, as the program makes them. -/
import Derived.Test.YtjdnadolocbjoaaGreatGeo
import Derived.Test.YtjdnadolocbjoaaGreatWetA
set_option linter.unusedVariables false
set_option linter.unusedSimpArgs false
set_option maxRecDepth 100000
namespace Ev
open Go
theorem noz_most' {d : Device} (hd : devB d = true) (hk : d.Kind = 2) : 0 ≤ d.Most ∧ d.Most ≤ 32 := by
  unfold devB at hd
  rw [Bool.and_eq_true] at hd
  have := hd.2
  rw [if_neg (by rw [hk]; decide), if_pos hk] at this
  simp only [Bool.and_eq_true] at this
  exact wi_true.1 this.2.2.2
theorem lbB_is (d : Device) {r : List Place} (hr : r.length ≤ 1048576) (c : Box) (x : Int) : lbB d r c x = (lbb ⟨⟨d.At.X, d.At.Y⟩, d.Heading, d.Tilt, x⟩ r && isIn (lbx ⟨⟨d.At.X, d.At.Y⟩, d.Heading, d.Tilt, x⟩ r) c) := by
  have e : gLB ((⟨⟨d.At.X, d.At.Y⟩, d.Heading, d.Tilt, x⟩ : Jet), r, ()) = some (lbx ⟨⟨d.At.X, d.At.Y⟩, d.Heading, d.Tilt, x⟩ r, lbb ⟨⟨d.At.X, d.At.Y⟩, d.Heading, d.Tilt, x⟩ r, ()) := lbI_is _ r hr
  unfold lbB
  rw [e]
theorem limI_ok (d : Device) (r : List Place) (c : Box) (h1 : d.Name.length ≤ 1048576) (h2 : d.Line.length ≤ 1048576) (hr : r.length ≤ 1048576) : ∃ v, G77 (d, r, c, ()) = some (v, ()) ∧ ((devB d = true ∧ d.Kind = 2 ∧ LimP d r c v) ∨ (¬ (devB d = true ∧ d.Kind = 2) ∧ v = 0)) := by
  have hdv : G130 (d, ()) = some (devB d, ()) := (devB_is d h1 h2).2
  unfold G77 F77
  simp only [hdv, Option.bind_some]
  cases hd : devB d
  · exact ⟨0, rfl, .inr ⟨by simp, rfl⟩⟩
  by_cases hk : d.Kind = 2
  · obtain ⟨m0, m1⟩ := noz_most' hd hk
    rw [decide_eq_true hk]
    simp only [Bool.not_true, Bool.not_false, cond_true, cond_false]
    have key : ∀ (e i n : Nat), i + e = d.Most.toNat → e < n → ∃ v,
        iterF (s77_0 G130 G21 G78) n (r, d, c, ((i + 1 : Nat) : Int), ()) (fun t5 => some (t5.2.1.Most, ())) = some (v, ()) ∧ (i : Int) ≤ v ∧ v ≤ d.Most ∧ (∀ x : Int, (i : Int) < x → x ≤ v → lbB d r c x = true) ∧ (v < d.Most → lbB d r c (v + 1) = false) := by
      intro e
      induction e with
      | zero =>
        intro i n he hn
        obtain ⟨n, rfl⟩ : ∃ k, n = k + 1 := ⟨n - 1, by omega⟩
        refine ⟨d.Most, ?_, by omega, by omega, fun x h1 h2 => by omega, fun h => by omega⟩
        rw [iterF_succ]; simp only [s77_0]; rw [cond_false_dec (by omega)]
      | succ e ih =>
        intro i n he hn
        obtain ⟨n, rfl⟩ : ∃ k, n = k + 1 := ⟨n - 1, by omega⟩
        have e1 : w64 (((i + 1 : Nat) : Int) + 1) = ((i + 1 + 1 : Nat) : Int) := w64_id (by omega) (by omega)
        have e2 : w64 (((i + 1 : Nat) : Int) - 1) = (i : Int) := by rw [w64_id (by omega) (by omega)]; omega
        have hlb := lbB_is d hr c ((i + 1 : Nat) : Int)
        have hl := lbI_is ⟨⟨d.At.X, d.At.Y⟩, d.Heading, d.Tilt, ((i + 1 : Nat) : Int)⟩ r hr
        generalize lbb ⟨⟨d.At.X, d.At.Y⟩, d.Heading, d.Tilt, ((i + 1 : Nat) : Int)⟩ r = b at hlb hl
        generalize lbx ⟨⟨d.At.X, d.At.Y⟩, d.Heading, d.Tilt, ((i + 1 : Nat) : Int)⟩ r = B at hlb hl
        have hlb : lbB d r c ((i : Int) + 1) = (b && isIn B c) := by rw [← hlb]; congr 1
        obtain ⟨v, g2, g3, g4, g5, g6⟩ := ih (i + 1) n (by omega) (by omega)
        cases hb : b
        · refine ⟨(i : Int), ?_, by omega, by omega, fun x h1 h2 => by omega, fun _ => by rw [hlb, hb]; rfl⟩
          rw [iterF_succ]; simp only [s77_0]; rw [cond_true_dec (by omega)]
          simp only [hl, hb, Option.bind_some, e2]
          rfl
        · cases hin : isIn B c
          · refine ⟨(i : Int), ?_, by omega, by omega, fun x h1 h2 => by omega, fun _ => by rw [hlb, hb, hin]; rfl⟩
            rw [iterF_succ]; simp only [s77_0]; rw [cond_true_dec (by omega)]
            simp only [hl, hb, Option.bind_some, within_isI, hin, e2]
            rfl
          · refine ⟨v, ?_, by omega, by omega, fun x h1 h2 => ?_, g6⟩
            · rw [iterF_succ]; simp only [s77_0]; rw [cond_true_dec (by omega)]
              simp only [hl, hb, Option.bind_some, within_isI, hin, e1]
              exact g2
            · by_cases hx : x = (i : Int) + 1
              · rw [hx, hlb, hb, hin]; rfl
              · exact g5 x (by omega) h2
    obtain ⟨v, g2, g3, g4, g5, g6⟩ := key d.Most.toNat 0 fuel (by omega) (by rw [fuel_eq]; omega)
    exact ⟨v, g2, .inl ⟨by first | rfl | trivial, hk, ⟨by omega, g4⟩, fun x h1 h2 => g5 x (by omega) h2, g6⟩⟩
  · rw [decide_eq_false hk]
    exact ⟨0, rfl, .inr ⟨fun h => hk h.2, rfl⟩⟩
theorem limVI_is (d : Device) (r : List Place) (c : Box) (h1 : d.Name.length ≤ 1048576) (h2 : d.Line.length ≤ 1048576) (hr : r.length ≤ 1048576) : G77 (d, r, c, ()) = some (limV r c d, ()) ∧ ((devB d = true ∧ d.Kind = 2 ∧ LimP d r c (limV r c d)) ∨ (¬ (devB d = true ∧ d.Kind = 2) ∧ limV r c d = 0)) := by
  obtain ⟨v, g2, g3⟩ := limI_ok d r c h1 h2 hr
  have : limV r c d = v := by unfold limV; rw [g2]; rfl
  rw [this]
  exact ⟨g2, g3⟩
theorem limShow_is {s : ShowT} (h : ShowV s) {r : List Place} (hr : RoseV r) {c : Box} (hc : isBx c = true) : G28 (s, r, c, ()) = some (lmS r c s, true, ()) := by
  have hrl : r.length ≤ 1048576 := by have := hr.len; omega
  have hlen := h.ok.rig
  have hI : G39 (s, ()) = some (true, ()) := by rw [showI_is s h.ok, showB_of h]
  unfold G28 F28
  simp only [es_show, hI, hr.isI, boxI_is, hc, cloneShow_is s h.ok, Option.bind_some, Bool.not_true, Bool.not_false, cond_true, cond_false]
  refine (iterF_for (f := s28_0 G39 G75 G50 G76 G77) (K := fun t9 => some ((t9.2.2.2.1.1, t9.2.2.2.1.2.1, t9.2.2.2.1.2.2.1, t9.2.2.2.1.2.2.2.1, ()), true, ())) (fun i => (r, c, ([], [], [], 0, ()), (lmAt r c s.1 i, s.2.1, s.2.2.1, s.2.2.2.1, ()), (), Int.ofNat s.1.length, (i : Int), ())) s.1.length (by omega) ?_ ?_).trans ?_
  · intro i hi rec K
    have hx := lmAt_get r c s.1 i hi
    have hx' := fun (K : Device → Option ((List Device × List Cue × List Gust × Int × Unit) × Bool × Unit)) => rdL_at (K := K) hx
    have e1 : w64 ((i : Int) + 1) = ((i + 1 : Nat) : Int) := w64_id (by omega) (by omega)
    obtain ⟨n1, n2⟩ := h.ok.devs s.1[i] (by simp)
    have hv := (limVI_is s.1[i] r c n1 n2 hrl).1
    simp only [s28_0]
    rw [cond_true_dec (by simp; omega)]
    simp only [hx', hx, Int.toNat_natCast, Option.bind_some, e1]
    by_cases hk : s.1[i].Kind = 2
    · rw [cond_true_dec hk, hv]
      simp only [hx', hx, Option.bind_some]
      have := lmAt_set r c s.1 i hi
      unfold lmD at this
      rw [if_pos hk] at this
      rw [this]
    · rw [cond_false_dec hk, ← lmAt_same r c s.1 i hi hk]
  · intro rec K
    simp only [s28_0]
    rw [cond_false_dec (by simp)]
  · simp [lmAt, lmS]
/-! ### Limited shows are valid -/
structure K3 (f : Device → Device) : Prop where
  name : ∀ d, (f d).Name = d.Name
  kind : ∀ d, (f d).Kind = d.Kind
  line : ∀ d, (f d).Line = d.Line
section
variable {f : Device → Device} (F : K3 f)
include F
theorem fndFrom_map3 (s : Str) : ∀ (l : List Device) (i : Nat), fndFrom s i (l.map f) = fndFrom s i l
  | [], i => rfl
  | d :: l, i => by simp only [List.map_cons, fndFrom, F.name, fndFrom_map3 s l]
theorem fnd_map3 (l : List Device) (s : Str) : fnd (l.map f) s = fnd l s := fndFrom_map3 F s l 0
theorem hung_map3 (l : List Device) (d : Device) : hungB (l.map f) (f d) = hungB l d := by
  unfold hungB
  rw [F.kind, F.line, fnd_map3 F]
  congr 2
  unfold kindAt
  rw [List.getElem?_map]
  cases l[(fnd l d.Line).toNat]? with
  | none => rfl
  | some x => simp only [Option.map_some, Option.getD_some, F.kind]
theorem rig_map3 {l : List Device} (h : RigP l) (hd : ∀ d ∈ l, devB (f d) = true) : RigP (l.map f) := by
  refine ⟨by simpa using h.len, fun d hm => ?_, fun i d e h1 h2 => ?_, fun d hm => ?_⟩
  · obtain ⟨x, hx, rfl⟩ := List.mem_map.mp hm
    exact hd x hx
  · rw [List.getElem?_map] at h1 h2
    cases h3 : l[i]? with
    | none => rw [h3] at h1; cases h1
    | some a =>
      cases h4 : l[i + 1]? with
      | none => rw [h4] at h2; cases h2
      | some b =>
        rw [h3] at h1; rw [h4] at h2
        simp only [Option.map_some, Option.some.injEq] at h1 h2
        subst h1 h2
        rw [F.name, F.name]
        exact h.lt i a b h3 h4
  · obtain ⟨x, hx, rfl⟩ := List.mem_map.mp hm
    rw [hung_map3 F]
    exact h.hung x hx
end
theorem lmD_k3 (r : List Place) (c : Box) : K3 (lmD r c) := by
  constructor <;> intro d <;> unfold lmD <;> split <;> rfl
theorem lmD_ok {r : List Place} (hr : r.length ≤ 1048576) (c : Box) {d : Device} (h : devB d = true) : devB (lmD r c d) = true := by
  unfold lmD
  by_cases hk : d.Kind = 2
  · rw [if_pos hk]
    obtain ⟨n1, n2⟩ := dev_small h
    obtain ⟨m0, m1⟩ := noz_most' h hk
    rcases (limVI_is d r c (by omega) (by omega) hr).2 with ⟨_, _, hl⟩ | ⟨hn, _⟩
    · have hb := hl.range
      unfold devB at h
      rw [devB_mk]
      rw [Bool.and_eq_true] at h ⊢
      refine ⟨h.1, ?_⟩
      have h := h.2
      rw [if_neg (by rw [hk]; decide), if_pos hk] at h ⊢
      simp only [Bool.and_eq_true] at h ⊢
      exact ⟨h.1, h.2.1, h.2.2.1, wi_of (by omega) (by omega)⟩
    · exact absurd ⟨h, hk⟩ hn
  · rw [if_neg hk]; exact h
theorem lmS_valid {s : ShowT} (h : ShowV s) {r : List Place} (hr : r.length ≤ 1048576) (c : Box) : ShowV (lmS r c s) :=
  show_valid (rig_map3 (lmD_k3 r c) h.rig fun d hd => lmD_ok hr c (h.rig.dev d hd)) (score_p h) (wind_p h) h.tick
theorem lim_safe {s : ShowT} (h : ShowV s) {r : List Place} (hr : RoseV r) {C : Box} (hC : Sm 8 C.Low ∧ Sm 8 C.High) (hB : ∀ n : Int, 0 ≤ n → n ≤ 128 → G71 (r, n, ()) = some (⟨scale n C.Low, scale n C.High⟩, true, ())) {c : Box} (hc : isBx c = true) : SafeP C (lmS r c s) c := by
  have hrl : r.length ≤ 1048576 := by have := hr.len; omega
  have hv := lmS_valid h hrl c
  intro x hx
  have tp := throws_mem hv hx
  obtain ⟨i, d', hd', hk, _, hj, _, hmost⟩ := tp.dev
  have hd2 : (s.1.map (lmD r c))[i]? = some d' := hd'
  rw [List.getElem?_map] at hd2
  cases h3 : s.1[i]? with
  | none => rw [h3] at hd2; cases hd2
  | some d =>
    rw [h3] at hd2
    simp only [Option.map_some, Option.some.injEq] at hd2
    subst hd2
    have hdv := h.rig.dev d (mem_at h3)
    have hkd : d.Kind = 2 := by rw [(lmD_k3 r c).kind] at hk; exact hk
    have el : lmD r c d = ⟨d.Name, d.Kind, d.Line, ⟨d.At.X, d.At.Y⟩, d.Heading, d.Tilt, limV r c d⟩ := by unfold lmD; rw [if_pos hkd]
    rw [el] at hj hmost
    simp only at hj hmost
    obtain ⟨n1, n2⟩ := dev_small hdv
    rcases (limVI_is d r c (by omega) (by omega) hrl).2 with ⟨_, _, hl⟩ | ⟨hn, _⟩
    · have J := jet_ok tp.jet
      have hlb := hl.below x.jet.Lift (by have := J.l; omega) hmost
      have hbox := (landBox_is hC hB tp.jet).1
      unfold lbB at hlb
      rw [← hj] at hlb
      have hbox : gLB (x.jet, r, ()) = some (lbE x.jet C, true, ()) := hbox
      rw [hbox] at hlb
      simp only [Bool.true_and] at hlb
      exact (isIn_iff hc).1 hlb
    · exact absurd ⟨hdv, hkd⟩ hn
theorem lmD_two (r : List Place) (c : Box) {d : Device} (hk : d.Kind = 2) : lmD r c d = ⟨d.Name, d.Kind, d.Line, ⟨d.At.X, d.At.Y⟩, d.Heading, d.Tilt, limV r c d⟩ := by unfold lmD; rw [if_pos hk]
theorem lim_twice {r : List Place} (hr : r.length ≤ 1048576) (c : Box) {d : Device} (h : devB d = true) : lmD r c (lmD r c d) = lmD r c d := by
  by_cases hk : d.Kind = 2
  · have el : lmD r c d = ⟨d.Name, d.Kind, d.Line, ⟨d.At.X, d.At.Y⟩, d.Heading, d.Tilt, limV r c d⟩ := by unfold lmD; rw [if_pos hk]
    have hd' := lmD_ok hr c h
    obtain ⟨n1, n2⟩ := dev_small h
    obtain ⟨k1, k2⟩ := dev_small hd'
    have e : limV r c (lmD r c d) = limV r c d := by
      rcases (limVI_is d r c (by omega) (by omega) hr).2 with ⟨_, _, hl⟩ | ⟨hn, _⟩
      · rcases (limVI_is (lmD r c d) r c (by omega) (by omega) hr).2 with ⟨_, _, hl'⟩ | ⟨hn, _⟩
        · have hb := hl.range
          have hb' := hl'.range
          have em : (lmD r c d).Most = limV r c d := by rw [el]
          rw [em] at hb'
          by_cases hlt : limV r c (lmD r c d) < limV r c d
          · exfalso
            have h1 := hl'.next (by rw [em]; exact hlt)
            have h2 := hl.below (limV r c (lmD r c d) + 1) (by omega) (by omega)
            have e3 : lbB (lmD r c d) r c (limV r c (lmD r c d) + 1) = lbB d r c (limV r c (lmD r c d) + 1) := by
              generalize limV r c (lmD r c d) + 1 = y
              rw [el]; rfl
            rw [e3, h2] at h1
            cases h1
          · omega
        · exact absurd ⟨hd', by rw [(lmD_k3 r c).kind]; exact hk⟩ hn
      · exact absurd ⟨h, hk⟩ hn
    have k : (lmD r c d).Kind = 2 := by rw [(lmD_k3 r c).kind]; exact hk
    have e2 := lmD_two r c k
    rw [e2, e, el]
  · have el : lmD r c d = d := by unfold lmD; rw [if_neg hk]
    rw [el, el]
theorem lmS_twice {s : ShowT} (h : ShowV s) {r : List Place} (hr : r.length ≤ 1048576) (c : Box) : (lmS r c (lmS r c s)).1 = (lmS r c s).1 := by
  show (s.1.map (lmD r c)).map (lmD r c) = s.1.map (lmD r c)
  rw [List.map_map]
  exact List.map_congr_left fun d hd => lim_twice hr c (h.rig.dev d hd)
end Ev
