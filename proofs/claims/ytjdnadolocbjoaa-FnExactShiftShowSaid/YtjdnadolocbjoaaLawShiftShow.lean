/- The program's ShiftShow returns what the reference's returns, for all arguments: on no condition. -/
import Derived.Test.YtjdnadolocbjoaaRows
import Derived.Test.YtjdnadolocbjoaaSumA
import Derived.Test.YtjdnadolocbjoaaMarkA
import Derived.Test.YtjdnadolocbjoaaPureA
import Derived.WalkKit
import Derived.ProofKit
import Derived.OpenShut
import Derived.ShutString
import Derived.ChangeOld
import Derived.Below
import Derived.SizedLaws
set_option linter.unusedVariables false
set_option linter.unusedSimpArgs false
set_option maxRecDepth 100000
namespace Ev
open Go
def mix (f : Device → Device) (l : List Device) (i : Nat) : List Device := l.mapIdx fun m d => if m < i then f d else d
theorem mix_at (f : Device → Device) (l : List Device) (i m : Nat) : (mix f l i)[m]? = (l[m]?).map fun d => if m < i then f d else d := by
  unfold mix; rw [List.getElem?_mapIdx]
theorem mix_len (f : Device → Device) (l : List Device) (i : Nat) : (mix f l i).length = l.length := by unfold mix; simp
theorem mix_zero (f : Device → Device) (l : List Device) : mix f l 0 = l := by
  apply List.ext_getElem?; intro m
  rw [mix_at]
  cases l[m]? <;> simp
theorem mix_all (f : Device → Device) (l : List Device) : mix f l l.length = l.map f := by
  apply List.ext_getElem?; intro m
  rw [mix_at, List.getElem?_map]
  by_cases h : m < l.length
  · simp only [h, if_true]
  · rw [List.getElem?_eq_none (by omega)]; rfl
theorem mix_set (f : Device → Device) (l : List Device) (i : Nat) (h : i < l.length) : (mix f l i).set i (f l[i]) = mix f l (i + 1) := by
  apply List.ext_getElem?; intro m
  rw [List.getElem?_set, mix_at, mix_at, mix_len]
  by_cases hm : i = m
  · subst hm
    simp [h]
  · rw [if_neg hm]
    by_cases h1 : m < i
    · simp only [h1, show m < i + 1 by omega, if_true]
    · simp only [h1, show ¬ m < i + 1 by omega, if_false]
theorem mix_same (f : Device → Device) (l : List Device) (i : Nat) (h : i < l.length) (hf : f l[i] = l[i]) : mix f l i = mix f l (i + 1) := by
  apply List.ext_getElem?; intro m
  rw [mix_at, mix_at]
  by_cases hm : i = m
  · subst hm
    simp [h, hf]
  · by_cases h1 : m < i
    · simp only [h1, show m < i + 1 by omega, if_true]
    · simp only [h1, show ¬ m < i + 1 by omega, if_false]
theorem cloneDevS (l : List Device) (hl : l.length ≤ 1048576) : G141 (l, ()) = some (l, ()) := by
  unfold G141 F141 emptyK
  cases l with
  | nil => rw [capK_le (by simp)]; exact both_self'
  | cons x l => rw [capK_le (by simp at hl ⊢; omega)]; rfl
theorem cloneGustS (l : List Gust) (hl : l.length ≤ 1048576) : G143 (l, ()) = some (l, ()) := by
  unfold G143 F143 emptyK
  cases l with
  | nil => rw [capK_le (by simp)]; exact both_self'
  | cons x l => rw [capK_le (by simp at hl ⊢; omega)]; rfl
def shW (y : Place) (d : Device) : Device := if d.Kind = 1 then d else ⟨d.Name, d.Kind, d.Line, ⟨w64 (d.At.X + y.X), w64 (d.At.Y + y.Y)⟩, d.Heading, d.Tilt, d.Most⟩
theorem shW_name (y : Place) (d : Device) : (shW y d).Name = d.Name ∧ (shW y d).Line = d.Line := by
  unfold shW; split <;> exact ⟨rfl, rfl⟩
theorem dev_pl {d : Device} (h : devB d = true) : isPl d.At = true := by
  obtain ⟨h1, h2, _⟩ := dev_bound h
  unfold isPl
  rw [wi_of h1.1 h1.2, wi_of h2.1 h2.2]; rfl
theorem addPlW {p y : Place} (hp : isPl p = true) (hy : isPl y = true) : G142 (p, y, ()) = some (if isPl ⟨w64 (p.X + y.X), w64 (p.Y + y.Y)⟩ = true then (⟨w64 (p.X + y.X), w64 (p.Y + y.Y)⟩, true, ()) else (⟨0, 0⟩, false, ())) := by
  have q1 : G65 (p, ()) = some (isPl p, ()) := placeI p
  have q2 : G65 (y, ()) = some (isPl y, ()) := placeI y
  have q3 : G65 ((⟨w64 (p.X + y.X), w64 (p.Y + y.Y)⟩ : Place), ()) = some (isPl ⟨w64 (p.X + y.X), w64 (p.Y + y.Y)⟩, ()) := placeI _
  unfold G142 F142 G178 F178
  simp only [q1, q2, hp, hy, Option.bind_some, Bool.not_true, Bool.not_false, cond_true, cond_false, q3]
  cases isPl ⟨w64 (p.X + y.X), w64 (p.Y + y.Y)⟩ <;> rfl
def shB (y : Place) (l : List Device) : Bool := (List.range l.length).all fun i => ((l[i]?).map fun d => devB (shW y d)).getD true
theorem shiftI_is {l : List Device} (h : RigP l) {y : Place} (hy : isPl y = true) : G81 (l, y, ()) = cond (shB y l) (some (l.map (shW y), true, ())) (some (([] : List Device), false, ())) := by
  have hlen := h.len
  have hl : l.length ≤ 1048576 := by omega
  have hR : G83 (l, ()) = some (true, ()) := by rw [rigI_is l hl (rig_devs h), (rigB_iff l).2 h]
  have q2 : G65 (y, ()) = some (isPl y, ()) := placeI y
  unfold G81 F81
  simp only [hR, q2, hy, cloneDevS l hl, Option.bind_some, Bool.not_true, Bool.not_false, cond_true, cond_false]
  have run := iterF_chk (f := s81_0 G83 G65 G141 G142 G20) (K := fun t10 => some (t10.2.1, true, ())) (fun i => (y, mix (shW y) l i, (), Int.ofNat l.length, (i : Int), ())) (fun i => ((l[i]?).map fun d => devB (shW y d)).getD true) (some (([] : List Device), false, ())) l.length (by omega)
    (by
      intro i hi rec K
      have hx0 : l[i]? = some l[i] := by simp
      have hx : (mix (shW y) l i)[i]? = some l[i] := by rw [mix_at]; simp [hi]
      have hx' := fun (K : Device → Option (List Device × Bool × Unit)) => rdL_at (K := K) hx
      have e1 : w64 ((i : Int) + 1) = ((i + 1 : Nat) : Int) := w64_id (by omega) (by omega)
      have hm : l[i] ∈ l := by simp
      have hdv := h.dev _ hm
      simp only [s81_0]
      rw [cond_true_dec (by simp; omega), hx0]
      simp only [hx', hx, Int.toNat_natCast, Option.bind_some, Option.map_some, Option.getD_some, e1]
      by_cases k1 : l[i].Kind = 1
      · have es : shW y l[i] = l[i] := by unfold shW; rw [if_pos k1]
        rw [cond_true_dec k1, es, hdv, mix_same (shW y) l i hi es]
        rfl
      · have ed : shW y l[i] = ⟨l[i].Name, l[i].Kind, l[i].Line, ⟨w64 (l[i].At.X + y.X), w64 (l[i].At.Y + y.Y)⟩, l[i].Heading, l[i].Tilt, l[i].Most⟩ := by unfold shW; rw [if_neg k1]
        rw [cond_false_dec k1, addPlW (dev_pl hdv) hy]
        have hz : (mix (shW y) l (i + 1))[i]? = some (shW y l[i]) := by rw [mix_at]; simp [hi]
        have hz' := fun (K : Device → Option (List Device × Bool × Unit)) => rdL_at (K := K) hz
        have hset := mix_set (shW y) l i hi
        have hnl := rig_devs h _ hm
        have hdI : G20 (shW y l[i], ()) = some (devB (shW y l[i]), ()) := (devB_is (shW y l[i]) (by rw [(shW_name y _).1]; exact hnl.1) (by rw [(shW_name y _).2]; exact hnl.2)).2
        by_cases hp : isPl ⟨w64 (l[i].At.X + y.X), w64 (l[i].At.Y + y.Y)⟩ = true
        · rw [if_pos hp]
          simp only [Option.bind_some, Bool.not_true, Bool.not_false, cond_true]
          rw [← ed, hset]
          simp only [hz', hz, Option.bind_some, hdI]
          cases devB (shW y l[i]) <;> rfl
        · rw [if_neg hp]
          have hno : devB (shW y l[i]) = false := by
            cases hb : devB (shW y l[i])
            · rfl
            · have := dev_pl hb
              rw [ed] at this
              exact absurd this hp
          rw [hno]
          simp only [Option.bind_some, Bool.not_true, Bool.not_false, cond_false])
    (by
      intro rec K
      simp only [s81_0]
      rw [cond_false_dec (by simp)])
  rw [mix_zero, mix_all] at run
  exact run
theorem hd4_zero {x : Int} (h : 0 ≤ x ∧ x ≤ 3) : hd4 x 0 = x := by
  unfold hd4
  rw [if_pos (wi_of h.1 h.2)]
  omega
theorem dev_head {d : Device} (h : devB d = true) (hk : d.Kind = 2) : 0 ≤ d.Heading ∧ d.Heading ≤ 3 := by
  unfold devB at h
  rw [Bool.and_eq_true] at h
  have h := h.2
  rw [if_neg (by rw [hk]; decide), if_pos hk] at h
  simp only [Bool.and_eq_true] at h
  have J := (jet_ok h.2.2.1).h
  simpa [devJ] using J
theorem shiftS_is {l : List Device} (h : RigP l) {y : Place} (hy : isPl y = true) : G96 (l, y, ()) = cond (shB y l) (some (l.map (shW y), true, ())) (some (([] : List Device), false, ())) := by
  have hlen := h.len
  have hl : l.length ≤ 1048576 := by omega
  have hR : G149 (l, ()) = some (true, ()) := by rw [rigS_is l hl (rig_devs h), (rigB_iff l).2 h]
  have q2 : G70 (y, ()) = some (isPl y, ()) := placeS y
  unfold G96 F96 G158 F158
  simp only [hR, q2, hy, Option.bind_some, Bool.not_true, Bool.not_false, cond_true, cond_false]
  have run := iterF_chk (f := s158_0 G189 G188 G190 G21) (K := fun t11 => some (t11.2.2.1, true, ())) (fun i => ((0 : Int), y, (l.take i).map (shW y), l, Int.ofNat l.length, (i : Int), ())) (fun i => ((l[i]?).map fun d => devB (shW y d)).getD true) (some (([] : List Device), false, ())) l.length (by omega)
    (by
      intro i hi rec K
      have hx : l[i]? = some l[i] := by simp
      have e1 : w64 ((i : Int) + 1) = ((i + 1 : Nat) : Int) := w64_id (by omega) (by omega)
      have hm : l[i] ∈ l := by simp
      have hdv := h.dev _ hm
      have hnl := rig_devs h _ hm
      have hdS : G21 (shW y l[i], ()) = some (devB (shW y l[i]), ()) := (devB_is (shW y l[i]) (by rw [(shW_name y _).1]; exact hnl.1) (by rw [(shW_name y _).2]; exact hnl.2)).1
      have hcap : ((l.take i).map (shW y)).length + 1 ≤ 1099511627776 := by simp; omega
      rw [← map_take_snoc (shW y) l i hi]
      simp only [s158_0]
      rw [cond_true_dec (by simp; omega), rdL_at hx, hx]
      simp only [Option.map_some, Option.getD_some]
      have ht : ∀ p : Place, G189 (p, 0, ()) = some (p, ()) := fun p => turnS' p 0
      have ha : ∀ p q : Place, G188 (p, q, ()) = some (⟨w64 (p.X + q.X), w64 (p.Y + q.Y)⟩, ()) := fun p q => rfl
      have hh : ∀ x : Int, G190 (x, 0, ()) = some (hd4 x 0, ()) := fun x => thS x 0
      by_cases k1 : l[i].Kind = 1
      · have es : shW y l[i] = l[i] := by unfold shW; rw [if_pos k1]
        rw [es] at hdS ⊢
        rw [decide_eq_true k1]
        simp only [Bool.not_true, cond_false]
        rw [cond_false_dec (by omega), hdS, hdv]
        simp only [Option.bind_some, Bool.not_true, cond_false, cond_true]
        rw [capK_le (by simpa using hcap), e1]
      · have ed : shW y l[i] = ⟨l[i].Name, l[i].Kind, l[i].Line, ⟨w64 (l[i].At.X + y.X), w64 (l[i].At.Y + y.Y)⟩, l[i].Heading, l[i].Tilt, l[i].Most⟩ := by unfold shW; rw [if_neg k1]
        rw [decide_eq_false k1]
        simp only [Bool.not_false, cond_true, ht, ha, Option.bind_some]
        by_cases k2 : l[i].Kind = 2
        · rw [cond_true_dec k2]
          simp only [hh, Option.bind_some, hd4_zero (dev_head hdv k2)]
          rw [← ed, hdS]
          simp only [Option.bind_some]
          cases devB (shW y l[i])
          · rfl
          · simp only [Bool.not_true, cond_false, cond_true]
            rw [capK_le (by simpa using hcap), e1]
        · rw [cond_false_dec k2]
          rw [← ed, hdS]
          simp only [Option.bind_some]
          cases devB (shW y l[i])
          · rfl
          · simp only [Bool.not_true, cond_false, cond_true]
            rw [capK_le (by simpa using hcap), e1])
    (by
      intro rec K
      simp only [s158_0]
      rw [cond_false_dec (by simp)])
  have run : iterF (s158_0 G189 G188 G190 G21) fuel ((0 : Int), y, ([] : List Device), l, Int.ofNat l.length, 0, ()) (fun t11 => some (t11.2.2.1, true, ())) = _ := run
  rw [run]
  unfold shB
  cases (List.range l.length).all fun i => ((l[i]?).map fun d => devB (shW y d)).getD true
  · rfl
  · simp only [List.take_length, cond_true, Option.bind_some]
theorem shift_rig (l : List Device) (hl : l.length ≤ 1048576) (hn : DevsOK l) (y : Place) : ∃ R b, G96 (l, y, ()) = some (R, b, ()) ∧ G81 (l, y, ()) = some (R, b, ()) ∧ R.length ≤ l.length := by
  cases hr : rigB l
  · refine ⟨[], false, ?_, ?_, by simp⟩
    · unfold G96 F96
      simp only [rigS_is l hl hn, hr, Option.bind_some]
      rfl
    · unfold G81 F81
      simp only [rigI_is l hl hn, hr, Option.bind_some]
      rfl
  · cases hp : isPl y
    · have q2 : G70 (y, ()) = some (isPl y, ()) := placeS y
      have q3 : G65 (y, ()) = some (isPl y, ()) := placeI y
      refine ⟨[], false, ?_, ?_, by simp⟩
      · unfold G96 F96
        simp only [rigS_is l hl hn, hr, q2, hp, Option.bind_some]
        rfl
      · unfold G81 F81
        simp only [rigI_is l hl hn, hr, q3, hp, Option.bind_some]
        rfl
    · have h := (rigB_iff l).1 hr
      rw [shiftI_is h hp, shiftS_is h hp]
      cases shB y l
      · exact ⟨[], false, rfl, rfl, by simp⟩
      · exact ⟨l.map (shW y), true, rfl, rfl, by simp⟩
theorem copyDevS (l : List Device) (hl : l.length ≤ 1048576) : G159 (l, ()) = some (l, ()) := by
  unfold G159 F159
  rw [capK_le (by simp; omega)]; rfl
theorem copyShowS (s : ShowT) (h : ShowOK s) : G97 (s, ()) = some (s, ()) := by
  have h1 := copyDevS s.1 h.rig
  have h2 : G160 (s.2.1, ()) = some (s.2.1, ()) := copyCue s.2.1 h.score
  have h3 := h.wind
  unfold G97 F97
  simp only [h1, h2, Option.bind_some]
  rw [capK_le (by simp; omega)]
  rfl
theorem cloneShowS (s : ShowT) (h : ShowOK s) : G82 (s, ()) = some (s, ()) := by
  have c1 := cloneDevS s.1 h.rig
  have c2 : G54 (s.2.1, ()) = some (s.2.1, ()) := cloneCue s.2.1 h.score
  have c3 := cloneGustS s.2.2.1 h.wind
  unfold G82 F82
  simp only [c1, c2, c3, Option.bind_some]
theorem shift_ok (s : ShowT) (h : ShowOK s) (y : Place) : ∃ (x : ShowT) (b : Bool), G42 (s, y, ()) = some (x, b, ()) ∧ G30 (s, y, ()) = some (x, b, ()) ∧ x.1.length ≤ 1048576 ∧ x.2.1.length ≤ 1048576 ∧ x.2.2.1.length ≤ 1048576 := by
  obtain ⟨R, b, g1, g2, hR⟩ := shift_rig s.1 h.rig h.devs y
  have hlen := h.rig
  unfold G42 F42 G30 F30
  simp only [es_show, g1, g2, showS_is s h, showI_is s h, copyShowS s h, cloneShowS s h, Option.bind_some]
  cases showB s
  · exact ⟨([], [], [], 0, ()), false, rfl, rfl, by simp, by simp, by simp⟩
  · cases b
    · exact ⟨([], [], [], 0, ()), false, rfl, rfl, by simp, by simp, by simp⟩
    · exact ⟨(R, s.2.1, s.2.2.1, s.2.2.2.1, ()), true, rfl, rfl, by simp only; omega, h.score, h.wind⟩
theorem G9_eq (s : ShowT) (c : Place) (hw : ShowWf s) (hc : Wf .place c) : G9 (s, c, ()) = some (true, ()) := by
  obtain ⟨x, hx, hxx⟩ := szShow_ok s hw 1048576 (by omega)
  have hx : G41 (s, 1048576, ()) = some (x, ()) := hx
  unfold G9 F9
  simp only [es_show]
  rw [hx]
  simp only [Option.bind_some]
  by_cases h0 : x < 0
  · rw [cond_true_dec h0]
  · rw [cond_false_dec h0]
    obtain ⟨hx1, hs⟩ := hxx (by omega)
    have ht : G43 (s, ()) = some (s, ()) := toShow_ok s hs
    have he : G45 (s, s, ()) = some (true, ()) := eqShow_ok s hs
    have p3 : G44 (c, ()) = some (c, ()) := rfl
    obtain ⟨y, v, g1, g2, l1, l2, l3⟩ := shift_ok s hs c
    have q1 : G45 (y, y, ()) = some (true, ()) := eqShow_any y l1 l2 l3
    have m1 := markShow_ok 0 0 0 s.1 s.2.1 s.2.2.1 s.2.2.2.1 hs.rig hs.score hs.wind
    have m1 : G46 (s, 1, ()) = _ := m1
    have m2 := markShow_ok 0 0 0 y.1 y.2.1 y.2.2.1 y.2.2.2.1 l1 l2 l3
    have m2 : G46 (y, 1, ()) = _ := m2
    have m3 := heldShow_ok y.1.length y.2.1.length y.2.2.1.length y.2.2.2.1 l1 l2 l3
    have m3 : G47 (_, 1, ()) = _ := m3
    have c2 : ¬ (1 + 8 * (s.1.length : Int) + 4 * (s.2.1.length : Int) + 3 * (s.2.2.1.length : Int) < 0) := by omega
    have c3 : ¬ (1 + 8 * (y.1.length : Int) + 4 * (y.2.1.length : Int) + 3 * (y.2.2.1.length : Int) < 0) := by omega
    simp only [ht, p3, Option.bind_some, es_show, g1, g2, he, q1, m1, m2, m3, c2, c3, decide_true, decide_false, Bool.not_true, Bool.not_false, cond_true, cond_false]
end Ev
namespace Go.Proofs.Ytjdnadolocbjoaa.fnExactShiftShow
open Go.ChangeShapes Go.WideShapes Go.ChangeAt Go.RowKit
open Go.ChangeMaps (open_string shut_string)
theorem own : ownKnob Try.prog.godebug = none := by kernel_rfl
theorem laidOut : laidOutB Try.prog = true := by kernel_rfl
theorem lifted (os : Os) (started : os.Started) (H : Type) (enc : TypeId × Value → H) :
    ReturnsInHanded {} Try.checked os 9 .any (Rows.fnExactShiftShowSpec.pre6 enc Try.prog Try.f9 Rows.fnExactShiftShowRow.domain false) (Rows.fnExactShiftShowSpec.post enc Try.prog Try.f9 false true false false) := by
  refine returnsInHanded_of_change_sized (C := Try.checked) own started (by kernel_rfl) Try.func9
    (ChangeSpec.witness6 (enc := enc) (C := Try.checked) false ⟨#[], #[.agg #[.slice none 0 0, .slice none 0 0, .slice none 0 0, .int .i64 0], .agg #[.int .i64 0, .int .i64 0]], []⟩ 8 (by kernel_rfl) (by kernel_rfl) (by kernel_rfl) (by kernel_rfl)) ?_
  intro W base args ds gs before hval0 hW hcnd hsz0 _
  have hval : ∀ (j : Nat) t v, Try.f9.params[j]? = some t → args[j]? = some v → Value.okWide Try.prog W .any base t v := hval0
  have hW' := hW
  obtain ⟨p, q, hA0, hV, rfl, hfz, hnd⟩ := hW
  have hA : DataW.TrodAll enc Try.prog W 0 (fun _ => true) true Try.f9.params.toList args.toList ds p := hA0
  rw [Try.params9] at hA hval
  obtain ⟨v0, vs0, d0, ds0, p0, q0, hargs, rfl, rfl, h0, r0⟩ := trodAll_cons hA
  obtain ⟨v1, vs1, d1, ds1, p1, q1, rfl, rfl, rfl, h1, r1⟩ := trodAll_cons r0
  obtain ⟨rfl, rfl, rfl⟩ := trodAll_nil r1
  obtain rfl : args = #[v0, v1] := by cases args; simp_all
  obtain ⟨rfl, rfl⟩ := trodVars_none hV
  obtain ⟨ca0, rfl, sz0⟩ := okWide_struct Try.underlying82 (hval 0 82 v0 rfl rfl)
  have k0 := h0
  have lt0 : ∀ x ∈ p0, x.block < W.heap.size := by obtain ⟨m, hm⟩ := k0; exact DataW.trod_lt m _ _ _ hm
  obtain ⟨x0, hrel0, wf0⟩ : ∃ x : Ev.ShowT, Ev.RelA (fun _ => none) (fun b => b < W.heap.size) W (.agg [.lst .device x.1, .lst .cue x.2.1, .lst .gust x.2.2.1, .int .i64 x.2.2.2.1]) (.agg ca0) ∧ Ev.ShowWf x := by
    obtain ⟨fuel, hf⟩ := h0
    exact Ev.open_show (Ev.kinds_open (Ev.seB_ok (l := [(179, .device), (181, .cue), (187, .gust)]) (by kernel_rfl)) (n := 4) (ks := [.sl .device, .sl .cue, .sl .gust, .int .i64]) (by kernel_rfl) hf)
  obtain ⟨ca1, rfl, sz1⟩ := okWide_struct Try.underlying83 (hval 1 83 v1 rfl rfl)
  have k1 := h1
  have lt1 : ∀ x ∈ p1, x.block < W.heap.size := by obtain ⟨m, hm⟩ := k1; exact DataW.trod_lt m _ _ _ hm
  obtain ⟨x1, hca1, wf1⟩ : ∃ d : Ev.Ty.den .place, ca1.toList = (Ev.Ty.cells .place d).map Ev.sv ∧ Ev.Wf .place d := by
    obtain ⟨fuel, hf⟩ := h1
    exact Ev.open_struct (l := [(179, .device), (181, .cue), (187, .gust)]) (by kernel_rfl) .place (by kernel_rfl) hf
  clear hA0 hval0 hsz0
  refine (Ev.calls_true (av := [.agg [.lst .device x0.1, .lst .cue x0.2.1, .lst .gust x0.2.2.1, .int .i64 x0.2.2.2.1], .agg (Ev.Ty.cells .place x1)]) (out := []) Ev.okG9 (by
    exact Ev.sem_of (ps := Ev.p9) (rs := Ev.r9) (a := (x0, x1, ())) rfl (Ev.G9_eq x0 x1 wf0 wf1)) (w := W) (ca := #[.agg ca0, .agg ca1]) rfl (Ev.args_arr (Ev.argsS (hrel0) (Ev.argsS (Ev.relA_agg _ x1 hca1) Ev.args0)))).mono fun e W' ⟨he, bel⟩ => ?_
  subst he
  exact ⟨_, rfl, _, _, _, [], _, [], hW', trodAll_mk1 (shut_bool Try.underlying4 _), (trodAll_cons_mk (Below.trod laidOut (by kernel_rfl) (of_decide_eq_true (by kernel_rfl)) k0 bel lt0) (trodAll_cons_mk (Below.trod laidOut (by kernel_rfl) (of_decide_eq_true (by kernel_rfl)) k1 bel lt1) trodAll_mk0)), rfl, bel.frame _, fun h => by cases h⟩
theorem over : Rows.fnExactShiftShowRow.holds Try.pinned (OpenSpec.ofChange Rows.fnExactShiftShowSpec) :=
  OpenClaim.holds_of_wide 9 Try.f9 rfl rfl rfl rfl rfl rfl rfl ⟨rfl, rfl, rfl, rfl, rfl⟩ rfl rfl rfl rfl rfl (by kernel_rfl) Try.func9 (by kernel_rfl)
    (of_decide_eq_true (by kernel_rfl)) (by unfold Func.isWrapper; first | (rw [if_pos (by decide +kernel)]; kernel_rfl) | (rw [if_neg (by decide +kernel)]; exact ⟨rfl, rfl⟩))
    (fun os started H enc _ => lifted os started H enc)
theorem proved : Rows.FnExactShiftShowSaid := over
#print axioms proved
end Go.Proofs.Ytjdnadolocbjoaa.fnExactShiftShow
