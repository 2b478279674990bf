/- A track holds the level of each tick, and later the track is the same six ticks later: on no condition. -/
import Derived.Test.YtjdnadolocbjoaaRows
import Derived.Test.YtjdnadolocbjoaaDrawA
import Derived.Test.YtjdnadolocbjoaaPureA
import Derived.WalkKit
import Derived.ProofKit
import Derived.OpenShut
import Derived.ShutString
import Derived.ChangeOld
import Derived.Below
import Derived.SizedLaws
set_option linter.unusedVariables false
set_option linter.unusedSimpArgs false
set_option maxRecDepth 100000
namespace Ev
open Go
def mixC (f : Cue → Cue) (l : List Cue) (i : Nat) : List Cue := l.mapIdx fun m d => if m < i then f d else d
theorem mixC_at (f : Cue → Cue) (l : List Cue) (i m : Nat) : (mixC f l i)[m]? = (l[m]?).map fun d => if m < i then f d else d := by
  unfold mixC; rw [List.getElem?_mapIdx]
theorem mixC_len (f : Cue → Cue) (l : List Cue) (i : Nat) : (mixC f l i).length = l.length := by unfold mixC; simp
theorem mixC_zero (f : Cue → Cue) (l : List Cue) : mixC f l 0 = l := by
  apply List.ext_getElem?; intro m
  rw [mixC_at]
  cases l[m]? <;> simp
theorem mixC_all (f : Cue → Cue) (l : List Cue) : mixC f l l.length = l.map f := by
  apply List.ext_getElem?; intro m
  rw [mixC_at, List.getElem?_map]
  by_cases h : m < l.length
  · simp only [h, if_true]
  · rw [List.getElem?_eq_none (by omega)]; rfl
theorem mixC_set (f : Cue → Cue) (l : List Cue) (i : Nat) (h : i < l.length) : (mixC f l i).set i (f l[i]) = mixC f l (i + 1) := by
  apply List.ext_getElem?; intro m
  rw [List.getElem?_set, mixC_at, mixC_at, mixC_len]
  by_cases hm : i = m
  · subst hm
    simp [h]
  · rw [if_neg hm]
    by_cases h1 : m < i
    · simp only [h1, show m < i + 1 by omega, if_true]
    · simp only [h1, show ¬ m < i + 1 by omega, if_false]
/-! Levels as a fold -/
noncomputable def rampV (a b i n : Int) : Int := ((G53 (a, b, i, n, ())).map fun x => x.1).getD 0
theorem rampV_is {a b i n : Int} (ha : 0 ≤ a ∧ a ≤ 32) (hb : 0 ≤ b ∧ b ≤ 32) (hn : 0 ≤ n ∧ n ≤ 16) : G53 (a, b, i, n, ()) = some (rampV a b i n, ()) ∧ 0 ≤ rampV a b i n ∧ rampV a b i n ≤ 32 := by
  obtain ⟨v, hv, h2⟩ := ramp_in (i := i) ha hb hn
  have : rampV a b i n = v := by unfold rampV; rw [hv]; rfl
  rw [this]; exact ⟨hv, h2⟩
theorem rampV_zero {i : Int} (hi : 0 ≤ i) : rampV 0 0 i 0 = 0 := by
  have m1 : G115 (0, ()) = some (wi 0 (-4096) 4096, ()) := measI _
  have m2 : wi 0 (-4096) 4096 = true := by decide
  unfold rampV G53 F53
  simp only [m1, m2, Option.bind_some, Bool.not_true, Bool.not_false, cond_true, cond_false]
  rw [cond_true_dec hi]
  rfl
noncomputable def LS (name : Str) (t : Int) (st : Int × Cue) (c : Cue) : Int × Cue := if c.Name = name ∧ c.Tick ≤ t then (rampV st.1 st.2.Level (c.Tick - st.2.Tick) st.2.Ramp, c) else st
structure StP (st : Int × Cue) : Prop where
  acc : 0 ≤ st.1 ∧ st.1 ≤ 32
  lev : 0 ≤ st.2.Level ∧ st.2.Level ≤ 32
  ramp : 0 ≤ st.2.Ramp ∧ st.2.Ramp ≤ 16
  tick : 0 ≤ st.2.Tick ∧ st.2.Tick ≤ 64
theorem cue_p {c : Cue} (h : isCue c = true) : (0 ≤ c.Tick ∧ c.Tick ≤ 64) ∧ (0 ≤ c.Level ∧ c.Level ≤ 32) ∧ 0 ≤ c.Ramp ∧ c.Ramp ≤ 16 := by
  unfold isCue at h
  simp only [Bool.and_eq_true] at h
  exact ⟨wi_true.1 h.1, wi_true.1 h.2.2.1, wi_true.1 h.2.2.2⟩
theorem LS_ok (name : Str) (t : Int) {st : Int × Cue} {c : Cue} (hc : isCue c = true) (h : StP st) : StP (LS name t st c) := by
  unfold LS
  obtain ⟨c1, c2, c3⟩ := cue_p hc
  split
  · exact ⟨(rampV_is h.acc h.lev h.ramp).2, c2, c3, c1⟩
  · exact h
theorem fold_ok (name : Str) (t : Int) : ∀ (l : List Cue) (st : Int × Cue), (∀ c ∈ l, isCue c = true) → StP st → StP (l.foldl (LS name t) st)
  | [], st, _, h => h
  | c :: l, st, hl, h => by
    rw [List.foldl_cons]
    exact fold_ok name t l _ (fun x hx => hl x (by simp [hx])) (LS_ok name t (hl c (by simp)) h)
theorem st_zero : StP (0, (⟨0, [], 0, 0⟩ : Cue)) := ⟨by simp, by simp, by simp, by simp⟩
noncomputable def lvF (l : List Cue) (name : Str) (t : Int) : Int := rampV (l.foldl (LS name t) (0, ⟨0, [], 0, 0⟩)).1 (l.foldl (LS name t) (0, ⟨0, [], 0, 0⟩)).2.Level (t - (l.foldl (LS name t) (0, ⟨0, [], 0, 0⟩)).2.Tick) (l.foldl (LS name t) (0, ⟨0, [], 0, 0⟩)).2.Ramp
theorem scoreI_true {l : List Cue} (h : ScoreP l) : G51 (l, ()) = some (true, ()) := by
  have hlen := h.len
  rw [scI_is l (score_names h) (by omega), (scB_iff (score_names h) (by omega)).2 h]
theorem lvl_fold {l : List Cue} (h : ScoreP l) (name : Str) {t : Int} (h0 : 0 ≤ t) (h1 : t ≤ 100) : G14 (l, name, t, ()) = some (lvF l name t, ()) := by
  have hlen := h.len
  unfold G14 F14
  dsimp only
  rw [scoreI_true h]
  simp only [Option.bind_some, Bool.not_true, Bool.not_false, cond_true]
  rw [cond_false_dec (by omega)]
  have run := iterF_for (f := s14_0 G51 G53) (K := fun t5 => (G53 (t5.2.2.1, t5.2.2.2.1.Level, (w64 (t5.2.1 - t5.2.2.2.1.Tick)), t5.2.2.2.1.Ramp, ())).bind fun x6 => some (x6.1, ()))
    (fun i => (name, t, ((l.take i).foldl (LS name t) (0, ⟨0, [], 0, 0⟩)).1, ((l.take i).foldl (LS name t) (0, ⟨0, [], 0, 0⟩)).2, l, Int.ofNat l.length, (i : Int), ())) l.length (by omega)
    (by
      intro i hi rec K
      have hx : l[i]? = some l[i] := by simp
      have e1 : w64 ((i : Int) + 1) = ((i + 1 : Nat) : Int) := w64_id (by omega) (by omega)
      have sp := fold_ok name t (l.take i) _ (fun c hc => h.cue c (List.mem_of_mem_take hc)) st_zero
      have ef : (l.take (i + 1)).foldl (LS name t) (0, ⟨0, [], 0, 0⟩) = LS name t ((l.take i).foldl (LS name t) (0, ⟨0, [], 0, 0⟩)) l[i] := by
        rw [take_snocG l i hi, List.foldl_append]; rfl
      rw [ef]
      generalize (l.take i).foldl (LS name t) (0, ⟨0, [], 0, 0⟩) = st at sp ⊢
      obtain ⟨g1, g2, g3⟩ := cue_p (h.cue l[i] (by simp))
      have hst := sp.tick
      simp only [s14_0]
      rw [cond_true_dec (by simp; omega), rdL_at hx, e1, w64_id (n := l[i].Tick - st.2.Tick) (by omega) (by omega), (rampV_is sp.acc sp.lev sp.ramp).1]
      unfold LS
      by_cases c1 : l[i].Name = name
      · rw [cond_true_dec c1]
        by_cases c2 : l[i].Tick ≤ t
        · rw [cond_true_dec c2, if_pos ⟨c1, c2⟩]; rfl
        · rw [cond_false_dec c2, if_neg fun h => c2 h.2]
      · rw [cond_false_dec c1, if_neg fun h => c1 h.1])
    (by
      intro rec K
      simp only [s14_0]
      rw [cond_false_dec (by simp)])
  refine run.trans ?_
  rw [List.take_length]
  have sp := fold_ok name t l _ h.cue st_zero
  have hst := sp.tick
  simp only
  rw [w64_id (by omega) (by omega), (rampV_is sp.acc sp.lev sp.ramp).1]
  rfl
/-! Later scores -/
def laC (k : Int) (c : Cue) : Cue := ⟨c.Tick + k, c.Name, c.Level, c.Ramp⟩
def RelS (k : Int) (s s' : Int × Cue) : Prop := s'.1 = s.1 ∧ ((s = (0, ⟨0, [], 0, 0⟩) ∧ s' = s) ∨ s'.2 = laC k s.2)
theorem LS_rel {k : Int} (hk : 0 ≤ k) (name : Str) (t : Int) {s s' : Int × Cue} {c : Cue} (hc : 0 ≤ c.Tick) (h : RelS k s s') : RelS k (LS name t s c) (LS name (t + k) s' (laC k c)) := by
  unfold LS
  by_cases hp : c.Name = name ∧ c.Tick ≤ t
  · rw [if_pos hp, if_pos (show (laC k c).Name = name ∧ (laC k c).Tick ≤ t + k from ⟨hp.1, by have := hp.2; unfold laC; simp only; omega⟩)]
    refine ⟨?_, .inr rfl⟩
    simp only
    rcases h with ⟨e, ⟨rfl, rfl⟩ | e2⟩
    · simp only [laC]
      rw [rampV_zero (by omega), rampV_zero (by omega)]
    · rw [e, e2]
      simp only [laC]
      rw [show c.Tick + k - (s.2.Tick + k) = c.Tick - s.2.Tick by omega]
  · rw [if_neg hp, if_neg fun h => hp ⟨h.1, by have := h.2; unfold laC at this; simp only at this; omega⟩]
    exact h
theorem fold_rel {k : Int} (hk : 0 ≤ k) (name : Str) (t : Int) : ∀ (l : List Cue) (s s' : Int × Cue), (∀ c ∈ l, 0 ≤ c.Tick) → RelS k s s' → RelS k (l.foldl (LS name t) s) ((l.map (laC k)).foldl (LS name (t + k)) s')
  | [], s, s', _, h => h
  | c :: l, s, s', hl, h => by
    rw [List.map_cons, List.foldl_cons, List.foldl_cons]
    exact fold_rel hk name t l _ _ (fun x hx => hl x (by simp [hx])) (LS_rel hk name t (hl c (by simp)) h)
theorem lvF_later {l : List Cue} (h : ScoreP l) {k : Int} (hk : 0 ≤ k) (name : Str) {t : Int} (ht : 0 ≤ t) : lvF (l.map (laC k)) name (t + k) = lvF l name t := by
  have hr := fold_rel hk name t l (0, ⟨0, [], 0, 0⟩) (0, ⟨0, [], 0, 0⟩) (fun c hc => (cue_p (h.cue c hc)).1.1) ⟨rfl, .inl ⟨rfl, rfl⟩⟩
  unfold lvF
  generalize l.foldl (LS name t) (0, ⟨0, [], 0, 0⟩) = s at hr ⊢
  generalize (l.map (laC k)).foldl (LS name (t + k)) (0, ⟨0, [], 0, 0⟩) = s' at hr ⊢
  rcases hr with ⟨e, ⟨rfl, rfl⟩ | e2⟩
  · simp only
    rw [rampV_zero (by omega), rampV_zero (by omega)]
  · rw [e, e2]
    simp only [laC]
    rw [show t + k - (s.2.Tick + k) = t - s.2.Tick by omega]
theorem cmp_later (k : Int) (a b : Cue) : cmpC (laC k a) (laC k b) = cmpC a b := by
  have e : cmpI (a.Tick + k) (b.Tick + k) = cmpI a.Tick b.Tick := by
    have h1 := cmpI_cases a.Tick b.Tick
    have h2 := cmpI_cases (a.Tick + k) (b.Tick + k)
    omega
  unfold cmpC laC
  simp only
  rw [e]
theorem later_p {l : List Cue} (h : ScoreP l) (ht : ∀ c ∈ l, c.Tick < 14) : ScoreP (l.map (laC 6)) := by
  refine ⟨by simpa using h.len, fun c hc => ?_, fun i a b h1 h2 => ?_⟩
  · obtain ⟨x, hx, rfl⟩ := List.mem_map.mp hc
    have hi := h.cue x hx
    have h14 := ht x hx
    have hp := (cue_p hi).1
    unfold isCue laC at *
    simp only [Bool.and_eq_true] at hi ⊢
    exact ⟨wi_of (by omega) (by omega), hi.2⟩
  · rw [List.getElem?_map] at h1 h2
    cases h3 : l[i]? with
    | none => rw [h3] at h1; cases h1
    | some x =>
      cases h4 : l[i + 1]? with
      | none => rw [h4] at h2; cases h2
      | some y =>
        rw [h3] at h1; rw [h4] at h2
        simp only [Option.map_some, Option.some.injEq] at h1 h2
        subst h1 h2
        rw [cmp_later]
        exact h.lt i x y h3 h4
theorem laterI_is {l : List Cue} (h : ScoreP l) (ht : ∀ c ∈ l, c.Tick < 14) : G15 (l, 6, ()) = some (l.map (laC 6), true, ()) := by
  have hlen := h.len
  have hw : G52 (6, 0, 64, ()) = some (wi 6 0 64, ()) := within_is _ _ _
  have hw2 : wi 6 0 64 = true := by decide
  have hcl : G54 (l, ()) = some (l, ()) := cloneCue l (by omega)
  unfold G15 F15
  simp only [scoreI_true h, hw, hw2, hcl, Option.bind_some, Bool.not_true, Bool.not_false, cond_true, cond_false]
  have run := iterF_for (f := s15_0 G51 G52 G54) (K := fun t7 => (G51 (t7.2.1, ())).bind fun x8 => cond (!x8.1) (some (([] : List Cue), false, ())) (some (t7.2.1, true, ())))
    (fun i => ((6 : Int), mixC (laC 6) l i, Int.ofNat l.length, (i : Int), ())) l.length (by omega)
    (by
      intro i hi rec K
      have hx : (mixC (laC 6) l i)[i]? = some l[i] := by rw [mixC_at]; simp [hi]
      have hx' := fun (K : Cue → Option (List Cue × Bool × Unit)) => rdL_at (K := K) hx
      have e1 : w64 ((i : Int) + 1) = ((i + 1 : Nat) : Int) := w64_id (by omega) (by omega)
      have hp := (cue_p (h.cue l[i] (by simp))).1
      simp only [s15_0]
      rw [cond_true_dec (by simp; omega)]
      simp only [hx', hx, Int.toNat_natCast, Option.bind_some, e1]
      rw [w64_id (n := l[i].Tick + 6) (by omega) (by omega)]
      have ed : (⟨l[i].Tick + 6, l[i].Name, l[i].Level, l[i].Ramp⟩ : Cue) = laC 6 l[i] := rfl
      rw [ed, mixC_set _ _ _ hi])
    (by
      intro rec K
      simp only [s15_0]
      rw [cond_false_dec (by simp)])
  rw [mixC_zero, mixC_all] at run
  refine run.trans ?_
  simp only [scoreI_true (later_p h ht), Option.bind_some, Bool.not_true, cond_false]
theorem range_appI (f : Nat → Int) (j : Nat) : (List.range j).map f ++ [f j] = (List.range (j + 1)).map f := by
  rw [List.range_succ, List.map_append]; rfl
noncomputable def trL (l : List Cue) (name : Str) (n : Nat) : List Int := (List.range n).map fun (j : Nat) => lvF l name (j : Int)
theorem trL_len (l : List Cue) (name : Str) (n : Nat) : (trL l name n).length = n := by unfold trL; simp
theorem trL_at (l : List Cue) (name : Str) {n i : Nat} (h : i < n) : (trL l name n)[i]? = some (lvF l name (i : Int)) := by unfold trL; simp [h]
theorem trackI_is {l : List Cue} (h : ScoreP l) (name : Str) {n : Nat} (hn : n ≤ 64) : G12 (l, name, (n : Int), ()) = some (trL l name n, ()) := by
  have hw : G52 ((n : Int), 0, 64, ()) = some (wi (n : Int) 0 64, ()) := within_is _ _ _
  have hw2 : wi (n : Int) 0 64 = true := wi_of (by omega) (by omega)
  unfold G12 F12
  simp only [scoreI_true h, hw, hw2, Option.bind_some, Bool.not_true, Bool.not_false, cond_true, cond_false]
  refine (iterF_for (f := s12_0 G51 G52 G14) (K := fun t5 => some (t5.2.2.1, ())) (fun i => (l, name, trL l name i, (n : Int), (i : Int), ())) n (by omega) ?_ ?_).trans rfl
  · intro i hi rec K
    have e1 : w64 ((i : Int) + 1) = ((i + 1 : Nat) : Int) := w64_id (by omega) (by omega)
    simp only [s12_0]
    rw [cond_true_dec (by omega), lvl_fold h name (by omega) (by omega)]
    simp only [Option.bind_some]
    rw [capK_le (by rw [trL_len]; simp; omega), e1]
    unfold trL
    rw [range_appI fun (j : Nat) => lvF l name (j : Int)]
  · intro rec K
    simp only [s12_0]
    rw [cond_false_dec (by omega)]
theorem isTrackI_is {L : List Int} (h : ∀ x ∈ L, 0 ≤ x ∧ x ≤ 32) (hl : L.length ≤ 64) : G13 (L, ()) = some (true, ()) := by
  unfold G13 F13
  refine (iterF_for (f := s13_0 G52) (K := fun t4 => some ((decide ((Int.ofNat (List.length t4.1)) ≤ 64)), ())) (fun i => (L, L, Int.ofNat L.length, (i : Int), ())) L.length (by omega) ?_ ?_).trans ?_
  · intro i hi rec K
    have hx : L[i]? = some L[i] := by simp
    have e1 : w64 ((i : Int) + 1) = ((i + 1 : Nat) : Int) := w64_id (by omega) (by omega)
    have hw : G52 (L[i], 0, 32, ()) = some (wi L[i] 0 32, ()) := within_is _ _ _
    have hm := h L[i] (by simp)
    simp only [s13_0]
    rw [cond_true_dec (by simp; omega), rdL_at hx, hw, wi_of hm.1 hm.2, e1]
    rfl
  · intro rec K
    simp only [s13_0]
    rw [cond_false_dec (by simp)]
  · simp only
    rw [decide_eq_true (by simp; omega)]
theorem trL_in {l : List Cue} (h : ScoreP l) (name : Str) (n : Nat) : ∀ x ∈ trL l name n, 0 ≤ x ∧ x ≤ 32 := fun x hx => by
  unfold trL at hx
  obtain ⟨j, _, rfl⟩ := List.mem_map.mp hx
  have sp := fold_ok name (j : Int) l _ h.cue st_zero
  exact (rampV_is sp.acc sp.lev sp.ramp).2
theorem intsL_self (L : List Int) (hl : L.length ≤ 1048576) : G17 (L, L, ()) = some (true, ()) := by
  unfold G17 F17
  simp only [decide_true, Bool.not_true, cond_false]
  refine (iterF_for (f := s17_0) (K := fun t4 => some (true, ())) (fun i => (L, L, (i : Int), ())) L.length (by omega) ?_ ?_).trans rfl
  · intro i hi rec K
    have hx : L[i]? = some L[i] := by simp
    have e1 : w64 ((i : Int) + 1) = ((i + 1 : Nat) : Int) := w64_id (by omega) (by omega)
    simp only [s17_0]
    rw [cond_true_dec (by simp; omega), rdL_at hx, rdL_at hx, e1]
    simp only [decide_true, Bool.not_true, cond_false]
  · intro rec K
    simp only [s17_0]
    rw [cond_false_dec (by simp)]
theorem cloneIntI (l : List Int) (hl : l.length ≤ 1048576) : G55 (l, ()) = some (l, ()) := by
  unfold G55 F55 emptyK
  cases l with
  | nil => rw [capK_le (by simp)]; exact both_self'
  | cons x l => rw [capK_le (by simp at hl ⊢; omega)]; rfl
theorem windowI_is {L : List Int} (h : ∀ x ∈ L, 0 ≤ x ∧ x ≤ 32) (hl : L.length = 36) : G16 (L, 6, 36, ()) = some (L.drop 6, true, ()) := by
  unfold G16 F16
  simp only [isTrackI_is h (by omega), Option.bind_some, Bool.not_true, Bool.not_false, cond_true]
  rw [decide_eq_false (show ¬ (6 : Int) < 0 by decide), decide_eq_false (show ¬ (36 : Int) < 6 by decide), decide_eq_false (show ¬ (36 : Int) > Int.ofNat L.length by rw [hl]; decide)]
  simp only [Bool.not_false, cond_true, cond_false]
  unfold okIf
  rw [if_pos ⟨by decide, by decide, by rw [hl]; decide⟩]
  have e : List.take (Int.toNat 36) L = L := List.take_of_length_le (by rw [hl]; decide)
  rw [e, cloneIntI _ (by simp; omega)]
  rfl
theorem G3_eq (b : List Int) (hw : (∀ d ∈ b, Wf .u8 d) ∧ b.length ≤ maxLen) : G3 (b, ()) = some (true, ()) := by
  unfold G3 F3 G10 F10
  simp only [Option.bind_some]
  by_cases hb : b.length ≤ 4096
  · rw [cond_false_dec (by simp; omega)]
    obtain ⟨⟨l, name, u⟩, e, hs, hnm, ht⟩ := drawScore_w hb
    have hs : ScoreP l := hs
    have ht : ∀ c ∈ l, c.Tick < 14 := ht
    rw [e]
    have t30 := trackI_is hs name (show 30 ≤ 64 by decide)
    have t36 := trackI_is (later_p hs ht) name (show 36 ≤ 64 by decide)
    have t30 : G12 (l, name, 30, ()) = some (trL l name 30, ()) := t30
    have t36 : G12 (l.map (laC 6), name, 36, ()) = some (trL (l.map (laC 6)) name 36, ()) := t36
    simp only [Option.bind_some, t30, isTrackI_is (trL_in hs name 30) (by rw [trL_len]; decide), trL_len]
    rw [decide_eq_true (by decide)]
    simp only [Bool.not_true, Bool.not_false, cond_true, cond_false]
    refine (iterF_for (f := s3_0 G10 G11 G12 G13 G14 G15 G16 G17) (fun i => (l, name, trL l name 30, (i : Int), ())) 30 (by omega) ?_ ?_).trans ?_
    · intro i hi rec K
      have hx := trL_at l name hi
      have hx' := fun (K : Int → Option (Bool × Unit)) => rdL_at (K := K) hx
      have e1 : w64 ((i : Int) + 1) = ((i + 1 : Nat) : Int) := w64_id (by omega) (by omega)
      simp only [s3_0]
      rw [cond_true_dec (by omega)]
      simp only [hx', hx, Int.toNat_natCast, Option.bind_some, lvl_fold hs name (show 0 ≤ (i : Int) by omega) (show (i : Int) ≤ 100 by omega), decide_true, Bool.not_true, cond_false, e1]
    · intro rec K
      simp only [s3_0]
      rw [cond_false_dec (by omega)]
    · have ed : (trL (l.map (laC 6)) name 36).drop 6 = trL l name 30 := by
        apply List.ext_getElem?; intro m
        rw [List.getElem?_drop]
        by_cases hm : m < 30
        · rw [trL_at _ _ (by omega), trL_at _ _ hm]
          have := lvF_later hs (k := 6) (by omega) name (t := (m : Int)) (by omega)
          rw [← this]
          congr 2
          omega
        · rw [List.getElem?_eq_none (by rw [trL_len]; omega), List.getElem?_eq_none (by rw [trL_len]; omega)]
      simp only [laterI_is hs ht, t36, windowI_is (trL_in (later_p hs ht) name 36) (trL_len _ _ _), ed, intsL_self _ (show (trL l name 30).length ≤ 1048576 by rw [trL_len]; decide), Option.bind_some, cond_true]
  · rw [cond_true_dec (by simp; omega)]
end Ev
namespace Go.Proofs.Ytjdnadolocbjoaa.fnTrackLevels
open Go.ChangeShapes Go.WideShapes Go.ChangeAt Go.RowKit
open Go.ChangeMaps (open_string shut_string)
theorem own : ownKnob Try.prog.godebug = none := by kernel_rfl
theorem laidOut : laidOutB Try.prog = true := by kernel_rfl
theorem lifted (os : Os) (started : os.Started) (H : Type) (enc : TypeId × Value → H) :
    ReturnsInHanded {} Try.checked os 3 .any (Rows.fnTrackLevelsSpec.pre6 enc Try.prog Try.f3 Rows.fnTrackLevelsRow.domain false) (Rows.fnTrackLevelsSpec.post enc Try.prog Try.f3 false true false false) := by
  refine returnsInHanded_of_change_sized (C := Try.checked) own started (by kernel_rfl) Try.func3
    (ChangeSpec.witness6 (enc := enc) (C := Try.checked) false ⟨#[], #[.slice none 0 0], []⟩ 8 (by kernel_rfl) (by kernel_rfl) (by kernel_rfl) (by kernel_rfl)) ?_
  intro W base args ds gs before hval0 hW hcnd hsz0 _
  have hval : ∀ (j : Nat) t v, Try.f3.params[j]? = some t → args[j]? = some v → Value.okWide Try.prog W .any base t v := hval0
  have hW' := hW
  obtain ⟨p, q, hA0, hV, rfl, hfz, hnd⟩ := hW
  have hA : DataW.TrodAll enc Try.prog W 0 (fun _ => true) true Try.f3.params.toList args.toList ds p := hA0
  rw [Try.params3] at hA hval
  obtain ⟨v0, vs0, d0, ds0, p0, q0, hargs, rfl, rfl, h0, r0⟩ := trodAll_cons hA
  obtain ⟨rfl, rfl, rfl⟩ := trodAll_nil r0
  obtain rfl : args = #[v0] := by cases args; simp_all
  obtain ⟨rfl, rfl⟩ := trodVars_none hV
  obtain ⟨a0, len0, cap0, rfl⟩ := okWide_slice Try.underlying22 (hval 0 22 v0 rfl rfl)
  have k0 := h0
  have lt0 : ∀ x ∈ p0, x.block < W.heap.size := by obtain ⟨m, hm⟩ := k0; exact DataW.trod_lt m _ _ _ hm
  obtain ⟨zs0, hrel0, wf0, ml0⟩ : ∃ l : List (Ev.Ty.den .u8), Ev.RelA (fun _ => none) (fun b => b < W.heap.size) W (.lst .u8 l) (.slice a0 len0 cap0) ∧ (∀ d ∈ l, Ev.Wf .u8 d) ∧ l.length ≤ maxLen := by
    obtain ⟨fuel, hf⟩ := h0
    exact Ev.open_rows (l := [(5, .u8)]) (by kernel_rfl) (by kernel_rfl) hf
  clear hA0 hval0 hsz0
  refine (Ev.calls_true (av := [.lst .u8 zs0]) (out := []) Ev.okG3 (by
    exact Ev.sem_of (ps := Ev.p3) (rs := Ev.r3) (a := (zs0, ())) rfl (Ev.G3_eq zs0 (And.intro wf0 ml0))) (w := W) (ca := #[.slice a0 len0 cap0]) rfl (Ev.args_arr (Ev.argsS (hrel0) Ev.args0))).mono fun e W' ⟨he, bel⟩ => ?_
  subst he
  exact ⟨_, rfl, _, _, _, [], _, [], hW', trodAll_mk1 (shut_bool Try.underlying4 _), (trodAll_cons_mk (Below.trod laidOut (by kernel_rfl) (of_decide_eq_true (by kernel_rfl)) k0 bel lt0) trodAll_mk0), rfl, bel.frame _, fun h => by cases h⟩
theorem over : Rows.fnTrackLevelsRow.holds Try.pinned (OpenSpec.ofChange Rows.fnTrackLevelsSpec) :=
  OpenClaim.holds_of_wide 3 Try.f3 rfl rfl rfl rfl rfl rfl rfl ⟨rfl, rfl, rfl, rfl, rfl⟩ rfl rfl rfl rfl rfl (by kernel_rfl) Try.func3 (by kernel_rfl)
    (of_decide_eq_true (by kernel_rfl)) (by unfold Func.isWrapper; first | (rw [if_pos (by decide +kernel)]; kernel_rfl) | (rw [if_neg (by decide +kernel)]; exact ⟨rfl, rfl⟩))
    (fun os started H enc _ => lifted os started H enc)
theorem proved : Rows.FnTrackLevelsSaid := over
#print axioms proved
end Go.Proofs.Ytjdnadolocbjoaa.fnTrackLevels
