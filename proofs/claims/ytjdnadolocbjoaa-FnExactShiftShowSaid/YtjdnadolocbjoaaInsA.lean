/- Putting a device into a rig, and a cue into a score: what is valid stays so. What a valid score and a valid wind are; a cue that is put into a score. Valid scores and winds, to the letter; the levels of a valid score. The lifts of the nozzles of a pump are a fair share of what it gives. -/
import Derived.Test.YtjdnadolocbjoaaBaseB
set_option linter.unusedVariables false
set_option linter.unusedSimpArgs false
set_option maxRecDepth 100000
namespace Ev
open Go
def insAt {α : Type} (l : List α) (k : Nat) (d : α) : List α := l.take k ++ d :: l.drop k
theorem insAt_len {α : Type} (l : List α) (k : Nat) (d : α) : (insAt l k d).length = l.length + 1 := by
  unfold insAt; simp; omega
theorem insAt_mem {α : Type} {l : List α} {k : Nat} {d x : α} : x ∈ insAt l k d ↔ x = d ∨ x ∈ l := by
  unfold insAt
  rw [List.mem_append, List.mem_cons]
  constructor
  · rintro (h | h | h)
    · exact .inr (List.mem_of_mem_take h)
    · exact .inl h
    · exact .inr (List.mem_of_mem_drop h)
  · rintro (h | h)
    · exact .inr (.inl h)
    · rw [← List.take_append_drop k l, List.mem_append] at h
      rcases h with h | h
      · exact .inl h
      · exact .inr (.inr h)
theorem insAt_lt {α : Type} {l : List α} {k i : Nat} {d : α} (hk : k ≤ l.length) (h : i < k) : (insAt l k d)[i]? = l[i]? := by
  unfold insAt
  rw [List.getElem?_append_left (by simp; omega), List.getElem?_take_of_lt h]
theorem insAt_eq {α : Type} {l : List α} {k : Nat} {d : α} (hk : k ≤ l.length) : (insAt l k d)[k]? = some d := by
  unfold insAt
  rw [List.getElem?_append_right (by simp; omega)]
  have : k - (l.take k).length = 0 := by simp; omega
  rw [this]; rfl
theorem insAt_gt {α : Type} {l : List α} {k i : Nat} {d : α} (hk : k ≤ l.length) (h : k ≤ i) : (insAt l k d)[i + 1]? = l[i]? := by
  unfold insAt
  rw [List.getElem?_append_right (by simp; omega)]
  have : i + 1 - (l.take k).length = (i - k) + 1 := by simp; omega
  rw [this, List.getElem?_cons_succ, List.getElem?_drop]
  congr 1; omega
/-- Neighbours in a list into which one was put. -/
theorem insAt_adj {α : Type} {l : List α} {k : Nat} {d : α} (P : α → α → Prop) (hk : k ≤ l.length)
    (h : ∀ i a b, l[i]? = some a → l[i + 1]? = some b → P a b) (h1 : ∀ i a, i + 1 = k → l[i]? = some a → P a d) (h2 : ∀ b, l[k]? = some b → P d b) :
    ∀ i a b, (insAt l k d)[i]? = some a → (insAt l k d)[i + 1]? = some b → P a b := by
  intro i a b ha hb
  rcases Nat.lt_trichotomy i k with hi | hi | hi
  · rw [insAt_lt hk hi] at ha
    by_cases e : i + 1 = k
    · subst e
      rw [insAt_eq hk] at hb
      cases hb
      exact h1 i a rfl ha
    · rw [insAt_lt hk (by omega)] at hb
      exact h i a b ha hb
  · subst hi
    rw [insAt_eq hk] at ha
    cases ha
    rw [insAt_gt hk (Nat.le_refl _)] at hb
    exact h2 b hb
  · obtain ⟨j, rfl⟩ : ∃ j, i = j + 1 := ⟨i - 1, by omega⟩
    rw [insAt_gt hk (by omega)] at ha
    rw [insAt_gt hk (by omega)] at hb
    exact h j a b ha hb
theorem less_or {a b : Str} (h : Op.bytesLess b a = false) (hn : a ≠ b) : Op.bytesLess a b = true := by
  have := less_total a b
  rw [h] at this
  simp only [Bool.not_false, Bool.true_eq, Bool.or_eq_true, decide_eq_true_eq] at this
  rcases this with h | h
  · exact h
  · exact absurd h hn
theorem mem_at {α : Type} {l : List α} {i : Nat} {x : α} (h : l[i]? = some x) : x ∈ l := List.mem_iff_getElem?.mpr ⟨i, h⟩
theorem hung_ins {l : List Device} (h : RigP l) {k : Nat} {d x : Device} (hn : ∀ e ∈ l, e.Name ≠ d.Name) (hx : hungB l x = true) : hungB (insAt l k d) x = true := by
  unfold hungB at hx ⊢
  rw [Bool.or_eq_true] at hx ⊢
  rcases hx with hx | hx
  · exact .inl hx
  · right
    rw [Bool.and_eq_true, decide_eq_true_eq, decide_eq_true_eq] at hx ⊢
    rcases fnd_spec l x.Line with ⟨e, _⟩ | ⟨j, y, e, hy, hyn⟩
    · omega
    rcases fnd_spec (insAt l k d) x.Line with ⟨e', hno⟩ | ⟨m, z, e', hz, hzn⟩
    · exact absurd hyn (hno y (insAt_mem.2 (.inr (mem_at hy))))
    · have hzy : z = y := by
        rcases insAt_mem.1 (mem_at hz) with h1 | h1
        · subst h1
          exact absurd (hyn.trans hzn.symm) (hn y (mem_at hy))
        · obtain ⟨p, hp⟩ := List.mem_iff_getElem?.mp h1
          have := rig_uniq h hp hy (hzn.trans hyn.symm)
          subst this
          rw [hp] at hy; cases hy; rfl
      subst hzy
      refine ⟨by omega, ?_⟩
      have h2 := hx.2
      rw [e, Int.toNat_natCast] at h2
      rw [e', Int.toNat_natCast]
      unfold kindAt at h2 ⊢
      rw [hy] at h2
      rw [hz]
      exact h2
theorem rig_ins {l : List Device} (h : RigP l) {k : Nat} {d : Device} (hk : k ≤ l.length) (h8 : l.length ≠ 8) (hd : devB d = true) (hn : ∀ e ∈ l, e.Name ≠ d.Name) (hh : hungB l d = true)
    (h1 : ∀ (i : Nat) e, i < k → l[i]? = some e → Op.bytesLess d.Name e.Name = false) (h2 : ∀ e, l[k]? = some e → Op.bytesLess d.Name e.Name = true) : RigP (insAt l k d) := by
  refine ⟨?_, ?_, ?_, ?_⟩
  · have := h.len
    rw [insAt_len]; omega
  · intro x hx
    rcases insAt_mem.1 hx with rfl | hx
    · exact hd
    · exact h.dev x hx
  · exact insAt_adj (fun a b => Op.bytesLess a.Name b.Name = true) hk h.lt (fun i a hi ha => less_or (h1 i a (by omega) ha) (hn a (mem_at ha))) h2
  · intro x hx
    rcases insAt_mem.1 hx with rfl | hx
    · exact hung_ins h hn hh
    · exact hung_ins h hn (h.hung x hx)
theorem nm_len {s : Str} (h : isNm s = true) : s.length ≤ 8 := by
  unfold isNm at h
  rw [Bool.and_eq_true, wi_true] at h
  have := h.2.2
  simp at this; omega
theorem dev_small {d : Device} (h : devB d = true) : d.Name.length ≤ 8 ∧ d.Line.length ≤ 8 := by
  have hk := dev_kind h
  unfold devB at h
  rw [Bool.and_eq_true] at h
  refine ⟨nm_len h.1, ?_⟩
  have h2 := h.2
  rcases hk with k | k | k
  · rw [if_pos k, Bool.and_eq_true, decide_eq_true_eq] at h2
    rw [h2.1]; simp
  · rw [if_neg (by omega), if_pos k, Bool.and_eq_true] at h2
    exact nm_len h2.1
  · rw [if_neg (by omega), if_neg (by omega), if_pos k] at h2
    simp only [Bool.and_eq_true] at h2
    exact nm_len (by first | exact h2.1 | exact h2.2.1 | exact h2.2.2.1 | exact h2.2.2.2.1 | exact h2.2.2.2.2.1 | exact h2.2.2.2.2.2.1)
theorem rig_devs {l : List Device} (h : RigP l) : DevsOK l := fun d hd => by
  have := dev_small (h.dev d hd)
  omega
end Ev

namespace Ev
open Go
structure ScoreP (l : List Cue) : Prop where
  len : l.length ≤ 12
  cue : ∀ c ∈ l, isCue c = true
  lt : ∀ i a b, l[i]? = some a → l[i + 1]? = some b → cmpC a b < 0
theorem cmpI_cases (a b : Int) : (a < b ∧ cmpI a b = -1) ∨ (a = b ∧ cmpI a b = 0) ∨ (b < a ∧ cmpI a b = 1) := by
  unfold cmpI
  by_cases h : a < b
  · rw [if_pos h]; exact .inl ⟨h, rfl⟩
  · by_cases h2 : a > b
    · rw [if_neg h, if_pos h2]; exact .inr (.inr ⟨h2, rfl⟩)
    · rw [if_neg h, if_neg h2]; exact .inr (.inl ⟨by omega, rfl⟩)
theorem cmpS_cases (a b : Str) : (Op.bytesLess a b = true ∧ cmpS a b = -1) ∨ (a = b ∧ cmpS a b = 0) ∨ (Op.bytesLess b a = true ∧ cmpS a b = 1) := by
  unfold cmpS
  by_cases h : Op.bytesLess a b = true
  · rw [if_pos h]; exact .inl ⟨h, rfl⟩
  · by_cases h2 : a = b
    · rw [if_neg h, if_pos h2]; exact .inr (.inl ⟨h2, rfl⟩)
    · rw [if_neg h, if_neg h2]; exact .inr (.inr ⟨less_or (by simpa using h) (fun e => h2 e.symm), rfl⟩)
theorem cmpC_swap {a x : Cue} (h1 : ¬ cmpC a x < 0) (h2 : cmpC a x ≠ 0) : cmpC x a < 0 := by
  unfold cmpC at h1 h2 ⊢
  rcases cmpI_cases a.Tick x.Tick with ⟨p, e⟩ | ⟨p, e⟩ | ⟨p, e⟩
  · rw [e] at h1; simp at h1
  · rw [e, if_pos rfl] at h1 h2
    rcases cmpI_cases x.Tick a.Tick with ⟨q, f⟩ | ⟨q, f⟩ | ⟨q, f⟩
    · omega
    · rw [f, if_pos rfl]
      rcases cmpS_cases a.Name x.Name with ⟨u, g⟩ | ⟨u, g⟩ | ⟨u, g⟩
      · omega
      · omega
      · unfold cmpS; rw [if_pos u]; decide
    · omega
  · rcases cmpI_cases x.Tick a.Tick with ⟨q, f⟩ | ⟨q, f⟩ | ⟨q, f⟩
    · rw [f]; simp
    · omega
    · omega
theorem score_ins {l : List Cue} (h : ScoreP l) {k : Nat} {d : Cue} (hk : k ≤ l.length) (h8 : l.length ≠ 12) (hd : isCue d = true)
    (h1 : ∀ (i : Nat) e, i < k → l[i]? = some e → cmpC e d < 0) (h2 : ∀ e, l[k]? = some e → ¬ cmpC e d < 0 ∧ cmpC e d ≠ 0) : ScoreP (insAt l k d) := by
  refine ⟨?_, ?_, ?_⟩
  · have := h.len
    rw [insAt_len]; omega
  · intro x hx
    rcases insAt_mem.1 hx with rfl | hx
    · exact hd
    · exact h.cue x hx
  · exact insAt_adj (fun a b => cmpC a b < 0) hk h.lt (fun i a hi ha => h1 i a (by omega) ha) (fun b hb => cmpC_swap (h2 b hb).1 (h2 b hb).2)
end Ev

namespace Ev
open Go
theorem all_range {α : Type} (l : List α) (p : Nat → Bool) (q : Nat → α → Prop) (h : ∀ i x, l[i]? = some x → (p i = true ↔ q i x)) : (List.range l.length).all p = true ↔ ∀ i x, l[i]? = some x → q i x := by
  rw [List.all_eq_true]
  constructor
  · intro k i x hx
    exact (h i x hx).1 (k i (by simpa using (List.getElem?_eq_some_iff.mp hx).1))
  · intro k i hi
    have hi : i < l.length := by simpa using hi
    have hx : l[i]? = some l[i] := by simp
    exact (h i _ hx).2 (k i _ hx)
def scAt (l : List Cue) (i : Nat) : Bool := match l[i]? with
  | some c => isCue c && (decide (i = 0) || (match l[i - 1]? with | some b => decide (cmpC b c < 0) | none => true))
  | none => true
theorem scoreI_all (l : List Cue) (hn : NamesOK l) (hl : l.length ≤ 1048576) : G51 (l, ()) = some ((List.range l.length).all (scAt l) && decide (l.length ≤ 12), ()) := by
  unfold G51 F51
  refine (iterF_chk (f := s51_0 G113 G114) (K := fun t6 => some ((decide ((Int.ofNat (List.length t6.1)) ≤ 12)), ())) (fun i => (l, l, Int.ofNat l.length, (i : Int), ())) (scAt l) (some (false, ())) l.length (by omega) ?_ ?_).trans ?_
  · intro i hi rec K
    have hx : l[i]? = some l[i] := by simp
    have e1 : w64 ((i : Int) + 1) = ((i + 1 : Nat) : Int) := w64_id (by omega) (by omega)
    have hc : G113 (l[i], ()) = some (isCue l[i], ()) := cueI _ (hn _ (by simp))
    unfold scAt
    rw [hx]
    simp only [s51_0]
    rw [cond_true_dec (by simp; omega), rdL_at hx, hc, e1]
    simp only [Option.bind_some, Bool.not_not]
    cases isCue l[i]
    · rfl
    · simp only [cond_true, Bool.true_and]
      by_cases hz : i = 0
      · subst hz; rfl
      · obtain ⟨j, rfl⟩ : ∃ j, i = j + 1 := ⟨i - 1, by omega⟩
        have hy : l[j]? = some l[j] := by simp
        have e2 : w64 (((j + 1 : Nat) : Int) - 1) = (j : Int) := by rw [w64_id (by omega) (by omega)]; omega
        have hcc : G114 (l[j], l[j + 1], ()) = some (cmpC l[j] l[j + 1], ()) := cmpCI _ _
        rw [cond_true_dec (by omega), e2, rdL_at hy, hcc, decide_eq_false hz, Nat.add_sub_cancel, hy]
        simp only [Option.bind_some, Bool.false_or]
        by_cases hlt : cmpC l[j] l[j + 1] < 0
        · rw [cond_false_dec (by omega), cond_true_dec hlt]
        · rw [cond_true_dec (by omega), cond_false_dec hlt]
  · intro rec K
    simp only [s51_0]
    rw [cond_false_dec (by simp)]
  · cases (List.range l.length).all (scAt l)
    · rfl
    · simp; omega
theorem scB_iff {l : List Cue} (hn : NamesOK l) (hl : l.length ≤ 1048576) : scB l = true ↔ ScoreP l := by
  unfold scB
  rw [scoreI_all l hn hl]
  simp only [Option.map_some, Option.getD_some, Bool.and_eq_true, decide_eq_true_eq]
  rw [all_range l (scAt l) (fun i c => isCue c = true ∧ (i = 0 ∨ ∀ b, l[i - 1]? = some b → cmpC b c < 0)) (fun i c hc => by
    unfold scAt
    rw [hc, Bool.and_eq_true, Bool.or_eq_true, decide_eq_true_eq]
    cases hb : l[i - 1]? with
    | none => simp
    | some b => simp)]
  constructor
  · rintro ⟨h1, h2⟩
    refine ⟨h2, fun c hc => ?_, fun i a b ha hb => ?_⟩
    · obtain ⟨i, hi⟩ := List.mem_iff_getElem?.mp hc
      exact (h1 i c hi).1
    · rcases (h1 (i + 1) b hb).2 with h | h
      · omega
      · exact h a (by rw [Nat.add_sub_cancel]; exact ha)
  · rintro ⟨h1, h2, h3⟩
    refine ⟨fun i c hc => ⟨h2 c (mem_at hc), ?_⟩, h1⟩
    by_cases hz : i = 0
    · exact .inl hz
    · right
      intro b hb
      obtain ⟨j, rfl⟩ : ∃ j, i = j + 1 := ⟨i - 1, by omega⟩
      rw [Nat.add_sub_cancel] at hb
      exact h3 j b c hb hc
theorem score_names {l : List Cue} (h : ScoreP l) : NamesOK l := fun c hc => by
  have := h.cue c hc
  unfold isCue at this
  simp only [Bool.and_eq_true] at this
  have := nm_len this.2.1
  omega
/-! ### Winds -/
structure WindP (l : List Gust) : Prop where
  len : l.length ≤ 8
  gust : ∀ g ∈ l, (0 ≤ g.From ∧ g.From ≤ 64) ∧ isDr g.Drift = true
  lt : ∀ i a b, l[i]? = some a → l[i + 1]? = some b → a.From < b.From
def wdAt (l : List Gust) (i : Nat) : Bool := match l[i]? with
  | some c => wi c.From 0 64 && (isDr c.Drift && (decide (i = 0) || (match l[i - 1]? with | some b => decide (b.From < c.From) | none => true)))
  | none => true
theorem windI_all (l : List Gust) (hl : l.length ≤ 1048576) : G84 (l, ()) = some ((List.range l.length).all (wdAt l) && decide (l.length ≤ 8), ()) := by
  unfold G84 F84
  refine (iterF_chk (f := s84_0 G52 G71) (K := fun t6 => some ((decide ((Int.ofNat (List.length t6.1)) ≤ 8)), ())) (fun i => (l, l, Int.ofNat l.length, (i : Int), ())) (wdAt l) (some (false, ())) l.length (by omega) ?_ ?_).trans ?_
  · intro i hi rec K
    have hx : l[i]? = some l[i] := by simp
    have e1 : w64 ((i : Int) + 1) = ((i + 1 : Nat) : Int) := w64_id (by omega) (by omega)
    have hc : G52 (l[i].From, 0, 64, ()) = some (wi l[i].From 0 64, ()) := within_is _ _ _
    have hd : G71 (l[i].Drift, ()) = some (isDr l[i].Drift, ()) := drI _
    unfold wdAt
    rw [hx]
    simp only [s84_0]
    rw [cond_true_dec (by simp; omega), rdL_at hx, hc, e1]
    simp only [Option.bind_some, Bool.not_not]
    cases wi l[i].From 0 64
    · rfl
    · simp only [cond_true, Bool.true_and, hd, Option.bind_some]
      cases isDr l[i].Drift
      · rfl
      · simp only [cond_true, Bool.true_and, Bool.not_true, Bool.not_false]
        by_cases hz : i = 0
        · subst hz; rfl
        · obtain ⟨j, rfl⟩ : ∃ j, i = j + 1 := ⟨i - 1, by omega⟩
          have hy : l[j]? = some l[j] := by simp
          have e2 : w64 (((j + 1 : Nat) : Int) - 1) = (j : Int) := by rw [w64_id (by omega) (by omega)]; omega
          rw [cond_true_dec (by omega), e2, rdL_at hy, decide_eq_false hz, Nat.add_sub_cancel, hy]
          simp only [Bool.false_or]
          by_cases hlt : l[j].From < l[j + 1].From
          · rw [cond_false_dec (by omega), cond_true_dec hlt]
          · rw [cond_true_dec (by omega), cond_false_dec hlt]
  · intro rec K
    simp only [s84_0]
    rw [cond_false_dec (by simp)]
  · cases (List.range l.length).all (wdAt l)
    · rfl
    · simp; omega
theorem wdB_iff {l : List Gust} (hl : l.length ≤ 1048576) : wdB l = true ↔ WindP l := by
  unfold wdB
  rw [windI_all l hl]
  simp only [Option.map_some, Option.getD_some, Bool.and_eq_true, decide_eq_true_eq]
  rw [all_range l (wdAt l) (fun i c => ((0 ≤ c.From ∧ c.From ≤ 64) ∧ isDr c.Drift = true) ∧ (i = 0 ∨ ∀ b, l[i - 1]? = some b → b.From < c.From)) (fun i c hc => by
    unfold wdAt
    rw [hc, Bool.and_eq_true, Bool.and_eq_true, Bool.or_eq_true, decide_eq_true_eq, wi_true, and_assoc]
    cases hb : l[i - 1]? with
    | none => simp [and_assoc]
    | some b => simp [and_assoc])]
  constructor
  · rintro ⟨h1, h2⟩
    refine ⟨h2, fun c hc => ?_, fun i a b ha hb => ?_⟩
    · obtain ⟨i, hi⟩ := List.mem_iff_getElem?.mp hc
      exact (h1 i c hi).1
    · rcases (h1 (i + 1) b hb).2 with h | h
      · omega
      · exact h a (by rw [Nat.add_sub_cancel]; exact ha)
  · rintro ⟨h1, h2, h3⟩
    refine ⟨fun i c hc => ⟨h2 c (mem_at hc), ?_⟩, h1⟩
    by_cases hz : i = 0
    · exact .inl hz
    · right
      intro b hb
      obtain ⟨j, rfl⟩ : ∃ j, i = j + 1 := ⟨i - 1, by omega⟩
      rw [Nat.add_sub_cancel] at hb
      exact h3 j b c hb hc
/-! ### Levels -/
end Ev

namespace Ev
open Go
theorem pickL_nodup (f : Device → Bool) (r : List Device) (n : Nat) : (pickL f r n).Nodup := List.Pairwise.filter _ List.nodup_range
theorem foldset_out : ∀ (ps : List (Nat × Int)) (out : List Int) (i : Nat), (∀ p ∈ ps, p.1 ≠ i) → (ps.foldl (fun o p => o.set p.1 p.2) out)[i]? = out[i]?
  | [], out, i, h => rfl
  | p :: ps, out, i, h => by
    rw [List.foldl_cons, foldset_out ps _ i (fun q hq => h q (by simp [hq])), List.getElem?_set_ne (h p (by simp))]
theorem foldset_in : ∀ (ps : List (Nat × Int)) (out : List Int) (i : Nat) (x : Int), (ps.map Prod.fst).Nodup → (i, x) ∈ ps → i < out.length → (ps.foldl (fun o p => o.set p.1 p.2) out)[i]? = some x
  | [], out, i, x, _, h, _ => by cases h
  | p :: ps, out, i, x, hn, h, hi => by
    rw [List.foldl_cons]
    rw [List.map_cons, List.nodup_cons] at hn
    rcases List.mem_cons.mp h with h | h
    · subst h
      rw [foldset_out ps _ i (fun q hq e => hn.1 (List.mem_map.mpr ⟨q, hq, e⟩))]
      simp [hi]
    · exact foldset_in ps _ i x hn.2 h (by simpa using hi)
theorem zip_fst : ∀ (ws : List Nat) (xs : List Int), ws.length = xs.length → (ws.zip xs).map Prod.fst = ws
  | [], _, _ => rfl
  | w :: ws, [], h => by simp at h
  | w :: ws, x :: xs, h => by
    simp only [List.zip_cons_cons, List.map_cons]
    rw [zip_fst ws xs (by simpa using h)]
theorem asg_in {out : List Int} {ws : List Nat} {xs : List Int} (hn : ws.Nodup) (hl : ws.length = xs.length) {k i : Nat} {x : Int} (hw : ws[k]? = some i) (hx : xs[k]? = some x) (hi : i < out.length) : (asg out ws xs)[i]? = some x := by
  refine foldset_in _ out i x (by rw [zip_fst ws xs hl]; exact hn) ?_ hi
  exact List.mem_iff_getElem?.mpr ⟨k, List.getElem?_zip_eq_some.mpr ⟨hw, hx⟩⟩
theorem asg_out {out : List Int} {ws : List Nat} {xs : List Int} {i : Nat} (h : i ∉ ws) : (asg out ws xs)[i]? = out[i]? :=
  foldset_out _ out i fun p hp e => h (by rw [← e]; exact (List.of_mem_zip hp).1)
theorem asg_sum : ∀ (ws : List Nat) (xs : List Int) (out : List Int), (∀ x ∈ out, 0 ≤ x) → (∀ x ∈ xs, 0 ≤ x) → sumL (asg out ws xs) ≤ sumL out + sumL xs ∧ ∀ x ∈ asg out ws xs, 0 ≤ x
  | [], xs, out, ho, hx => by
    rw [asg_nil]
    have := (show ∀ l : List Int, (∀ x ∈ l, 0 ≤ x) → 0 ≤ sumL l from fun l => by
      induction l with
      | nil => intro _; decide
      | cons a l ih => intro h; have := ih (fun x hx => h x (by simp [hx])); have := h a (by simp); simp only [sumL]; omega) xs hx
    exact ⟨by omega, ho⟩
  | w :: ws, [], out, ho, hx => by
    rw [asg_nil']
    exact ⟨by simp [sumL], ho⟩
  | w :: ws, x :: xs, out, ho, hx => by
    have e : asg out (w :: ws) (x :: xs) = asg (out.set w x) ws xs := rfl
    have hx0 := hx x (by simp)
    have hs : ∀ y ∈ out.set w x, 0 ≤ y := fun y hy => by
      rcases List.mem_or_eq_of_mem_set hy with h | h
      · exact ho y h
      · rw [h]; exact hx0
    obtain ⟨h1, h2⟩ := asg_sum ws xs (out.set w x) hs (fun y hy => hx y (by simp [hy]))
    rw [e]
    refine ⟨?_, h2⟩
    have : sumL (out.set w x) ≤ sumL out + x := by
      cases hw : out[w]? with
      | none => rw [List.set_eq_of_length_le (by rw [List.getElem?_eq_none_iff] at hw; exact hw)]; omega
      | some y =>
        rw [sumL_set out w y x hw]
        have := ho y (List.mem_iff_getElem?.mpr ⟨w, hw⟩)
        omega
    simp only [sumL]
    omega
theorem sumL_pos (l : List Int) (h : ∀ x ∈ l, 0 ≤ x) : 0 ≤ sumL l := by
  have := (asg_sum [] l [] (by simp) h).1
  rw [asg_nil] at this
  simpa [sumL] using this
/-! ### Shares are fair -/
theorem shares_sum {s : Int} {l R : List Int} (h : SharesP s l R) (hd : demB l = true) : sumL R = mn s (sumL l) ∧ (∀ (i j : Nat) x y z, R[i]? = some x → l[i]? = some y → R[j]? = some z → x < y → z ≤ x + 1) := by
  obtain ⟨v, left, h1, h2, h3, h4, h5, h6⟩ := h.ex
  obtain ⟨h8, hl⟩ := (demB_iff l).1 hd
  have hle : sumL R ≤ sumL l := sumL_le _ _ h.len fun i x y hx hy => (shares_le h hd hx hy).2
  have get : ∀ (i : Nat) x, R[i]? = some x → ∃ y, l[i]? = some y := fun i x hx => by
    have : i < l.length := by rw [← h.len]; exact (List.getElem?_eq_some_iff.mp hx).1
    exact ⟨l[i], by simp⟩
  refine ⟨?_, fun i j x y z hx hy hz hlt => ?_⟩
  · rw [mn_eq]
    by_cases hv : v = 64
    · have : R = l := List.ext_getElem? fun i => by
        cases hx : R[i]? with
        | none =>
          rw [List.getElem?_eq_none_iff, h.len] at hx
          rw [List.getElem?_eq_none (by omega)]
        | some x =>
          obtain ⟨y, hy⟩ := get i x hx
          have := hl y (List.mem_iff_getElem?.mpr ⟨i, hy⟩)
          rcases h6 i x y hx hy with q | q
          · rw [hy, q.2]
          · omega
      rw [this] at h5 ⊢
      split <;> omega
    · have hf : ¬ sumL (cutL l ((v + 1 : Nat) : Int)) ≤ s := by
        rcases h3 with h3 | h3
        · exact absurd h3 hv
        · unfold fitsN at h3; simpa using h3
      have : left = 0 := by
        by_cases h0 : left = 0
        · exact h0
        · exfalso
          have : R = cutL l ((v + 1 : Nat) : Int) := List.ext_getElem? fun i => by
            rw [cutL_at]
            cases hx : R[i]? with
            | none =>
              rw [List.getElem?_eq_none_iff, h.len] at hx
              rw [List.getElem?_eq_none (by omega)]; rfl
            | some x =>
              obtain ⟨y, hy⟩ := get i x hx
              rw [hy, Option.map_some, mn_eq]
              rcases h6 i x y hx hy with q | q
              · congr 1; split <;> omega
              · congr 1; split <;> omega
          rw [this] at h5
          omega
      split <;> omega
  · rcases h6 i x y hx hy with q | q
    · omega
    · obtain ⟨y', hy'⟩ := get j z hz
      rcases h6 j z y' hz hy' with q' | q' <;> omega
/-! ### The lifts of a pump's nozzles -/
section
variable {s : ShowT} (h : ShowV s) {t : Int}
include h
theorem score_p : ScoreP s.2.1 := (scB_iff h.ok.names h.ok.score).1 h.score
theorem wind_p : WindP s.2.2.1 := (wdB_iff h.ok.wind).1 h.wind
theorem noz_most {d : Device} (hd : d ∈ s.1) (hk : d.Kind = 2) : 0 ≤ d.Most ∧ d.Most ≤ 32 := by
  have := h.rig.dev d hd
  unfold devB at this
  rw [if_neg (by omega), if_pos hk] at this
  simp only [Bool.and_eq_true] at this
  exact wi_true.1 this.2.2.2.2
theorem pump_most {d : Device} (hd : d ∈ s.1) (hk : d.Kind = 1) : 0 ≤ d.Most ∧ d.Most ≤ 512 := by
  have := h.rig.dev d hd
  unfold devB at this
  rw [if_pos hk] at this
  simp only [Bool.and_eq_true] at this
  exact wi_true.1 this.2.2.2.2.2.2
def pumpSum : List Device → Int
  | [] => 0
  | d :: l => (if d.Kind = 1 then d.Most else 0) + pumpSum l
omit h in
theorem pumpSum_app : ∀ a b : List Device, pumpSum (a ++ b) = pumpSum a + pumpSum b
  | [], b => by simp [pumpSum]
  | x :: a, b => by simp only [List.cons_append, pumpSum, pumpSum_app a b]; omega
end
end Ev
