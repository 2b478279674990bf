/- Putting a device into a rig, and a cue into a score: what is valid stays so. What a valid score and a valid wind are; a cue that is put into a score. Valid scores and winds, to the letter; the levels of a valid score. The lifts of the nozzles of a pump are a fair share of what it gives. -/
import Derived.Test.YtpnlcamcnhpbhaaGreatBaseB
set_option linter.unusedVariables false
set_option linter.unusedSimpArgs false
set_option maxRecDepth 100000
namespace Ev
open Go
def insAt {α : Type} (l : List α) (k : Nat) (d : α) : List α := l.take k ++ d :: l.drop k
theorem insAt_len {α : Type} (l : List α) (k : Nat) (d : α) : (insAt l k d).length = l.length + 1 := by
  unfold insAt; simp; omega
theorem insAt_mem {α : Type} {l : List α} {k : Nat} {d x : α} : x ∈ insAt l k d ↔ x = d ∨ x ∈ l := by
  unfold insAt
  rw [List.mem_append, List.mem_cons]
  constructor
  · rintro (h | h | h)
    · exact .inr (List.mem_of_mem_take h)
    · exact .inl h
    · exact .inr (List.mem_of_mem_drop h)
  · rintro (h | h)
    · exact .inr (.inl h)
    · rw [← List.take_append_drop k l, List.mem_append] at h
      rcases h with h | h
      · exact .inl h
      · exact .inr (.inr h)
theorem insAt_lt {α : Type} {l : List α} {k i : Nat} {d : α} (hk : k ≤ l.length) (h : i < k) : (insAt l k d)[i]? = l[i]? := by
  unfold insAt
  rw [List.getElem?_append_left (by simp; omega), List.getElem?_take_of_lt h]
theorem insAt_eq {α : Type} {l : List α} {k : Nat} {d : α} (hk : k ≤ l.length) : (insAt l k d)[k]? = some d := by
  unfold insAt
  rw [List.getElem?_append_right (by simp; omega)]
  have : k - (l.take k).length = 0 := by simp; omega
  rw [this]; rfl
theorem insAt_gt {α : Type} {l : List α} {k i : Nat} {d : α} (hk : k ≤ l.length) (h : k ≤ i) : (insAt l k d)[i + 1]? = l[i]? := by
  unfold insAt
  rw [List.getElem?_append_right (by simp; omega)]
  have : i + 1 - (l.take k).length = (i - k) + 1 := by simp; omega
  rw [this, List.getElem?_cons_succ, List.getElem?_drop]
  congr 1; omega
/-- Neighbours in a list into which one was put. -/
theorem insAt_adj {α : Type} {l : List α} {k : Nat} {d : α} (P : α → α → Prop) (hk : k ≤ l.length)
    (h : ∀ i a b, l[i]? = some a → l[i + 1]? = some b → P a b) (h1 : ∀ i a, i + 1 = k → l[i]? = some a → P a d) (h2 : ∀ b, l[k]? = some b → P d b) :
    ∀ i a b, (insAt l k d)[i]? = some a → (insAt l k d)[i + 1]? = some b → P a b := by
  intro i a b ha hb
  rcases Nat.lt_trichotomy i k with hi | hi | hi
  · rw [insAt_lt hk hi] at ha
    by_cases e : i + 1 = k
    · subst e
      rw [insAt_eq hk] at hb
      cases hb
      exact h1 i a rfl ha
    · rw [insAt_lt hk (by omega)] at hb
      exact h i a b ha hb
  · subst hi
    rw [insAt_eq hk] at ha
    cases ha
    rw [insAt_gt hk (Nat.le_refl _)] at hb
    exact h2 b hb
  · obtain ⟨j, rfl⟩ : ∃ j, i = j + 1 := ⟨i - 1, by omega⟩
    rw [insAt_gt hk (by omega)] at ha
    rw [insAt_gt hk (by omega)] at hb
    exact h j a b ha hb
theorem less_or {a b : Str} (h : Op.bytesLess b a = false) (hn : a ≠ b) : Op.bytesLess a b = true := by
  have := less_total a b
  rw [h] at this
  simp only [Bool.not_false, Bool.true_eq, Bool.or_eq_true, decide_eq_true_eq] at this
  rcases this with h | h
  · exact h
  · exact absurd h hn
theorem mem_at {α : Type} {l : List α} {i : Nat} {x : α} (h : l[i]? = some x) : x ∈ l := List.mem_iff_getElem?.mpr ⟨i, h⟩
theorem hung_ins {l : List Device} (h : RigP l) {k : Nat} {d x : Device} (hn : ∀ e ∈ l, e.Name ≠ d.Name) (hx : hungB l x = true) : hungB (insAt l k d) x = true := by
  unfold hungB at hx ⊢
  rw [Bool.or_eq_true] at hx ⊢
  rcases hx with hx | hx
  · exact .inl hx
  · right
    rw [Bool.and_eq_true, decide_eq_true_eq, decide_eq_true_eq] at hx ⊢
    rcases fnd_spec l x.Line with ⟨e, _⟩ | ⟨j, y, e, hy, hyn⟩
    · omega
    rcases fnd_spec (insAt l k d) x.Line with ⟨e', hno⟩ | ⟨m, z, e', hz, hzn⟩
    · exact absurd hyn (hno y (insAt_mem.2 (.inr (mem_at hy))))
    · have hzy : z = y := by
        rcases insAt_mem.1 (mem_at hz) with h1 | h1
        · subst h1
          exact absurd (hyn.trans hzn.symm) (hn y (mem_at hy))
        · obtain ⟨p, hp⟩ := List.mem_iff_getElem?.mp h1
          have := rig_uniq h hp hy (hzn.trans hyn.symm)
          subst this
          rw [hp] at hy; cases hy; rfl
      subst hzy
      refine ⟨by omega, ?_⟩
      have h2 := hx.2
      rw [e, Int.toNat_natCast] at h2
      rw [e', Int.toNat_natCast]
      unfold kindAt at h2 ⊢
      rw [hy] at h2
      rw [hz]
      exact h2
theorem rig_ins {l : List Device} (h : RigP l) {k : Nat} {d : Device} (hk : k ≤ l.length) (h8 : l.length ≠ 8) (hd : devB d = true) (hn : ∀ e ∈ l, e.Name ≠ d.Name) (hh : hungB l d = true)
    (h1 : ∀ (i : Nat) e, i < k → l[i]? = some e → Op.bytesLess d.Name e.Name = false) (h2 : ∀ e, l[k]? = some e → Op.bytesLess d.Name e.Name = true) : RigP (insAt l k d) := by
  refine ⟨?_, ?_, ?_, ?_⟩
  · have := h.len
    rw [insAt_len]; omega
  · intro x hx
    rcases insAt_mem.1 hx with rfl | hx
    · exact hd
    · exact h.dev x hx
  · exact insAt_adj (fun a b => Op.bytesLess a.Name b.Name = true) hk h.lt (fun i a hi ha => less_or (h1 i a (by omega) ha) (hn a (mem_at ha))) h2
  · intro x hx
    rcases insAt_mem.1 hx with rfl | hx
    · exact hung_ins h hn hh
    · exact hung_ins h hn (h.hung x hx)
theorem nm_len {s : Str} (h : isNm s = true) : s.length ≤ 8 := by
  unfold isNm at h
  rw [Bool.and_eq_true, wi_true] at h
  have := h.2.2
  simp at this; omega
theorem dev_small {d : Device} (h : devB d = true) : d.Name.length ≤ 8 ∧ d.Line.length ≤ 8 := by
  have hk := dev_kind h
  unfold devB at h
  rw [Bool.and_eq_true] at h
  refine ⟨nm_len h.1, ?_⟩
  have h2 := h.2
  rcases hk with k | k | k
  · rw [if_pos k, Bool.and_eq_true, decide_eq_true_eq] at h2
    rw [h2.1]; simp
  · rw [if_neg (by omega), if_pos k, Bool.and_eq_true] at h2
    exact nm_len h2.1
  · rw [if_neg (by omega), if_neg (by omega), if_pos k] at h2
    simp only [Bool.and_eq_true] at h2
    exact nm_len (by first | exact h2.1 | exact h2.2.1 | exact h2.2.2.1 | exact h2.2.2.2.1 | exact h2.2.2.2.2.1 | exact h2.2.2.2.2.2.1)
theorem rig_devs {l : List Device} (h : RigP l) : DevsOK l := fun d hd => by
  have := dev_small (h.dev d hd)
  omega
end Ev

namespace Ev
open Go
structure ScoreP (l : List Cue) : Prop where
  len : l.length ≤ 12
  cue : ∀ c ∈ l, isCue c = true
  lt : ∀ i a b, l[i]? = some a → l[i + 1]? = some b → cmpC a b < 0
theorem cmpI_cases (a b : Int) : (a < b ∧ cmpI a b = -1) ∨ (a = b ∧ cmpI a b = 0) ∨ (b < a ∧ cmpI a b = 1) := by
  unfold cmpI
  by_cases h : a < b
  · rw [if_pos h]; exact .inl ⟨h, rfl⟩
  · by_cases h2 : a > b
    · rw [if_neg h, if_pos h2]; exact .inr (.inr ⟨h2, rfl⟩)
    · rw [if_neg h, if_neg h2]; exact .inr (.inl ⟨by omega, rfl⟩)
theorem cmpS_cases (a b : Str) : (Op.bytesLess a b = true ∧ cmpS a b = -1) ∨ (a = b ∧ cmpS a b = 0) ∨ (Op.bytesLess b a = true ∧ cmpS a b = 1) := by
  unfold cmpS
  by_cases h : Op.bytesLess a b = true
  · rw [if_pos h]; exact .inl ⟨h, rfl⟩
  · by_cases h2 : a = b
    · rw [if_neg h, if_pos h2]; exact .inr (.inl ⟨h2, rfl⟩)
    · rw [if_neg h, if_neg h2]; exact .inr (.inr ⟨less_or (by simpa using h) (fun e => h2 e.symm), rfl⟩)
theorem cmpC_swap {a x : Cue} (h1 : ¬ cmpC a x < 0) (h2 : cmpC a x ≠ 0) : cmpC x a < 0 := by
  unfold cmpC at h1 h2 ⊢
  rcases cmpI_cases a.Tick x.Tick with ⟨p, e⟩ | ⟨p, e⟩ | ⟨p, e⟩
  · rw [e] at h1; simp at h1
  · rw [e, if_pos rfl] at h1 h2
    rcases cmpI_cases x.Tick a.Tick with ⟨q, f⟩ | ⟨q, f⟩ | ⟨q, f⟩
    · omega
    · rw [f, if_pos rfl]
      rcases cmpS_cases a.Name x.Name with ⟨u, g⟩ | ⟨u, g⟩ | ⟨u, g⟩
      · omega
      · omega
      · unfold cmpS; rw [if_pos u]; decide
    · omega
  · rcases cmpI_cases x.Tick a.Tick with ⟨q, f⟩ | ⟨q, f⟩ | ⟨q, f⟩
    · rw [f]; simp
    · omega
    · omega
theorem score_ins {l : List Cue} (h : ScoreP l) {k : Nat} {d : Cue} (hk : k ≤ l.length) (h8 : l.length ≠ 12) (hd : isCue d = true)
    (h1 : ∀ (i : Nat) e, i < k → l[i]? = some e → cmpC e d < 0) (h2 : ∀ e, l[k]? = some e → ¬ cmpC e d < 0 ∧ cmpC e d ≠ 0) : ScoreP (insAt l k d) := by
  refine ⟨?_, ?_, ?_⟩
  · have := h.len
    rw [insAt_len]; omega
  · intro x hx
    rcases insAt_mem.1 hx with rfl | hx
    · exact hd
    · exact h.cue x hx
  · exact insAt_adj (fun a b => cmpC a b < 0) hk h.lt (fun i a hi ha => h1 i a (by omega) ha) (fun b hb => cmpC_swap (h2 b hb).1 (h2 b hb).2)
end Ev

namespace Ev
open Go
theorem all_range {α : Type} (l : List α) (p : Nat → Bool) (q : Nat → α → Prop) (h : ∀ i x, l[i]? = some x → (p i = true ↔ q i x)) : (List.range l.length).all p = true ↔ ∀ i x, l[i]? = some x → q i x := by
  rw [List.all_eq_true]
  constructor
  · intro k i x hx
    exact (h i x hx).1 (k i (by simpa using (List.getElem?_eq_some_iff.mp hx).1))
  · intro k i hi
    have hi : i < l.length := by simpa using hi
    have hx : l[i]? = some l[i] := by simp
    exact (h i _ hx).2 (k i _ hx)
def scAt (l : List Cue) (i : Nat) : Bool := match l[i]? with
  | some c => isCue c && (decide (i = 0) || (match l[i - 1]? with | some b => decide (cmpC b c < 0) | none => true))
  | none => true
theorem scoreI_all (l : List Cue) (hn : NamesOK l) (hl : l.length ≤ 1048576) : G40 (l, ()) = some ((List.range l.length).all (scAt l) && decide (l.length ≤ 12), ()) := by
  unfold G40 F40
  refine (iterF_chk (f := s40_0 G87 G88) (K := fun t6 => some ((decide ((Int.ofNat (List.length t6.1)) ≤ 12)), ())) (fun i => (l, l, Int.ofNat l.length, (i : Int), ())) (scAt l) (some (false, ())) l.length (by omega) ?_ ?_).trans ?_
  · intro i hi rec K
    have hx : l[i]? = some l[i] := by simp
    have e1 : w64 ((i : Int) + 1) = ((i + 1 : Nat) : Int) := w64_id (by omega) (by omega)
    have hc : G87 (l[i], ()) = some (isCue l[i], ()) := cueI _ (hn _ (by simp))
    unfold scAt
    rw [hx]
    simp only [s40_0]
    rw [cond_true_dec (by simp; omega), rdL_at hx, hc, e1]
    simp only [Option.bind_some, Bool.not_not]
    cases isCue l[i]
    · rfl
    · simp only [cond_true, Bool.true_and]
      by_cases hz : i = 0
      · subst hz; rfl
      · obtain ⟨j, rfl⟩ : ∃ j, i = j + 1 := ⟨i - 1, by omega⟩
        have hy : l[j]? = some l[j] := by simp
        have e2 : w64 (((j + 1 : Nat) : Int) - 1) = (j : Int) := by rw [w64_id (by omega) (by omega)]; omega
        have hcc : G88 (l[j], l[j + 1], ()) = some (cmpC l[j] l[j + 1], ()) := cmpCI _ _
        rw [cond_true_dec (by omega), e2, rdL_at hy, hcc, decide_eq_false hz, Nat.add_sub_cancel, hy]
        simp only [Option.bind_some, Bool.false_or]
        by_cases hlt : cmpC l[j] l[j + 1] < 0
        · rw [cond_false_dec (by omega), cond_true_dec hlt]
        · rw [cond_true_dec (by omega), cond_false_dec hlt]
  · intro rec K
    simp only [s40_0]
    rw [cond_false_dec (by simp)]
  · cases (List.range l.length).all (scAt l)
    · rfl
    · simp; omega
theorem scB_iff {l : List Cue} (hn : NamesOK l) (hl : l.length ≤ 1048576) : scB l = true ↔ ScoreP l := by
  unfold scB
  rw [scoreI_all l hn hl]
  simp only [Option.map_some, Option.getD_some, Bool.and_eq_true, decide_eq_true_eq]
  rw [all_range l (scAt l) (fun i c => isCue c = true ∧ (i = 0 ∨ ∀ b, l[i - 1]? = some b → cmpC b c < 0)) (fun i c hc => by
    unfold scAt
    rw [hc, Bool.and_eq_true, Bool.or_eq_true, decide_eq_true_eq]
    cases hb : l[i - 1]? with
    | none => simp
    | some b => simp)]
  constructor
  · rintro ⟨h1, h2⟩
    refine ⟨h2, fun c hc => ?_, fun i a b ha hb => ?_⟩
    · obtain ⟨i, hi⟩ := List.mem_iff_getElem?.mp hc
      exact (h1 i c hi).1
    · rcases (h1 (i + 1) b hb).2 with h | h
      · omega
      · exact h a (by rw [Nat.add_sub_cancel]; exact ha)
  · rintro ⟨h1, h2, h3⟩
    refine ⟨fun i c hc => ⟨h2 c (mem_at hc), ?_⟩, h1⟩
    by_cases hz : i = 0
    · exact .inl hz
    · right
      intro b hb
      obtain ⟨j, rfl⟩ : ∃ j, i = j + 1 := ⟨i - 1, by omega⟩
      rw [Nat.add_sub_cancel] at hb
      exact h3 j b c hb hc
theorem score_names {l : List Cue} (h : ScoreP l) : NamesOK l := fun c hc => by
  have := h.cue c hc
  unfold isCue at this
  simp only [Bool.and_eq_true] at this
  have := nm_len this.2.1
  omega
/-! ### Winds -/
structure WindP (l : List Gust) : Prop where
  len : l.length ≤ 8
  gust : ∀ g ∈ l, (0 ≤ g.From ∧ g.From ≤ 64) ∧ isDr g.Drift = true
  lt : ∀ i a b, l[i]? = some a → l[i + 1]? = some b → a.From < b.From
def wdAt (l : List Gust) (i : Nat) : Bool := match l[i]? with
  | some c => wi c.From 0 64 && (isDr c.Drift && (decide (i = 0) || (match l[i - 1]? with | some b => decide (b.From < c.From) | none => true)))
  | none => true
theorem windI_all (l : List Gust) (hl : l.length ≤ 1048576) : G41 (l, ()) = some ((List.range l.length).all (wdAt l) && decide (l.length ≤ 8), ()) := by
  unfold G41 F41
  refine (iterF_chk (f := s41_0 G42 G89) (K := fun t6 => some ((decide ((Int.ofNat (List.length t6.1)) ≤ 8)), ())) (fun i => (l, l, Int.ofNat l.length, (i : Int), ())) (wdAt l) (some (false, ())) l.length (by omega) ?_ ?_).trans ?_
  · intro i hi rec K
    have hx : l[i]? = some l[i] := by simp
    have e1 : w64 ((i : Int) + 1) = ((i + 1 : Nat) : Int) := w64_id (by omega) (by omega)
    have hc : G42 (l[i].From, 0, 64, ()) = some (wi l[i].From 0 64, ()) := within_is _ _ _
    have hd : G89 (l[i].Drift, ()) = some (isDr l[i].Drift, ()) := drI _
    unfold wdAt
    rw [hx]
    simp only [s41_0]
    rw [cond_true_dec (by simp; omega), rdL_at hx, hc, e1]
    simp only [Option.bind_some, Bool.not_not]
    cases wi l[i].From 0 64
    · rfl
    · simp only [cond_true, Bool.true_and, hd, Option.bind_some]
      cases isDr l[i].Drift
      · rfl
      · simp only [cond_true, Bool.true_and, Bool.not_true, Bool.not_false]
        by_cases hz : i = 0
        · subst hz; rfl
        · obtain ⟨j, rfl⟩ : ∃ j, i = j + 1 := ⟨i - 1, by omega⟩
          have hy : l[j]? = some l[j] := by simp
          have e2 : w64 (((j + 1 : Nat) : Int) - 1) = (j : Int) := by rw [w64_id (by omega) (by omega)]; omega
          rw [cond_true_dec (by omega), e2, rdL_at hy, decide_eq_false hz, Nat.add_sub_cancel, hy]
          simp only [Bool.false_or]
          by_cases hlt : l[j].From < l[j + 1].From
          · rw [cond_false_dec (by omega), cond_true_dec hlt]
          · rw [cond_true_dec (by omega), cond_false_dec hlt]
  · intro rec K
    simp only [s41_0]
    rw [cond_false_dec (by simp)]
  · cases (List.range l.length).all (wdAt l)
    · rfl
    · simp; omega
theorem wdB_iff {l : List Gust} (hl : l.length ≤ 1048576) : wdB l = true ↔ WindP l := by
  unfold wdB
  rw [windI_all l hl]
  simp only [Option.map_some, Option.getD_some, Bool.and_eq_true, decide_eq_true_eq]
  rw [all_range l (wdAt l) (fun i c => ((0 ≤ c.From ∧ c.From ≤ 64) ∧ isDr c.Drift = true) ∧ (i = 0 ∨ ∀ b, l[i - 1]? = some b → b.From < c.From)) (fun i c hc => by
    unfold wdAt
    rw [hc, Bool.and_eq_true, Bool.and_eq_true, Bool.or_eq_true, decide_eq_true_eq, wi_true, and_assoc]
    cases hb : l[i - 1]? with
    | none => simp [and_assoc]
    | some b => simp [and_assoc])]
  constructor
  · rintro ⟨h1, h2⟩
    refine ⟨h2, fun c hc => ?_, fun i a b ha hb => ?_⟩
    · obtain ⟨i, hi⟩ := List.mem_iff_getElem?.mp hc
      exact (h1 i c hi).1
    · rcases (h1 (i + 1) b hb).2 with h | h
      · omega
      · exact h a (by rw [Nat.add_sub_cancel]; exact ha)
  · rintro ⟨h1, h2, h3⟩
    refine ⟨fun i c hc => ⟨h2 c (mem_at hc), ?_⟩, h1⟩
    by_cases hz : i = 0
    · exact .inl hz
    · right
      intro b hb
      obtain ⟨j, rfl⟩ : ∃ j, i = j + 1 := ⟨i - 1, by omega⟩
      rw [Nat.add_sub_cancel] at hb
      exact h3 j b c hb hc
/-! ### Levels -/
theorem floor_in {x n y : Int} (hn : 1 ≤ n) (hn2 : n ≤ 16) (hx : (0 ≤ y ∧ 0 ≤ x ∧ x ≤ n * y) ∨ (y ≤ 0 ∧ x ≤ 0 ∧ n * y ≤ x)) (hb : -1000 ≤ y ∧ y ≤ 1000) : ∃ v, G189 (x, n, ()) = some (v, ()) ∧ ((0 ≤ v ∧ v ≤ y) ∨ (y ≤ v ∧ v ≤ 0)) := by
  have h1 := Int.mul_tdiv_add_tmod x n
  have h2 := Int.tmod_lt_of_pos x (show 0 < n by omega)
  have h3 := Int.lt_tmod_of_pos x (show 0 < n by omega)
  generalize hq : Int.tdiv x n = q at h1
  generalize hr : Int.tmod x n = r at h1 h2 h3
  have hqb : -2000 ≤ q ∧ q ≤ 2000 := by
    constructor
    · by_cases h : -2000 ≤ q
      · exact h
      · exfalso
        have a1 : n * q ≤ n * (-2001) := Int.mul_le_mul_of_nonneg_left (by omega) (by omega)
        rcases hx with hx | hx
        · omega
        · have a2 : n * (-1000) ≤ n * y := Int.mul_le_mul_of_nonneg_left (by omega) (by omega)
          omega
    · by_cases h : q ≤ 2000
      · exact h
      · exfalso
        have a1 : n * 2001 ≤ n * q := Int.mul_le_mul_of_nonneg_left (by omega) (by omega)
        rcases hx with hx | hx
        · have a2 : n * y ≤ n * 1000 := Int.mul_le_mul_of_nonneg_left (by omega) (by omega)
          omega
        · omega
  unfold G189 F189
  dsimp only
  rw [cond_false_dec (by omega), cond_false_dec (by omega), hq, hr, w64_id (n := q) (by omega) (by omega)]
  rcases hx with ⟨y0, x0, x1⟩ | ⟨y0, x0, x1⟩
  · have hr0 : 0 ≤ r := by rw [← hr]; exact Int.tmod_nonneg n x0
    rw [cond_false_dec (by omega)]
    refine ⟨q, rfl, .inl ⟨?_, ?_⟩⟩
    · have : n * (-1) < n * q := by omega
      have := Int.lt_of_mul_lt_mul_left this (by omega)
      omega
    · exact Int.le_of_mul_le_mul_left (show n * q ≤ n * y by omega) (by omega)
  · have hr0 : r ≤ 0 := by
      have := Int.tmod_nonneg n (show 0 ≤ -x by omega)
      rw [Int.neg_tmod, hr] at this
      omega
    by_cases hr1 : r < 0
    · rw [cond_true_dec hr1, w64_id (by omega) (by omega)]
      refine ⟨q - 1, rfl, .inr ⟨?_, ?_⟩⟩
      · have := Int.lt_of_mul_lt_mul_left (show n * y < n * q by omega) (by omega)
        omega
      · have : n * q < n * 1 := by omega
        have := Int.lt_of_mul_lt_mul_left this (by omega)
        omega
    · rw [cond_false_dec hr1]
      refine ⟨q, rfl, .inr ⟨?_, ?_⟩⟩
      · exact Int.le_of_mul_le_mul_left (show n * y ≤ n * q by omega) (by omega)
      · have : n * q < n * 1 := by omega
        have := Int.lt_of_mul_lt_mul_left this (by omega)
        omega
theorem ramp_in {a b i n : Int} (ha : 0 ≤ a ∧ a ≤ 32) (hb : 0 ≤ b ∧ b ≤ 32) (hn : 0 ≤ n ∧ n ≤ 16) : ∃ v, G167 (a, b, i, n, ()) = some (v, ()) ∧ 0 ≤ v ∧ v ≤ 32 := by
  have m1 : G90 (a, ()) = some (wi a (-4096) 4096, ()) := measI _
  have m2 : G90 (b, ()) = some (wi b (-4096) 4096, ()) := measI _
  unfold G167 F167
  simp only [m1, m2, Option.bind_some, wi_of (show -4096 ≤ a by omega) (show a ≤ 4096 by omega), wi_of (show -4096 ≤ b by omega) (show b ≤ 4096 by omega), Bool.not_true, Bool.not_false, cond_true, cond_false]
  by_cases h1 : i ≥ n
  · rw [cond_true_dec h1]; exact ⟨b, rfl, hb⟩
  · rw [cond_false_dec h1]
    by_cases h2 : i ≤ 0
    · rw [decide_eq_true h2]; exact ⟨a, rfl, ha⟩
    · rw [decide_eq_false h2]
      simp only [Bool.not_false, cond_true]
      rw [cond_false_dec (by omega), w64_id (n := b - a) (by omega) (by omega)]
      have hbd : -(16 * 32) ≤ i * (b - a) ∧ i * (b - a) ≤ 16 * 32 := by
        constructor
        · have e1 : i * (-32) ≤ i * (b - a) := Int.mul_le_mul_of_nonneg_left (by omega) (by omega)
          omega
        · have e1 : i * (b - a) ≤ i * 32 := Int.mul_le_mul_of_nonneg_left (by omega) (by omega)
          omega
      rw [w64_id (n := i * (b - a)) (by omega) (by omega)]
      obtain ⟨v, hv, hv2⟩ := floor_in (x := i * (b - a)) (n := n) (y := b - a) (by omega) (by omega) (by
        by_cases hy : 0 ≤ b - a
        · refine .inl ⟨hy, Int.mul_nonneg (by omega) hy, Int.mul_le_mul_of_nonneg_right (by omega) hy⟩
        · refine .inr ⟨by omega, ?_, ?_⟩
          · have : i * (b - a) ≤ i * 0 := Int.mul_le_mul_of_nonneg_left (by omega) (by omega)
            omega
          · have : i * (a - b) ≤ n * (a - b) := Int.mul_le_mul_of_nonneg_right (by omega) (by omega)
            have e1 : i * (a - b) = -(i * (b - a)) := by rw [← Int.mul_neg]; congr 1; omega
            have e2 : n * (a - b) = -(n * (b - a)) := by rw [← Int.mul_neg]; congr 1; omega
            omega) (by omega)
      rw [hv]
      simp only [Option.bind_some]
      rw [w64_id (by omega) (by omega)]
      exact ⟨a + v, rfl, by omega, by omega⟩
theorem lvl_in {l : List Cue} (h : ScoreP l) (name : Str) (t : Int) : 0 ≤ lvl l name t ∧ lvl l name t ≤ 32 := by
  have hn := score_names h
  have hlen := h.len
  have hl : l.length ≤ 1048576 := by omega
  have hs : G40 (l, ()) = some (true, ()) := by
    rw [scI_is l hn hl, (scB_iff hn hl).2 h]
  have key : ∃ v, G127 (l, name, t, ()) = some (v, ()) ∧ 0 ≤ v ∧ v ≤ 32 := by
    unfold G127 F127
    dsimp only
    rw [hs]
    simp only [Option.bind_some, Bool.not_true, Bool.not_false, cond_true]
    by_cases ht : t < 0
    · rw [cond_true_dec ht]; exact ⟨0, rfl, by omega, by omega⟩
    · rw [cond_false_dec ht]
      have good : ∀ c ∈ l, (0 ≤ c.Level ∧ c.Level ≤ 32) ∧ (0 ≤ c.Ramp ∧ c.Ramp ≤ 16) := fun c hc => by
        have := h.cue c hc
        unfold isCue at this
        simp only [Bool.and_eq_true] at this
        exact ⟨wi_true.1 this.2.2.1, wi_true.1 this.2.2.2⟩
      obtain ⟨t', ⟨acc, c, rfl, ha, hc1, hc2⟩, e⟩ := iterF_all (f := s127_0 G40 G167) (K := fun t5 => (G167 (t5.2.2.1, t5.2.2.2.1.Level, (w64 (t5.2.1 - t5.2.2.2.1.Tick)), t5.2.2.2.1.Ramp, ())).bind fun x6 => some (x6.1, ()))
        (t := (name, t, 0, (⟨0, [], 0, 0⟩ : Cue), l, Int.ofNat l.length, 0, ())) l.length (fun i t' => ∃ (acc : Int) (c : Cue), t' = (name, t, acc, c, l, Int.ofNat l.length, (i : Int), ()) ∧ (0 ≤ acc ∧ acc ≤ 32) ∧ (0 ≤ c.Level ∧ c.Level ≤ 32) ∧ (0 ≤ c.Ramp ∧ c.Ramp ≤ 16)) (by omega) ⟨0, ⟨0, [], 0, 0⟩, rfl, by omega, by simp, by simp⟩
        (by
          rintro i _ hi ⟨acc, c, rfl, ha, hc1, hc2⟩
          have hx : l[i]? = some l[i] := by simp
          have e1 : w64 ((i : Int) + 1) = ((i + 1 : Nat) : Int) := w64_id (by omega) (by omega)
          obtain ⟨v, hv, hv2⟩ := ramp_in (a := acc) (b := c.Level) (i := w64 (l[i].Tick - c.Tick)) (n := c.Ramp) ha hc1 hc2
          obtain ⟨g1, g2⟩ := good l[i] (by simp)
          by_cases c1 : l[i].Name = name
          · by_cases c2 : l[i].Tick ≤ t
            · refine ⟨_, ⟨v, l[i], rfl, hv2, g1, g2⟩, fun rec K => ?_⟩
              simp only [s127_0]
              rw [cond_true_dec (by simp; omega), rdL_at hx, cond_true_dec c1, cond_true_dec c2, hv, e1]
              rfl
            · refine ⟨_, ⟨acc, c, rfl, ha, hc1, hc2⟩, fun rec K => ?_⟩
              simp only [s127_0]
              rw [cond_true_dec (by simp; omega), rdL_at hx, cond_true_dec c1, cond_false_dec c2, e1]
          · refine ⟨_, ⟨acc, c, rfl, ha, hc1, hc2⟩, fun rec K => ?_⟩
            simp only [s127_0]
            rw [cond_true_dec (by simp; omega), rdL_at hx, cond_false_dec c1, e1])
        (by
          rintro _ ⟨acc, c, rfl, _⟩ rec K
          simp only [s127_0]
          rw [cond_false_dec (by simp)])
      obtain ⟨v, hv, hv2⟩ := ramp_in (a := acc) (b := c.Level) (i := w64 (t - c.Tick)) (n := c.Ramp) ha hc1 hc2
      rw [e]
      simp only [hv, Option.bind_some]
      exact ⟨v, rfl, hv2⟩
  obtain ⟨v, hv, hv2⟩ := key
  have : lvl l name t = v := by unfold lvl; rw [hv]; rfl
  rw [this]; exact hv2
end Ev

namespace Ev
open Go
theorem pickL_nodup (f : Device → Bool) (r : List Device) (n : Nat) : (pickL f r n).Nodup := List.Pairwise.filter _ List.nodup_range
theorem foldset_out : ∀ (ps : List (Nat × Int)) (out : List Int) (i : Nat), (∀ p ∈ ps, p.1 ≠ i) → (ps.foldl (fun o p => o.set p.1 p.2) out)[i]? = out[i]?
  | [], out, i, h => rfl
  | p :: ps, out, i, h => by
    rw [List.foldl_cons, foldset_out ps _ i (fun q hq => h q (by simp [hq])), List.getElem?_set_ne (h p (by simp))]
theorem foldset_in : ∀ (ps : List (Nat × Int)) (out : List Int) (i : Nat) (x : Int), (ps.map Prod.fst).Nodup → (i, x) ∈ ps → i < out.length → (ps.foldl (fun o p => o.set p.1 p.2) out)[i]? = some x
  | [], out, i, x, _, h, _ => by cases h
  | p :: ps, out, i, x, hn, h, hi => by
    rw [List.foldl_cons]
    rw [List.map_cons, List.nodup_cons] at hn
    rcases List.mem_cons.mp h with h | h
    · subst h
      rw [foldset_out ps _ i (fun q hq e => hn.1 (List.mem_map.mpr ⟨q, hq, e⟩))]
      simp [hi]
    · exact foldset_in ps _ i x hn.2 h (by simpa using hi)
theorem zip_fst : ∀ (ws : List Nat) (xs : List Int), ws.length = xs.length → (ws.zip xs).map Prod.fst = ws
  | [], _, _ => rfl
  | w :: ws, [], h => by simp at h
  | w :: ws, x :: xs, h => by
    simp only [List.zip_cons_cons, List.map_cons]
    rw [zip_fst ws xs (by simpa using h)]
theorem asg_in {out : List Int} {ws : List Nat} {xs : List Int} (hn : ws.Nodup) (hl : ws.length = xs.length) {k i : Nat} {x : Int} (hw : ws[k]? = some i) (hx : xs[k]? = some x) (hi : i < out.length) : (asg out ws xs)[i]? = some x := by
  refine foldset_in _ out i x (by rw [zip_fst ws xs hl]; exact hn) ?_ hi
  exact List.mem_iff_getElem?.mpr ⟨k, List.getElem?_zip_eq_some.mpr ⟨hw, hx⟩⟩
theorem asg_out {out : List Int} {ws : List Nat} {xs : List Int} {i : Nat} (h : i ∉ ws) : (asg out ws xs)[i]? = out[i]? :=
  foldset_out _ out i fun p hp e => h (by rw [← e]; exact (List.of_mem_zip hp).1)
theorem asg_sum : ∀ (ws : List Nat) (xs : List Int) (out : List Int), (∀ x ∈ out, 0 ≤ x) → (∀ x ∈ xs, 0 ≤ x) → sumL (asg out ws xs) ≤ sumL out + sumL xs ∧ ∀ x ∈ asg out ws xs, 0 ≤ x
  | [], xs, out, ho, hx => by
    rw [asg_nil]
    have := (show ∀ l : List Int, (∀ x ∈ l, 0 ≤ x) → 0 ≤ sumL l from fun l => by
      induction l with
      | nil => intro _; decide
      | cons a l ih => intro h; have := ih (fun x hx => h x (by simp [hx])); have := h a (by simp); simp only [sumL]; omega) xs hx
    exact ⟨by omega, ho⟩
  | w :: ws, [], out, ho, hx => by
    rw [asg_nil']
    exact ⟨by simp [sumL], ho⟩
  | w :: ws, x :: xs, out, ho, hx => by
    have e : asg out (w :: ws) (x :: xs) = asg (out.set w x) ws xs := rfl
    have hx0 := hx x (by simp)
    have hs : ∀ y ∈ out.set w x, 0 ≤ y := fun y hy => by
      rcases List.mem_or_eq_of_mem_set hy with h | h
      · exact ho y h
      · rw [h]; exact hx0
    obtain ⟨h1, h2⟩ := asg_sum ws xs (out.set w x) hs (fun y hy => hx y (by simp [hy]))
    rw [e]
    refine ⟨?_, h2⟩
    have : sumL (out.set w x) ≤ sumL out + x := by
      cases hw : out[w]? with
      | none => rw [List.set_eq_of_length_le (by rw [List.getElem?_eq_none_iff] at hw; exact hw)]; omega
      | some y =>
        rw [sumL_set out w y x hw]
        have := ho y (List.mem_iff_getElem?.mpr ⟨w, hw⟩)
        omega
    simp only [sumL]
    omega
theorem sumL_pos (l : List Int) (h : ∀ x ∈ l, 0 ≤ x) : 0 ≤ sumL l := by
  have := (asg_sum [] l [] (by simp) h).1
  rw [asg_nil] at this
  simpa [sumL] using this
/-! ### Shares are fair -/
theorem shares_sum {s : Int} {l R : List Int} (h : SharesP s l R) (hd : demB l = true) : sumL R = mn s (sumL l) ∧ (∀ (i j : Nat) x y z, R[i]? = some x → l[i]? = some y → R[j]? = some z → x < y → z ≤ x + 1) := by
  obtain ⟨v, left, h1, h2, h3, h4, h5, h6⟩ := h.ex
  obtain ⟨h8, hl⟩ := (demB_iff l).1 hd
  have hle : sumL R ≤ sumL l := sumL_le _ _ h.len fun i x y hx hy => (shares_le h hd hx hy).2
  have get : ∀ (i : Nat) x, R[i]? = some x → ∃ y, l[i]? = some y := fun i x hx => by
    have : i < l.length := by rw [← h.len]; exact (List.getElem?_eq_some_iff.mp hx).1
    exact ⟨l[i], by simp⟩
  refine ⟨?_, fun i j x y z hx hy hz hlt => ?_⟩
  · rw [mn_eq]
    by_cases hv : v = 64
    · have : R = l := List.ext_getElem? fun i => by
        cases hx : R[i]? with
        | none =>
          rw [List.getElem?_eq_none_iff, h.len] at hx
          rw [List.getElem?_eq_none (by omega)]
        | some x =>
          obtain ⟨y, hy⟩ := get i x hx
          have := hl y (List.mem_iff_getElem?.mpr ⟨i, hy⟩)
          rcases h6 i x y hx hy with q | q
          · rw [hy, q.2]
          · omega
      rw [this] at h5 ⊢
      split <;> omega
    · have hf : ¬ sumL (cutL l ((v + 1 : Nat) : Int)) ≤ s := by
        rcases h3 with h3 | h3
        · exact absurd h3 hv
        · unfold fitsN at h3; simpa using h3
      have : left = 0 := by
        by_cases h0 : left = 0
        · exact h0
        · exfalso
          have : R = cutL l ((v + 1 : Nat) : Int) := List.ext_getElem? fun i => by
            rw [cutL_at]
            cases hx : R[i]? with
            | none =>
              rw [List.getElem?_eq_none_iff, h.len] at hx
              rw [List.getElem?_eq_none (by omega)]; rfl
            | some x =>
              obtain ⟨y, hy⟩ := get i x hx
              rw [hy, Option.map_some, mn_eq]
              rcases h6 i x y hx hy with q | q
              · congr 1; split <;> omega
              · congr 1; split <;> omega
          rw [this] at h5
          omega
      split <;> omega
  · rcases h6 i x y hx hy with q | q
    · omega
    · obtain ⟨y', hy'⟩ := get j z hz
      rcases h6 j z y' hz hy' with q' | q' <;> omega
/-! ### The lifts of a pump's nozzles -/
section
variable {s : ShowT} (h : ShowV s) {t : Int}
include h
theorem score_p : ScoreP s.2.1 := (scB_iff h.ok.names h.ok.score).1 h.score
theorem wind_p : WindP s.2.2.1 := (wdB_iff h.ok.wind).1 h.wind
theorem noz_most {d : Device} (hd : d ∈ s.1) (hk : d.Kind = 2) : 0 ≤ d.Most ∧ d.Most ≤ 32 := by
  have := h.rig.dev d hd
  unfold devB at this
  rw [if_neg (by omega), if_pos hk] at this
  simp only [Bool.and_eq_true] at this
  exact wi_true.1 this.2.2.2.2
theorem pump_most {d : Device} (hd : d ∈ s.1) (hk : d.Kind = 1) : 0 ≤ d.Most ∧ d.Most ≤ 512 := by
  have := h.rig.dev d hd
  unfold devB at this
  rw [if_pos hk] at this
  simp only [Bool.and_eq_true] at this
  exact wi_true.1 this.2.2.2.2.2.2
theorem want_dem {p : Device} (hp : p ∈ s.1) (hk : p.Kind = 1) : demB (wantL s t p) = true := by
  rw [demB_iff]
  refine ⟨wantL_len h t p, fun x hx => ?_⟩
  unfold wantL at hx
  obtain ⟨i, hi, rfl⟩ := List.mem_map.mp hx
  obtain ⟨d, hd, hon⟩ := pickL_mem hi
  have hl : d.Line = p.Name := by simpa [onI] using hon
  have hdk := on_kind h.rig hp (mem_at hd) hl
  have hm := noz_most h (mem_at hd) (by omega)
  have hv := lvl_in (score_p h) d.Name t
  have hmn := mn_le (lvl s.2.1 d.Name t) d.Most
  rw [demAt_is hd]
  unfold dem
  omega
theorem want_share {p : Device} (hp : p ∈ s.1) (hk : p.Kind = 1) : SharesP p.Most (wantL s t p) (shr p.Most (wantL s t p)) := by
  have hm := pump_most h hp hk
  obtain ⟨_, _, ⟨_, e⟩ | ⟨_, q⟩⟩ := shr_is p.Most (wantL s t p) (by have := wantL_len h t p; omega)
  · rw [want_dem h hp hk, wi_of hm.1 hm.2] at e; cases e
  · exact q
theorem liftsN_own : ∀ (n : Nat), n ≤ s.1.length → ∀ (q : Nat) (p : Device), q < n → s.1[q]? = some p → p.Kind = 1 → ∀ (k i : Nat), (pickL (onI p) s.1 s.1.length)[k]? = some i → (liftsN s t n)[i]? = (shr p.Most (wantL s t p))[k]?
  | 0, _, q, p, hq, _, _, _, _, _ => by omega
  | n + 1, hn, q, p, hq, hp, hk, k, i, hki => by
    have hi : i < s.1.length := pickL_lt i (mem_at hki)
    rw [liftsN_succ s t n hn]
    unfold stepL
    by_cases e : q = n
    · subst e
      have hpp : s.1[q] = p := by
        have : s.1[q]? = some s.1[q] := by simp
        rw [this] at hp; exact Option.some.inj hp
      rw [hpp, if_pos hk]
      have hS := want_share h (t := t) (mem_at hp) hk
      have hl : (pickL (onI p) s.1 s.1.length).length = (shr p.Most (wantL s t p)).length := by
        rw [hS.len]; unfold wantL; simp
      have hkl : k < (shr p.Most (wantL s t p)).length := by rw [← hl]; exact (List.getElem?_eq_some_iff.mp hki).1
      have hx : (shr p.Most (wantL s t p))[k]? = some (shr p.Most (wantL s t p))[k] := by simp
      rw [hx]
      exact asg_in (pickL_nodup _ _ _) hl hki hx (by rw [liftsN_len s t q (by omega)]; exact hi)
    · have ih := liftsN_own n (by omega) q p (by omega) hp hk k i hki
      by_cases k1 : s.1[n].Kind = 1
      · rw [if_pos k1, asg_out, ih]
        intro hin
        obtain ⟨d, hd, ho⟩ := pickL_mem hin
        obtain ⟨d', hd', ho'⟩ := pickL_mem (mem_at hki)
        rw [hd] at hd'; cases hd'
        have e1 : d.Line = s.1[n].Name := by simpa [onI] using ho
        have e2 : d.Line = p.Name := by simpa [onI] using ho'
        exact e (rig_uniq h.rig hp (show s.1[n]? = some s.1[n] by simp) (e2.symm.trans e1))
      · rw [if_neg k1]; exact ih
/-- While the show runs, the lifts of the nozzles of a pump are its shares. -/
theorem lifts_own (ht : wi t 0 (s.2.2.2.1 - 1) = true) {q : Nat} {p : Device} (hp : s.1[q]? = some p) (hk : p.Kind = 1) {k i : Nat} (hki : (pickL (onI p) s.1 s.1.length)[k]? = some i) : (liftsL s t)[i]? = (shr p.Most (wantL s t p))[k]? := by
  unfold liftsL
  rw [if_pos ht]
  exact liftsN_own h s.1.length (Nat.le_refl _) q p (List.getElem?_eq_some_iff.mp hp).1 hp hk k i hki
def pumpSum : List Device → Int
  | [] => 0
  | d :: l => (if d.Kind = 1 then d.Most else 0) + pumpSum l
omit h in
theorem pumpSum_app : ∀ a b : List Device, pumpSum (a ++ b) = pumpSum a + pumpSum b
  | [], b => by simp [pumpSum]
  | x :: a, b => by simp only [List.cons_append, pumpSum, pumpSum_app a b]; omega
theorem liftsN_sum : ∀ (n : Nat), n ≤ s.1.length → (∀ x ∈ liftsN s t n, 0 ≤ x) ∧ sumL (liftsN s t n) ≤ pumpSum (s.1.take n)
  | 0, _ => by
    refine ⟨fun x hx => ?_, ?_⟩
    · unfold liftsN at hx
      simp at hx; omega
    · unfold liftsN
      simp only [List.take_zero, List.foldl_nil, pumpSum]
      have : ∀ m : Nat, sumL (List.replicate m (0 : Int)) = 0 := fun m => by
        induction m with
        | zero => rfl
        | succ m ih => rw [List.replicate_succ]; simp only [sumL, ih]; rfl
      rw [this]; exact Int.le_refl _
  | n + 1, hn => by
    obtain ⟨h0, h1⟩ := liftsN_sum n (by omega)
    rw [liftsN_succ s t n hn, take_snocG s.1 n hn, pumpSum_app]
    unfold stepL
    by_cases k1 : s.1[n].Kind = 1
    · rw [if_pos k1]
      have hS := want_share h (t := t) (show s.1[n] ∈ s.1 by simp) k1
      have hd := want_dem h (t := t) (show s.1[n] ∈ s.1 by simp) k1
      have hpos : ∀ x ∈ shr s.1[n].Most (wantL s t s.1[n]), 0 ≤ x := fun x hx => by
        obtain ⟨j, hj⟩ := List.mem_iff_getElem?.mp hx
        have hjl : j < (wantL s t s.1[n]).length := by rw [← hS.len]; exact (List.getElem?_eq_some_iff.mp hj).1
        exact (shares_le hS hd hj (show (wantL s t s.1[n])[j]? = some _ by simp [hjl]; rfl)).1
      obtain ⟨a1, a2⟩ := asg_sum (pickL (onI s.1[n]) s.1 s.1.length) (shr s.1[n].Most (wantL s t s.1[n])) (liftsN s t n) h0 hpos
      refine ⟨a2, ?_⟩
      obtain ⟨v, left, _, _, _, q1, q2, _⟩ := hS.ex
      simp only [pumpSum, if_pos k1]
      omega
    · rw [if_neg k1]
      refine ⟨h0, ?_⟩
      simp only [pumpSum, if_neg k1]
      omega
theorem lifts_sum : (∀ x ∈ liftsL s t, 0 ≤ x) ∧ 0 ≤ sumL (liftsL s t) ∧ sumL (liftsL s t) ≤ pumpSum s.1 := by
  have key := liftsN_sum h (t := t) s.1.length (Nat.le_refl _)
  rw [List.take_length] at key
  have k0 := liftsN_sum h (t := t) 0 (by omega)
  have e0 : liftsN s t 0 = List.replicate s.1.length 0 := rfl
  rw [e0] at k0
  have hz : 0 ≤ sumL (liftsN s t s.1.length) := sumL_pos _ key.1
  have hz0 := sumL_pos _ k0.1
  have e : pumpSum (s.1.take 0) = 0 := rfl
  unfold liftsL
  split
  · exact ⟨key.1, hz, key.2⟩
  · exact ⟨k0.1, hz0, by omega⟩
end
end Ev
