/- Regions: both kinds. -/
import Derived.Test.YtmnahocockdpcaaReg2
set_option linter.unusedVariables false
set_option linter.unusedSimpArgs false
set_option linter.unnecessarySimpa false
namespace Ev
open Go

def undone (n : Nat) (listed : Array Bool) : List Nat := (List.range n).filter fun i => !listed.getD i true
theorem any_sound {P : Program} {E : Env} {ann : Nat → Bool} {ops : Array Oper} {S : Nat → St} {v : Nat → V} {C : Ctx} {Q : Exit → Act → World → Prop} (H : Trace P E ann ops.toList S v) (G : Good ops.toList)
    (hQ : ∀ a w, SR C (S ops.toList.length) a w → Q .normal a w) : ∀ (fuel : Nat) (listed : Array Bool) (a : Act) (w : World), (undone ops.size listed).length ≤ fuel → listed.size = ops.size →
    (∀ (j : Nat) (x : Oper) i, listed[j]? = some true → ops.toList[j]? = some x → predOf x i = true → listed[i]? = some true) → Mid C ops.toList S v (fun j => listed[j]? = some true) a w → wpAny P .any ops Q fuel listed a w := by
  have rdy : ∀ (listed : Array Bool), listed.size = ops.size → ∀ i, i ∈ Region.ready .any ops listed ↔ ∃ o, ops[i]? = some o ∧ listed[i]? = some false ∧ ∀ e ∈ o.after, Region.binds .any e = true → listed[e.on]? = some true := by
    intro listed hsz i
    simp only [Region.ready, List.mem_filter, List.mem_range, Bool.and_eq_true, Bool.not_eq_true']
    constructor
    · rintro ⟨hi, h1, h2⟩
      have e : ops[i]? = some ops[i] := by simp [hi]
      refine ⟨ops[i], e, ?_, fun x hx hb => ?_⟩
      · have : i < listed.size := by omega
        simp [this] at h1 ⊢; exact h1
      · simp only [e, Option.map_some, Option.getD_some, Array.all_eq_true'] at h2
        have := h2 x hx
        rw [hb] at this
        simp only [Bool.not_true, Bool.false_or] at this
        rcases Nat.lt_or_ge x.on listed.size with h' | h'
        · simp [h'] at this ⊢; exact this
        · simp [Array.getElem?_eq_none h'] at this
    · rintro ⟨o, ho, h1, h2⟩
      have hi : i < ops.size := (Array.getElem?_eq_some_iff.mp ho).1
      refine ⟨hi, ?_, ?_⟩
      · have : i < listed.size := by omega
        simp [this] at h1 ⊢; exact h1
      · simp only [ho, Option.map_some, Option.getD_some, Array.all_eq_true']
        intro x hx
        cases hb : Region.binds .any x
        · rfl
        · have := h2 x hx hb
          have hl : x.on < listed.size := (Array.getElem?_eq_some_iff.mp this).1
          simp [hl] at this ⊢; exact this
  have fin : ∀ (listed : Array Bool), listed.size = ops.size → Region.ready .any ops listed = [] → ∀ j, j < ops.size → listed[j]? = some true := by
    intro listed hsz hr j
    induction j using Nat.strongRecOn with
    | _ j ih =>
      intro hj
      cases hl : listed[j]? with
      | none => simp at hl; omega
      | some b =>
        cases b with
        | true => rfl
        | false =>
          exfalso
          have e : ops[j]? = some ops[j] := by simp [hj]
          have : j ∈ Region.ready .any ops listed := (rdy listed hsz j).2 ⟨ops[j], e, hl, fun x hx hb => by
            have hlt := G.back j ops[j] (by simpa using e) x hx hb
            exact ih x.on hlt (by omega)⟩
          rw [hr] at this; cases this
  intro fuel
  induction fuel with
  | zero =>
    intro listed a w hf hsz hcl M
    have hnil : Region.ready .any ops listed = [] := by
      cases hr : Region.ready .any ops listed with
      | nil => rfl
      | cons i r =>
        exfalso
        have hi : i ∈ Region.ready .any ops listed := by rw [hr]; simp
        obtain ⟨o, ho, h1, _⟩ := (rdy listed hsz i).1 hi
        have hil : i < ops.size := (Array.getElem?_eq_some_iff.mp ho).1
        have : i ∈ undone ops.size listed := by
          unfold undone
          rw [List.mem_filter]
          refine ⟨by simpa using hil, ?_⟩
          have : i < listed.size := by omega
          simp [this] at h1 ⊢; exact h1
        have := List.length_pos_of_mem this
        omega
    exact ⟨hnil, hQ a w (mid_done H G M fun j hj => fin listed hsz hnil j (by simpa using hj))⟩
  | succ fuel ih =>
    intro listed a w hf hsz hcl M
    refine ⟨fun hnil => hQ a w (mid_done H G M fun j hj => fin listed hsz hnil j (by simpa using hj)), fun i hi => ?_⟩
    obtain ⟨o, ho, h1, h2⟩ := (rdy listed hsz i).1 hi
    have hil : i < ops.size := (Array.getElem?_eq_some_iff.mp ho).1
    have hill : i < listed.size := by omega
    have hset : ∀ j, (listed.setIfInBounds i true)[j]? = some true ↔ (listed[j]? = some true ∨ j = i) := by
      intro j
      rw [Array.getElem?_setIfInBounds]
      by_cases hij : i = j
      · subst hij; simp [hill]
      · simp [hij, Ne.symm hij]
    refine mid_step H G (o := o) (by simpa using ho) (by rw [h1]; simp) (fun j hp => ?_) (fun j x hj hx hp => hcl j x i hj hx hp) M fun a w M' => ih _ a w ?_ (by simpa using hsz) ?_ ?_
    · obtain ⟨e, he, rfl, hb⟩ := predOf_iff.1 hp
      exact h2 e he hb
    · have hm : i ∈ undone ops.size listed := by
        unfold undone
        rw [List.mem_filter]
        refine ⟨by simpa using hil, ?_⟩
        simp [hill] at h1 ⊢; exact h1
      have e : undone ops.size (listed.setIfInBounds i true) = (undone ops.size listed).filter fun j => !(j == i) := by
        unfold undone
        rw [List.filter_filter]
        refine List.filter_congr fun j hj => ?_
        by_cases hij : j = i
        · subst hij; simp [hill]
        · have : (listed.setIfInBounds i true).getD j true = listed.getD j true := by
            simp [Array.getElem?_setIfInBounds_ne (Ne.symm hij)]
          rw [this]; simp [hij]
      rw [e]
      have := (List.length_filter_lt_length_iff_exists (p := fun j => !(j == i)) (l := undone ops.size listed)).2 ⟨i, hm, by simp⟩
      omega
    · intro j x k hj hx hp
      rw [hset] at hj ⊢
      rcases hj with hj | rfl
      · exact .inl (hcl j x k hj hx hp)
      · have : x = o := by
          have hx' : ops[j]? = some x := by simpa using hx
          rw [ho] at hx'; cases hx'; rfl
        subst this
        obtain ⟨e, he, rfl, hb⟩ := predOf_iff.1 hp
        exact .inl (h2 e he hb)
    · have : (fun j => (listed.setIfInBounds i true)[j]? = some true) = fun j => listed[j]? = some true ∨ j = i := by
        funext j; exact propext (hset j)
      rw [this]; exact M'
/-- A region. -/
theorem region_sound {R : Type} {P : Program} {E : Env} {T : Tab} (hT : TabOK P T) (hE : EnvOK P E) (hm : P.follows .mixedOrders = true) {ann : Nat → Bool} {L : LEnv R} {kr : St → Option R} {id : Nat} {ops : Array Oper} {d : Bool}
    {X : Nat → St → Option R} {K : St → Option R} {s : St} {r : R} (h : ev E T ann L kr (.region id ops d) X K s = some r) {C : Ctx} {Q : Exit → Act → World → Prop}
    (hQ : ∀ s' a w, K s' = some r → SR C s' a w → Q .normal a w) {a : Act} {w : World} (hs : SR C s a w) : (Code.region id ops d).wp P Q a w := by
  cases d with
  | false =>
    simp only [ev] at h
    exact wp_region_list (seq_sound hT hE (fun s a w hk h => hQ s a w hk h) ops.toList s h a w hs)
  | true =>
    simp only [ev] at h
    have hc : (calms E ann ops.toList && regOK ops.toList 0 ops.toList) = true := by
      cases hc : (calms E ann ops.toList && regOK ops.toList 0 ops.toList)
      · rw [hc] at h; cases h
      · rfl
    rw [hc, cond_true] at h
    rw [Bool.and_eq_true] at hc
    obtain ⟨S, v, hS, hk, hst⟩ := evOps_calm hT hE hc.1 h
    have H : Trace P E ann ops.toList S v := ⟨hst⟩
    have G := regOK_good hc.2
    refine wp_region_any hm (any_sound H G (fun a w h => hQ _ a w hk h) _ _ _ _ ?_ (by simp) ?_ ?_)
    · unfold undone
      exact Nat.le_trans (List.length_filter_le _ _) (by simp)
    · intro j x i hj
      simp [Array.getElem?_replicate] at hj
    · have : (fun (j : Nat) => (Array.replicate ops.size false)[j]? = some true) = fun _ => False := by
        funext j; simp [Array.getElem?_replicate]
      rw [this]
      exact mid_start H (by rw [hS]; exact hs)
end Ev
