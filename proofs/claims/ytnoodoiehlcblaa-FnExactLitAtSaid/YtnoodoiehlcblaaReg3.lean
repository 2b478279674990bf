/- Regions: both kinds. -/
import Derived.Test.YtnoodoiehlcblaaReg2
set_option linter.unusedVariables false
set_option linter.unusedSimpArgs false
set_option linter.unnecessarySimpa false
namespace Ev
open Go

def undone (n : Nat) (listed : Array Bool) : List Nat := (List.range n).filter fun i => !listed.getD i true
theorem undone_mem {n i : Nat} {listed : Array Bool} (hsz : listed.size = n) (hi : i < n) (h : listed[i]? = some false) : i ∈ undone n listed := by
  unfold undone
  rw [List.mem_filter]
  refine ⟨by simpa using hi, ?_⟩
  have : i < listed.size := by omega
  simp [this] at h ⊢; exact h
theorem undone_set {n i : Nat} {listed : Array Bool} (hsz : listed.size = n) (hi : i < n) (h : listed[i]? = some false) : (undone n (listed.setIfInBounds i true)).length < (undone n listed).length := by
  have hm := undone_mem hsz hi h
  have hill : i < listed.size := by omega
  have e : undone n (listed.setIfInBounds i true) = (undone n listed).filter fun j => !(j == i) := by
    unfold undone
    rw [List.filter_filter]
    refine List.filter_congr fun j hj => ?_
    by_cases hij : j = i
    · subst hij; simp [hill]
    · have : (listed.setIfInBounds i true).getD j true = listed.getD j true := by
        simp [Array.getElem?_setIfInBounds_ne (Ne.symm hij)]
      rw [this]; simp [hij]
  rw [e]
  exact (List.length_filter_lt_length_iff_exists (p := fun j => !(j == i)) (l := undone n listed)).2 ⟨i, hm, by simp⟩
theorem listed_set {i : Nat} {listed : Array Bool} (hill : i < listed.size) (j : Nat) : (listed.setIfInBounds i true)[j]? = some true ↔ (listed[j]? = some true ∨ j = i) := by
  rw [Array.getElem?_setIfInBounds]
  by_cases hij : i = j
  · subst hij; simp [hill]
  · simp [hij, Ne.symm hij]
theorem ready_iff {ops : Array Oper} {listed : Array Bool} (hsz : listed.size = ops.size) (i : Nat) : i ∈ Region.ready .any ops listed ↔ ∃ o, ops[i]? = some o ∧ listed[i]? = some false ∧ ∀ e ∈ o.after, Region.binds .any e = true → listed[e.on]? = some true := by
  simp only [Region.ready, List.mem_filter, List.mem_range, Bool.and_eq_true, Bool.not_eq_true']
  constructor
  · rintro ⟨hi, h1, h2⟩
    have e : ops[i]? = some ops[i] := by simp [hi]
    refine ⟨ops[i], e, ?_, fun x hx hb => ?_⟩
    · have : i < listed.size := by omega
      simp [this] at h1 ⊢; exact h1
    · simp only [e, Option.map_some, Option.getD_some, Array.all_eq_true'] at h2
      have := h2 x hx
      rw [hb] at this
      simp only [Bool.not_true, Bool.false_or] at this
      rcases Nat.lt_or_ge x.on listed.size with h' | h'
      · simp [h'] at this ⊢; exact this
      · simp [Array.getElem?_eq_none h'] at this
  · rintro ⟨o, ho, h1, h2⟩
    have hi : i < ops.size := (Array.getElem?_eq_some_iff.mp ho).1
    refine ⟨hi, ?_, ?_⟩
    · have : i < listed.size := by omega
      simp [this] at h1 ⊢; exact h1
    · simp only [ho, Option.map_some, Option.getD_some, Array.all_eq_true']
      intro x hx
      cases hb : Region.binds .any x
      · rfl
      · have := h2 x hx hb
        have hl : x.on < listed.size := (Array.getElem?_eq_some_iff.mp this).1
        simp [hl] at this ⊢; exact this
theorem not_listed {listed : Array Bool} {n j : Nat} (hsz : listed.size = n) (hj : j < n) (h : ¬ listed[j]? = some true) : listed[j]? = some false := by
  have : j < listed.size := by omega
  simp [this] at h ⊢; exact h
/-- Waits for, at once or by way of others. -/
inductive TP (ops : List Oper) : Nat → Nat → Prop
  | one {i j : Nat} {o : Oper} : ops[i]? = some o → predOf o j = true → TP ops i j
  | step {i m j : Nat} {o : Oper} : ops[i]? = some o → predOf o m = true → TP ops m j → TP ops i j
theorem memN_mem {n : Nat} : ∀ {l : List Nat}, memN n l = true → n ∈ l
  | [], h => by simp [memN] at h
  | m :: r, h => by
    simp only [memN] at h
    cases hb : Nat.beq m n <;> simp only [hb, cond_true, cond_false] at h
    · exact List.mem_cons_of_mem _ (memN_mem h)
    · have := Nat.eq_of_beq_eq_true hb; subst this; simp
theorem dedup_sub : ∀ {l : List Nat} {x : Nat}, x ∈ dedup l → x ∈ l
  | [], x, h => by simp [dedup] at h
  | n :: r, x, h => by
    simp only [dedup] at h
    cases hb : memN n r <;> simp only [hb, cond_true, cond_false] at h
    · rcases List.mem_cons.mp h with h | h
      · subst h; simp
      · exact List.mem_cons_of_mem _ (dedup_sub h)
    · exact List.mem_cons_of_mem _ (dedup_sub h)
theorem tsets_aux (full : List Oper) : ∀ (os : List Oper) (done : List (List Nat)) (pre : List Oper), full = pre ++ os → done.length = pre.length → (∀ i j, j ∈ done.getD i [] → TP full i j) → ∀ i j, j ∈ (tsets done os).getD i [] → TP full i j
  | [], done, pre, _, _, inv => by simpa only [tsets] using inv
  | o :: os, done, pre, hf, hl, inv => by
    simp only [tsets]
    refine tsets_aux full os _ (pre ++ [o]) (by simp [hf]) (by simp [hl]) fun i j h => ?_
    rw [List.getD_eq_getElem?_getD] at h
    by_cases hi : i < done.length
    · rw [List.getElem?_append_left hi] at h
      exact inv i j (by rw [List.getD_eq_getElem?_getD]; exact h)
    · rw [List.getElem?_append_right (by omega)] at h
      by_cases hi0 : i - done.length = 0
      · have hii : i = pre.length := by omega
        subst hii
        have ho : full[pre.length]? = some o := by rw [hf, List.getElem?_append_right (by omega)]; simp
        rw [hi0] at h
        simp only [List.getElem?_cons_zero, Option.getD_some] at h
        have h' := dedup_sub h
        simp only [List.mem_flatMap] at h'
        obtain ⟨e, he, h'⟩ := h'
        cases hb : bnd e <;> simp only [hb, cond_true, cond_false] at h'
        · simp at h'
        · have hp : predOf o e.on = true := predOf_iff.2 ⟨e, by simpa using he, rfl, by rw [← bnd_eq]; exact hb⟩
          rcases List.mem_cons.mp h' with h' | h'
          · subst h'; exact .one ho hp
          · exact .step ho hp (inv _ _ h')
      · rw [List.getElem?_eq_none (by simp; omega)] at h
        simp at h
theorem tp_keeps {full : List Oper} {P : Nat → Prop} (hcl : ∀ (j : Nat) (x : Oper) i, P j → full[j]? = some x → predOf x i = true → P i) {i j : Nat} (h : TP full i j) : P i → P j := by
  induction h with
  | one ho hp => exact fun h => hcl _ _ _ h ho hp
  | step ho hp _ ih => exact fun h => ih (hcl _ _ _ h ho hp)
theorem tp_ready {full : List Oper} {P : Nat → Prop} (hcl : ∀ (j : Nat) (x : Oper) i, P j → full[j]? = some x → predOf x i = true → P i) {i j : Nat} {o : Oper} (ho : full[i]? = some o) (hr : ∀ m, predOf o m = true → P m) (h : TP full i j) : P j := by
  cases h with
  | one ho' hp => rw [ho] at ho'; cases ho'; exact hr _ hp
  | step ho' hp t => rw [ho] at ho'; cases ho'; exact tp_keeps hcl t (hr _ hp)
/-- Behind those that may be done in any order: one by one. -/
structure Chain (full : List Oper) (n : Nat) (post : List Oper) : Prop where
  pred : ∀ (k : Nat) (o : Oper), post[k]? = some o → ∀ j, j < n + k → TP full (n + k) j
  back : ∀ (k : Nat) (o : Oper), post[k]? = some o → ∀ e ∈ o.after, Region.binds .any e = true → e.on < n + k
theorem allIn_ok {l : List Nat} : ∀ {n : Nat}, allIn l n = true → ∀ j, j < n → j ∈ l
  | 0, _, j, h => by omega
  | n + 1, h, j, hj => by
    simp only [allIn, Bool.and_eq_true] at h
    by_cases e : j = n
    · subst e; exact memN_mem h.1
    · exact allIn_ok h.2 j (by omega)
theorem chainB_ok {full : List Oper} : ∀ {post : List Oper} {n : Nat}, chainB (tsets [] full) n post = true → Chain full n post
  | [], n, _ => ⟨fun k o h => by simp at h, fun k o h => by simp at h⟩
  | x :: post, n, h => by
    simp only [chainB, Bool.and_eq_true] at h
    obtain ⟨⟨h1, h2⟩, h3⟩ := h
    have ih := chainB_ok h3
    refine ⟨fun k o hk j hj => ?_, fun k o hk e he hb => ?_⟩
    · cases k with
      | zero => exact tsets_aux full full [] [] rfl rfl (fun i j h => by simp at h) _ _ (allIn_ok h1 j (by omega))
      | succ k =>
        have := ih.pred k o (by simpa using hk) j (by omega)
        rwa [show n + 1 + k = n + (k + 1) by omega] at this
    · cases k with
      | zero =>
        simp at hk; subst hk
        have := List.all_eq_true.1 h2 e (by simpa using he)
        rw [bnd_eq, hb, cond_true] at this
        simpa [Nat.blt_eq] using this
      | succ k =>
        have := ih.back k o (by simpa using hk) e he hb
        omega
theorem post_sound {P : Program} {E : Env} {ann : Nat → Bool} {full : Array Oper} {ops post : List Oper} {S : Nat → St} {v : Nat → V} {C : Ctx} {Q : Exit → Act → World → Prop} (hsp : full.toList = ops ++ post) (GG : Good ops) (G : Chain full.toList ops.length post)
    (hst : ∀ (i : Nat) o, post[i]? = some o → StepP P E ann full.toList o (S i) (v i) (S (i + 1))) (hQ : ∀ a w, SR C (S post.length) a w → Q .normal a w) :
    ∀ (d k fuel : Nat) (listed : Array Bool) (a : Act) (w : World), k + d = post.length → (undone full.size listed).length ≤ fuel → listed.size = full.size → (∀ j, listed[j]? = some true ↔ j < ops.length + k) → SR C (S k) a w → wpAny P .any full Q fuel listed a w := by
  have hsize : full.size = ops.length + post.length := by
    have := congrArg List.length hsp; simpa using this
  have at_post : ∀ k, full[ops.length + k]? = post[k]? := fun k => by
    have : full.toList[ops.length + k]? = post[k]? := by rw [hsp, List.getElem?_append_right (by omega)]; simp
    simpa using this
  intro d
  induction d with
  | zero =>
    intro k fuel listed a w hk hf hsz hl hs
    have hnil : Region.ready .any full listed = [] := by
      cases hr : Region.ready .any full listed with
      | nil => rfl
      | cons i r =>
        exfalso
        obtain ⟨o, ho, h1, _⟩ := (ready_iff hsz i).1 (by rw [hr]; simp)
        have hi : i < full.size := (Array.getElem?_eq_some_iff.mp ho).1
        have := (hl i).2 (by omega)
        rw [h1] at this; cases this
    have hk' : k = post.length := by omega
    subst hk'
    cases fuel with
    | zero => exact ⟨hnil, hQ a w hs⟩
    | succ fuel => exact ⟨fun _ => hQ a w hs, fun i hi => by rw [hnil] at hi; cases hi⟩
  | succ d ih =>
    intro k fuel listed a w hk hf hsz hl hs
    have hpk : post[k]? = some post[k] := by simp
    have hik : full[ops.length + k]? = some post[k] := (at_post k).trans hpk
    have hnl : listed[ops.length + k]? = some false := not_listed hsz (by omega) fun h => by have := (hl _).1 h; omega
    have hrd : ops.length + k ∈ Region.ready .any full listed := (ready_iff hsz _).2 ⟨_, hik, hnl, fun e he hb => (hl e.on).2 (G.back k _ hpk e he hb)⟩
    cases fuel with
    | zero =>
      have := List.length_pos_of_mem (undone_mem hsz (by omega) hnl)
      omega
    | succ fuel =>
      refine ⟨fun hnil => (by rw [hnil] at hrd; cases hrd), fun i hi => ?_⟩
      have hieq : i = ops.length + k := by
        obtain ⟨o, ho, h1, h2⟩ := (ready_iff hsz i).1 hi
        have hif : i < full.size := (Array.getElem?_eq_some_iff.mp ho).1
        have hge : ops.length + k ≤ i := by
          rcases Nat.lt_or_ge i (ops.length + k) with h | h
          · have := (hl i).2 h; rw [h1] at this; cases this
          · exact h
        rcases Nat.lt_or_eq_of_le hge with h | h
        · exfalso
          obtain ⟨m, rfl⟩ : ∃ m, i = ops.length + m := ⟨i - ops.length, by omega⟩
          have ho' := ho
          rw [at_post] at ho
          have hp := G.pred m o ho (ops.length + k) h
          have := tp_ready (P := fun j => listed[j]? = some true) (fun j x i hj hx hp => by
            rw [hl] at hj ⊢
            obtain ⟨e, he, rfl, hb⟩ := predOf_iff.1 hp
            rw [hsp] at hx
            by_cases hjl : j < ops.length
            · rw [List.getElem?_append_left hjl] at hx
              have := GG.back j x hx e he hb
              omega
            · rw [List.getElem?_append_right (by omega)] at hx
              have := G.back _ x hx e he hb
              omega) (o := o) (by simpa using ho') (fun q hq => by
            obtain ⟨e, he, rfl, hb⟩ := predOf_iff.1 hq
            exact h2 e he hb) hp
          rw [hnl] at this; cases this
        · exact h.symm
      subst hieq
      unfold wpOp
      simp only [hik]
      exact step_sound (ops := full) (hst k _ hpk) (fun a w hs' => ih (k + 1) fuel _ a w (by omega) (by have := undone_set hsz (by omega) hnl; omega) (by simpa using hsz) (fun j => by
        rw [listed_set (by omega), hl]; omega) hs') hs
theorem any_sound {P : Program} {E : Env} {ann : Nat → Bool} {full : Array Oper} {ops post : List Oper} {S : Nat → St} {v : Nat → V} {C : Ctx} {Q : Exit → Act → World → Prop} (hsp : full.toList = ops ++ post) (H : Trace P E ann full.toList ops S v) (G : Good ops) (GC : Chain full.toList ops.length post)
    (hQ : ∀ (fuel : Nat) (listed : Array Bool) (a : Act) (w : World), (undone full.size listed).length ≤ fuel → listed.size = full.size → (∀ j, listed[j]? = some true ↔ j < ops.length) → SR C (S ops.length) a w → wpAny P .any full Q fuel listed a w) : ∀ (fuel : Nat) (listed : Array Bool) (a : Act) (w : World), (undone full.size listed).length ≤ fuel → listed.size = full.size →
    (∀ (j : Nat) (x : Oper) i, listed[j]? = some true → ops[j]? = some x → predOf x i = true → listed[i]? = some true) → (∀ j, listed[j]? = some true → j < ops.length) → Mid C ops S v (fun j => listed[j]? = some true) a w → wpAny P .any full Q fuel listed a w := by
  have hsize : full.size = ops.length + post.length := by
    have := congrArg List.length hsp; simpa using this
  have hfull : ∀ (i : Nat) (o : Oper), ops[i]? = some o → full[i]? = some o := fun i o h => by
    have hi := (List.getElem?_eq_some_iff.mp h).1
    have : full.toList[i]? = some o := by rw [hsp, List.getElem?_append_left hi]; exact h
    simpa using this
  have at_post : ∀ k, full[ops.length + k]? = post[k]? := fun k => by
    have : full.toList[ops.length + k]? = post[k]? := by rw [hsp, List.getElem?_append_right (by omega)]; simp
    simpa using this
  intro fuel
  induction fuel with
  | zero =>
    intro listed a w hf hsz hcl hlt M
    refine hQ 0 listed a w hf hsz (fun j => ⟨hlt j, fun hj => ?_⟩) (mid_done H G M fun j hj => ?_)
    all_goals
      rcases Classical.em (listed[j]? = some true) with h | h
      · exact h
      · have := List.length_pos_of_mem (undone_mem hsz (i := j) (by omega) (not_listed hsz (by omega) h))
        omega
  | succ fuel ih =>
    intro listed a w hf hsz hcl hlt M
    by_cases hall : ∀ j, j < ops.length → listed[j]? = some true
    · exact hQ _ listed a w hf hsz (fun j => ⟨hlt j, hall j⟩) (mid_done H G M hall)
    · obtain ⟨m, hm, hml⟩ : ∃ m, m < ops.length ∧ listed[m]? = some false := by
        rcases Classical.em (∃ m, m < ops.length ∧ listed[m]? = some false) with h | h
        · exact h
        · exfalso
          refine hall fun j hj => ?_
          rcases Classical.em (listed[j]? = some true) with h' | h'
          · exact h'
          · exact absurd ⟨j, hj, not_listed hsz (by omega) h'⟩ h
      have some_ready : ∀ n j, j ≤ n → j < ops.length → listed[j]? = some false → ∃ i, i ∈ Region.ready .any full listed := by
        intro n
        induction n with
        | zero =>
          intro j hj hjl hjf
          have : j = 0 := by omega
          subst this
          have ho : ops[0]? = some ops[0] := by simp
          exact ⟨0, (ready_iff hsz _).2 ⟨_, hfull 0 _ ho, hjf, fun e he hb => by have := G.back 0 _ ho e he hb; omega⟩⟩
        | succ n ihn =>
          intro j hj hjl hjf
          have ho : ops[j]? = some ops[j] := by simp
          by_cases hp : ∃ e ∈ ops[j].after, Region.binds .any e = true ∧ ¬ listed[e.on]? = some true
          · obtain ⟨e, he, hb, hn⟩ := hp
            have := G.back j _ ho e he hb
            exact ihn e.on (by omega) (by omega) (not_listed hsz (by omega) hn)
          · refine ⟨j, (ready_iff hsz _).2 ⟨_, hfull j _ ho, hjf, fun e he hb => ?_⟩⟩
            rcases Classical.em (listed[e.on]? = some true) with h' | h'
            · exact h'
            · exact absurd ⟨e, he, hb, h'⟩ hp
      refine ⟨fun hnil => ?_, fun i hi => ?_⟩
      · obtain ⟨i, hi⟩ := some_ready m m (Nat.le_refl _) hm hml
        rw [hnil] at hi; cases hi
      · obtain ⟨o, ho, h1, h2⟩ := (ready_iff hsz i).1 hi
        have hif : i < full.size := (Array.getElem?_eq_some_iff.mp ho).1
        have hil : i < ops.length := by
          rcases Nat.lt_or_ge i ops.length with h | h
          · exact h
          · exfalso
            obtain ⟨k, rfl⟩ : ∃ k, i = ops.length + k := ⟨i - ops.length, by omega⟩
            have ho' := ho
            rw [at_post] at ho
            have hp := GC.pred k o ho m (by omega)
            have := tp_ready (P := fun j => listed[j]? = some true) (fun j x i hj hx hp => by
              have hjl := hlt j hj
              rw [hsp, List.getElem?_append_left hjl] at hx
              exact hcl j x i hj hx hp) (o := o) (by simpa using ho') (fun q hq => by
              obtain ⟨e, he, rfl, hb⟩ := predOf_iff.1 hq
              exact h2 e he hb) hp
            rw [hml] at this; cases this
        have hoo : ops[i]? = some o := by
          have h3 : ops[i]? = some ops[i] := by simp
          have := hfull i _ h3
          rw [ho] at this; cases this; exact h3
        have hset := listed_set (i := i) (listed := listed) (by omega)
        refine mid_step hfull H G (o := o) hoo (by rw [h1]; simp) (fun j hp => ?_) (fun j x hj hx hp => hcl j x i hj hx hp) M fun a w M' => ih _ a w ?_ (by simpa using hsz) ?_ ?_ ?_
        · obtain ⟨e, he, rfl, hb⟩ := predOf_iff.1 hp
          exact h2 e he hb
        · have := undone_set hsz (by omega) h1
          omega
        · intro j x k hj hx hp
          rw [hset] at hj ⊢
          rcases hj with hj | rfl
          · exact .inl (hcl j x k hj hx hp)
          · rw [hoo] at hx; cases hx
            obtain ⟨e, he, rfl, hb⟩ := predOf_iff.1 hp
            exact .inl (h2 e he hb)
        · intro j hj
          rw [hset] at hj
          rcases hj with hj | rfl
          · exact hlt j hj
          · exact hil
        · have : (fun j => (listed.setIfInBounds i true)[j]? = some true) = fun j => listed[j]? = some true ∨ j = i := by
            funext j; exact propext (hset j)
          rw [this]; exact M'
theorem evOps_append {R : Type} {E : Env} {T : Tab} {ann : Nat → Bool} {ops : List Oper} : ∀ (a b : List Oper) (s : St) (K : St → Option R), evOps E T ann ops (a ++ b) s K = evOps E T ann ops a s (fun s => evOps E T ann ops b s K)
  | [], b, s, K => rfl
  | o :: a, b, s, K => by
    have ih : (fun s => evOps E T ann ops (a ++ b) s K) = fun s => evOps E T ann ops a s (fun s => evOps E T ann ops b s K) := funext fun s => evOps_append a b s K
    simp only [List.cons_append, evOps, ih]
/-- A region. -/
theorem region_sound {R : Type} {P : Program} {E : Env} {T : Tab} (hT : TabOK P T) (hE : EnvOK P E) (hm : P.follows .mixedOrders = true) {ann : Nat → Bool} {L : LEnv R} {kr : St → Option R} {id : Nat} {ops : Array Oper} {d : Bool}
    {X : Nat → St → Option R} {K : St → Option R} {s : St} {r : R} (h : ev E T ann L kr (.region id ops d) X K s = some r) {C : Ctx} {Q : Exit → Act → World → Prop}
    (hQ : ∀ s' a w, K s' = some r → SR C s' a w → Q .normal a w) {a : Act} {w : World} (hs : SR C s a w) : (Code.region id ops d).wp P Q a w := by
  cases d with
  | false =>
    simp only [ev] at h
    exact wp_region_list (seq_sound hT hE (fun s a w hk h => hQ s a w hk h) ops.toList s h a w hs)
  | true =>
    simp only [ev] at h
    have hc : regAny E ann ops.toList = true := by
      cases hc : regAny E ann ops.toList
      · rw [hc] at h; cases h
      · rfl
    rw [hc, cond_true] at h
    simp only [regAny, Bool.and_eq_true] at hc
    generalize hn : preLen E ann ops.toList = n at hc
    have hsp : ops.toList = ops.toList.take n ++ ops.toList.drop n := (List.take_append_drop n _).symm
    have h' : evOps E T ann ops.toList (ops.toList.take n ++ ops.toList.drop n) s K = some r := by rw [List.take_append_drop]; exact h
    rw [evOps_append] at h'
    obtain ⟨S, v, hS, hk, hst⟩ := evOps_calm hT hE hc.1.1 h'
    obtain ⟨S', v', hS', hk', hst'⟩ := evOps_trace hT hE hk
    have H : Trace P E ann ops.toList (ops.toList.take n) S v := ⟨hst⟩
    have G := regOK_good hc.1.2
    have GC := chainB_ok hc.2
    refine wp_region_any hm (any_sound hsp H G GC (fun fuel listed a w hf hsz hl hs => post_sound hsp G GC hst' (fun a w hs => hQ _ a w hk' hs) _ 0 fuel listed a w (Nat.zero_add _) hf hsz (by simpa using hl) (by rw [hS']; exact hs)) _ _ _ _ ?_ (by simp) ?_ ?_ ?_)
    · unfold undone
      exact Nat.le_trans (List.length_filter_le _ _) (by simp)
    · intro j x i hj
      simp [Array.getElem?_replicate] at hj
    · intro j hj
      simp [Array.getElem?_replicate] at hj
    · have : (fun (j : Nat) => (Array.replicate ops.size false)[j]? = some true) = fun _ => False := by
        funext j; simp [Array.getElem?_replicate]
      rw [this]
      exact mid_start H (by rw [hS]; exact hs)
end Ev
