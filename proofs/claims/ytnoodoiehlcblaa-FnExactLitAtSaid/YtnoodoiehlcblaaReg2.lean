/- Regions that draw their order. -/
import Derived.Test.YtnoodoiehlcblaaCalm
set_option linter.unusedVariables false
set_option linter.unusedSimpArgs false
namespace Ev
open Go

theorem bnd_eq (e : Edge) : bnd e = Region.binds .any e := by
  unfold bnd Region.binds
  cases e.ground <;> rfl
theorem dstIs_iff {o : Oper} {t : Nat} : dstIs o t = true ↔ o.dst = some t := by
  unfold dstIs
  split
  · rename_i d h
    constructor
    · intro e; rw [h, Nat.eq_of_beq_eq_true e]
    · intro e; rw [h] at e; cases e; simp
  · rename_i h; simp [h]
theorem predOf_iff {o : Oper} {j : Nat} : predOf o j = true ↔ ∃ e ∈ o.after, e.on = j ∧ Region.binds .any e = true := by
  unfold predOf
  simp only [List.any_eq_true, Array.mem_toList_iff]
  constructor
  · rintro ⟨e, he, h⟩
    cases hb : Nat.beq e.on j
    · simp [hb] at h
    · simp only [hb, cond_true] at h
      exact ⟨e, he, Nat.eq_of_beq_eq_true hb, by rw [← bnd_eq]; exact h⟩
  · rintro ⟨e, he, rfl, h⟩
    exact ⟨e, he, by simp [bnd_eq, h]⟩
structure Good (ops : List Oper) : Prop where
  dst : ∀ (i : Nat) (o : Oper), ops[i]? = some o → ∃ d : Nat, o.dst = some d ∧ d < 9000
  uniq : ∀ (i j : Nat) (o x : Oper) (d : Nat), ops[i]? = some o → ops[j]? = some x → o.dst = some d → x.dst = some d → i = j
  back : ∀ (i : Nat) (o : Oper), ops[i]? = some o → ∀ e ∈ o.after, Region.binds .any e = true → e.on < i
  grd : ∀ (i : Nat) (o : Oper), ops[i]? = some o → ∀ j want, o.guard = some (j, want) → predOf o j = true
  tie : ∀ (i : Nat) (o : Oper), ops[i]? = some o → ∀ t ∈ tmpsOf o, ∀ (j : Nat) (x : Oper), ops[j]? = some x → x.dst = some t → i = j ∨ (j < i ∧ predOf o j = true) ∨ (i < j ∧ predOf x i = true)
theorem tied_spec {i : Nat} {o : Oper} {t : Nat} : ∀ (l : List Oper) (k : Nat), tied i o t k l = true → ∀ j x, l[j]? = some x → x.dst = some t → i = k + j ∨ (k + j < i ∧ predOf o (k + j) = true) ∨ (i < k + j ∧ predOf x i = true)
  | [], k, h, j, x, hx, hd => by simp at hx
  | y :: l, k, h, j, x, hx, hd => by
    simp only [tied, Bool.and_eq_true] at h
    cases j with
    | zero =>
      simp only [List.getElem?_cons_zero, Option.some.injEq] at hx
      subst hx
      have h1 := h.1
      rw [dstIs_iff.2 hd, cond_true] at h1
      simp only [Bool.or_eq_true] at h1
      rcases h1 with h1 | h1
      · exact .inl (by simpa using Nat.eq_of_beq_eq_true h1)
      · by_cases hlt : k < i
        · rw [show Nat.blt k i = true by simpa [Nat.blt_eq] using hlt, cond_true] at h1
          exact .inr (.inl ⟨by simpa using hlt, by simpa using h1⟩)
        · rw [show Nat.blt k i = false by rw [← Bool.not_eq_true, Nat.blt_eq]; exact hlt, cond_false] at h1
          by_cases he : i = k
          · exact .inl (by simpa using he)
          · exact .inr (.inr ⟨by omega, h1⟩)
    | succ j =>
      have := tied_spec l (k + 1) h.2 j x (by simpa using hx) hd
      rw [show k + (j + 1) = k + 1 + j by omega]
      exact this
theorem regOK_spec {ops : List Oper} : ∀ (l : List Oper) (k : Nat), regOK ops k l = true →
    (∀ (i : Nat) (o : Oper), l[i]? = some o → opReg ops (k + i) o = true) ∧ ∀ (i j : Nat) (o x : Oper) (d : Nat), l[i]? = some o → l[j]? = some x → o.dst = some d → x.dst = some d → i = j
  | [], k, h => ⟨fun i o hi => by simp at hi, fun i j o x d hi => by simp at hi⟩
  | y :: l, k, h => by
    simp only [regOK, Bool.and_eq_true] at h
    obtain ⟨⟨h1, h2⟩, h3⟩ := h
    obtain ⟨a, b⟩ := regOK_spec l (k + 1) h3
    have ne : ∀ (j : Nat) x d, l[j]? = some x → y.dst = some d → x.dst ≠ some d := by
      intro j x d hx hy hxd
      have := List.all_eq_true.1 h2 x (List.mem_of_getElem? hx)
      rw [hy] at this
      simp [dstIs_iff.2 hxd] at this
    refine ⟨fun i o hi => ?_, fun i j o x d hi hj ho hx => ?_⟩
    · cases i with
      | zero => simp at hi; subst hi; exact h1
      | succ i => rw [show k + (i + 1) = k + 1 + i by omega]; exact a i o (by simpa using hi)
    · cases i with
      | zero =>
        simp at hi; subst hi
        cases j with
        | zero => rfl
        | succ j => exact absurd hx (ne j x d (by simpa using hj) ho)
      | succ i =>
        cases j with
        | zero => simp at hj; subst hj; exact absurd ho (ne i o d (by simpa using hi) hx)
        | succ j => rw [b i j o x d (by simpa using hi) (by simpa using hj) ho hx]
theorem regOK_good {ops : List Oper} (h : regOK ops 0 ops = true) : Good ops := by
  obtain ⟨a, b⟩ := regOK_spec ops 0 h
  have a' : ∀ i o, ops[i]? = some o → opReg ops i o = true := fun i o hi => by simpa using a i o hi
  refine ⟨fun i o hi => ?_, b, fun i o hi e he hb => ?_, fun i o hi j want hg => ?_, fun i o hi t ht j x hx hd => ?_⟩
  all_goals
    have := a' i o hi
    simp only [opReg, Bool.and_eq_true] at this
    obtain ⟨⟨⟨h1, h2⟩, h3⟩, h4⟩ := this
  · split at h1
    · rename_i d hd; exact ⟨d, hd, by simpa [Nat.blt_eq] using h1⟩
    · cases h1
  · have := List.all_eq_true.1 h2 e (by simpa using he)
    rw [bnd_eq, hb, cond_true] at this
    simpa [Nat.blt_eq] using this
  · rw [hg] at h3; exact h3
  · have := tied_spec ops 0 (List.all_eq_true.1 h4 t ht) j x hx hd
    simpa using this

/-- The trace of a drawn region. -/
structure Trace (P : Program) (E : Env) (ann : Nat → Bool) (full ops : List Oper) (S : Nat → St) (v : Nat → V) : Prop where
  step : ∀ (i : Nat) o, ops[i]? = some o → calm E ann o = true ∧ ((Wanted full (S i) o ∧ ∃ s1, OpOK P (calm E ann o = true) o (S i) (v i) s1 ∧ Pure (idOf o) (S i) s1 ∧ PutR s1 o.dst (v i) (S (i + 1))) ∨
        (Unwanted full (S i) o ∧ v i = .tup [] ∧ PutR (S i) o.dst (v i) (S (i + 1))))
section
variable {P : Program} {E : Env} {ann : Nat → Bool} {full ops : List Oper} {S : Nat → St} {v : Nat → V}
theorem Trace.one (H : Trace P E ann full ops S v) {i : Nat} {o : Oper} (hi : ops[i]? = some o) :
    (S (i + 1)).fr.length = (S i).fr.length ∧ (∀ d : Nat, o.dst = some d → d < (S i).fr.length ∧ get (S (i + 1)).fr d = v i) ∧ (∀ t, o.dst ≠ some t → get (S (i + 1)).fr t = get (S i).fr t) ∧
    (∀ id b, look (S i).st id = some b → look (S (i + 1)).st id = some b) ∧ (∀ id b, look (S (i + 1)).st id = some b → look (S i).st id = some b ∨ NewId (idOf o) id) := by
  rcases (H.step i o hi).2 with ⟨_, s1, _, p, q⟩ | ⟨_, _, q⟩
  · refine ⟨by rw [q.len, p.fr], fun d hd => ?_, fun t ht => ?_, fun id b hl => ?_, fun id b hl => ?_⟩
    · have := q.at_ d hd; rw [p.fr] at this; exact this
    · rw [q.oth t ht, p.fr]
    · rw [q.st]; exact p.up id b hl
    · rw [q.st] at hl; exact p.dn id b hl
  · exact ⟨q.len, q.at_, q.oth, fun id b hl => by rw [q.st]; exact hl, fun id b hl => by rw [q.st] at hl; exact .inl hl⟩
theorem Trace.len (H : Trace P E ann full ops S v) : ∀ i, i ≤ ops.length → (S i).fr.length = (S 0).fr.length
  | 0, _ => rfl
  | i + 1, h => by
    obtain ⟨o, ho⟩ : ∃ o, ops[i]? = some o := ⟨ops[i], by simp⟩
    rw [(H.one ho).1, H.len i (by omega)]
theorem Trace.up (H : Trace P E ann full ops S v) {id : Nat} {b : Blk} {i : Nat} (hl : look (S i).st id = some b) : ∀ k, i + k ≤ ops.length → look (S (i + k)).st id = some b
  | 0, _ => hl
  | k + 1, h => by
    obtain ⟨o, ho⟩ : ∃ o, ops[i + k]? = some o := ⟨ops[i + k], by simp⟩
    exact (H.one ho).2.2.2.1 id b (H.up hl k (by omega))
theorem Trace.dn (H : Trace P E ann full ops S v) {id : Nat} {b : Blk} : ∀ i, i ≤ ops.length → look (S i).st id = some b → look (S 0).st id = some b ∨ ∃ j o, j < i ∧ ops[j]? = some o ∧ NewId (idOf o) id
  | 0, _, h => .inl h
  | i + 1, hi, h => by
    obtain ⟨o, ho⟩ : ∃ o, ops[i]? = some o := ⟨ops[i], by simp⟩
    rcases (H.one ho).2.2.2.2 id b h with h | h
    · rcases H.dn i (by omega) h with h | ⟨j, o', hj, ho', hn⟩
      · exact .inl h
      · exact .inr ⟨j, o', by omega, ho', hn⟩
    · exact .inr ⟨i, o, by omega, ho, h⟩
theorem Trace.slot (H : Trace P E ann full ops S v) (G : Good ops) (t : Nat) : ∀ i, i ≤ ops.length → (∃ j o, j < i ∧ ops[j]? = some o ∧ o.dst = some t ∧ get (S i).fr t = v j) ∨ ((∀ j o, j < i → ops[j]? = some o → o.dst ≠ some t) ∧ get (S i).fr t = get (S 0).fr t)
  | 0, _ => .inr ⟨fun j o hj => by omega, rfl⟩
  | i + 1, hi => by
    obtain ⟨o, ho⟩ : ∃ o, ops[i]? = some o := ⟨ops[i], by simp⟩
    by_cases ht : o.dst = some t
    · exact .inl ⟨i, o, by omega, ho, ht, ((H.one ho).2.1 t ht).2⟩
    · have e := (H.one ho).2.2.1 t ht
      rcases H.slot G t i (by omega) with ⟨j, x, hj, hx, hd, hv⟩ | ⟨h1, h2⟩
      · exact .inl ⟨j, x, by omega, hx, hd, e.trans hv⟩
      · refine .inr ⟨fun j x hj hx => ?_, e.trans h2⟩
        by_cases hji : j = i
        · subst hji; rw [ho] at hx; cases hx; exact ht
        · exact h1 j x (by omega) hx
end
/-- What holds while the operations are done in some order: those of 'D' have been done. -/
structure Mid (C : Ctx) (ops : List Oper) (S : Nat → St) (v : Nat → V) (D : Nat → Prop) (a : Act) (w : World) : Prop where
  defers : a.defers = []
  len : (S 0).fr.length ≤ a.tmps.size
  ex : ∃ ρ F, Core ρ F (S ops.length).st w ∧ Dom ρ (S ops.length).st ∧ Base C ρ F (S ops.length).st w ∧
    (∀ id l, ρ id = some l → look (S 0).st id ≠ none ∨ ∃ j o, D j ∧ ops[j]? = some o ∧ NewId (idOf o) id) ∧
    ∀ t, (∃ j o, D j ∧ ops[j]? = some o ∧ o.dst = some t ∧ RelT ρ F w (v j) (a.tmps.getD t undef)) ∨ ((∀ j o, D j → ops[j]? = some o → o.dst ≠ some t) ∧ RelT ρ F w (get (S 0).fr t) (a.tmps.getD t undef))
theorem look_ne {st : Store} {id : Nat} (h : look st id ≠ none) : ∃ b, look st id = some b := by
  cases hl : look st id with
  | none => exact absurd hl h
  | some b => exact ⟨b, rfl⟩
theorem newId_uniq {ops : List Oper} (G : Good ops) {i j : Nat} {o x : Oper} {id : Nat} (hi : ops[i]? = some o) (hj : ops[j]? = some x) (h1 : NewId (idOf o) id) (h2 : NewId (idOf x) id) : i = j := by
  obtain ⟨d, hd, hlt⟩ := G.dst i o hi
  obtain ⟨d', hd', hlt'⟩ := G.dst j x hj
  obtain ⟨k, e⟩ := h1
  obtain ⟨k', e'⟩ := h2
  simp only [idOf, hd, hd', Option.getD_some] at e e'
  have : d = d' := by omega
  subst this
  exact G.uniq i j o x d hi hj hd hd'
/-- One of the operations is done: those that it waits for have been done. -/
theorem mid_step {P : Program} {E : Env} {ann : Nat → Bool} {full : Array Oper} {ops : List Oper} {S : Nat → St} {v : Nat → V} {C : Ctx} {Q : Exit → Act → World → Prop} (hfull : ∀ (i : Nat) (o : Oper), ops[i]? = some o → full[i]? = some o) (H : Trace P E ann full.toList ops S v) (G : Good ops)
    {D : Nat → Prop} {K : Act → World → Prop} {i : Nat} {o : Oper} (hi : ops[i]? = some o) (hD : ¬ D i) (hpre : ∀ j, predOf o j = true → D j) (hcl : ∀ j x, D j → ops[j]? = some x → predOf x i = true → D i)
    {a : Act} {w : World} (M : Mid C ops S v D a w) (hK : ∀ a w, Mid C ops S v (fun j => D j ∨ j = i) a w → K a w) : wpOp P full Q i K a w := by
  obtain ⟨ρ, F, HC, DM, B, own, hs⟩ := M.ex
  have hil : i < ops.length := (List.getElem?_eq_some_iff.mp hi).1
  have hM := core_lt HC DM
  have upn : ∀ k id b, k ≤ ops.length → look (S k).st id = some b → look (S ops.length).st id = some b := fun k id b hk h => by
    have := H.up h (ops.length - k) (by omega)
    rwa [show k + (ops.length - k) = ops.length by omega] at this
  have up0 : ∀ k id b, k ≤ ops.length → look (S 0).st id = some b → look (S k).st id = some b := fun k id b hk h => by
    have := H.up h k (by omega)
    rwa [Nat.zero_add] at this
  -- what the operation reads
  have rd : ∀ t j x, (t ∈ tmpsOf o) → ops[j]? = some x → x.dst = some t → j < i → D j := fun t j x ht hx hd hj => by
    rcases G.tie i o hi t ht j x hx hd with e | ⟨_, h⟩ | ⟨h, _⟩
    · omega
    · exact hpre j h
    · omega
  have slot : ∀ t, (∀ j x, ops[j]? = some x → x.dst = some t → j < i → D j) → (∀ j x, ops[j]? = some x → x.dst = some t → D j → j < i) → RelT ρ F w (get (S i).fr t) (a.tmps.getD t undef) := by
    intro t h1 h2
    rcases H.slot G t i (by omega) with ⟨j, x, hj, hx, hd, hv⟩ | ⟨hno, hv⟩
    · rw [hv]
      rcases hs t with ⟨j', x', hj', hx', hd', r⟩ | ⟨hno, _⟩
      · have := G.uniq j j' x x' t hx hx' hd hd'
        subst this
        exact r
      · exact absurd hd (hno j x (h1 j x hx hd hj) hx)
    · rw [hv]
      rcases hs t with ⟨j', x', hj', hx', hd', r⟩ | ⟨_, r⟩
      · exact absurd hd' (hno j' x' (h2 j' x' hx' hd' hj') hx')
      · exact r
  obtain ⟨hw1, hw2⟩ := wanted_of (ops := full) (s := S i) (a := a) (o := o) (ρ := ρ) (F := F) (w := w) (by rw [H.len i (by omega)]; exact M.len) fun j want g hg hgd => by
    have hp := G.grd i o hi j want hg
    have hjD := hpre j hp
    have hji : j < i := by
      obtain ⟨e, he, rfl, hb⟩ := predOf_iff.1 hp
      exact G.back i o hi e he hb
    unfold dstOf at hgd
    split at hgd
    · rename_i x hx0
      have hx : ops[j]? = some x := by
        have h1 : ops[j]? = some ops[j] := by simp
        have h2 := hfull j _ h1
        have h3 : full[j]? = some x := by simpa using hx0
        rw [h2] at h3; cases h3; exact h1
      refine slot g (fun j' x' hx' hd' _ => ?_) (fun j' x' hx' hd' _ => ?_)
      · rw [G.uniq j' j x' x g hx' hx hd' hgd]; exact hjD
      · rw [G.uniq j' j x' x g hx' hx hd' hgd]
        obtain ⟨e, he, rfl, hb⟩ := predOf_iff.1 hp
        exact G.back i o hi e he hb
    · cases hgd
  have hi' : full[i]? = some o := hfull i o hi
  obtain ⟨d, hd, hdlt⟩ := G.dst i o hi
  obtain ⟨q1, q2, q3, q4, q5⟩ := H.one hi
  have hlen := H.len i (by omega)
  unfold wpOp
  simp only [hi']
  obtain ⟨hcalm, hst⟩ := H.step i o hi
  rcases hst with ⟨hw, s1, ok, hp, hq⟩ | ⟨hw, hv, hq⟩
  · rw [if_pos (hw1 hw)]
    left
    have hcore : Core ρ F (S i).st w := ⟨fun id loc blk h1 h2 => HC.heap id loc blk h1 (upn i id blk (by omega) h2), HC.inj, HC.stable⟩
    refine ok ρ F a w hcore hM (fun id hid hnew => ?_) (fun t ht => ?_) _ _ fun c w' ρ' F' po => hK _ _ ?_
    · cases hx : ρ id with
      | none => rfl
      | some l =>
        exfalso
        rcases own id l hx with h | ⟨j, x, hj, hx', hn⟩
        · obtain ⟨b, hb⟩ := look_ne h
          rw [up0 i id b (by omega) hb] at hid; cases hid
        · have := newId_uniq G hi hx' hnew hn
          subst this
          exact hD hj
    · have htm : t ∈ tmpsOf o := by
        unfold tmpsOf
        rw [List.mem_filterMap]
        exact ⟨.tmp t, by simpa [Reads] using ht, rfl⟩
      refine slot t (fun j x hx hdx hj => rd t j x htm hx hdx hj) (fun j x hx hdx hj => ?_)
      rcases G.tie i o hi t htm j x hx hdx with e | ⟨h, _⟩ | ⟨h, hpx⟩
      · subst e; exact absurd hj hD
      · exact h
      · exact absurd (hcl j x hj hx hpx) hD
    · obtain ⟨c1, c2, c3, c4, c5, c6, c7⟩ := po.calm hcalm
      have hst1 : s1.st = (S (i + 1)).st := hq.st.symm
      have ext : Ext (fun _ => False) ρ F w ρ' F' w' := ⟨fun id l _ h => c2 id l h, c7, fun b hb => c6 b (HC.stable b hb).1⟩
      obtain ⟨p1, p2, p3, p4⟩ := tmps_put (a := a) (dst := o.dst) (c := c)
      have hsz : d < a.tmps.size := by
        have := (q2 d hd).1
        rw [hlen] at this
        have := M.len
        omega
      refine ⟨p4.trans M.defers, by rw [p3]; exact M.len, ρ', F', ?_, ?_, ?_, ?_, fun t => ?_⟩
      · refine ⟨fun id loc blk h1 h2 => ?_, po.core.inj, po.core.stable⟩
        rcases c3 id loc h1 with h | ⟨_, h⟩
        · refine (HC.heap id loc blk h h2).weaken (fun b hb => c6 b (hM b ⟨id, loc, h, hb⟩)) ?_
          cases blk with
          | rows t l => rfl
          | box cs =>
            refine ⟨rfl, fun k u u' h1 h2 c r => ?_⟩
            rw [h1] at h2; cases h2
            exact RelC.ext0 ext r
        · obtain ⟨b, hb⟩ := look_ne h
          have := upn (i + 1) id b (by omega) (by rw [← hst1]; exact hb)
          rw [h2] at this; cases this
          exact po.core.heap id loc blk h1 hb
      · intro id l h
        rcases c3 id l h with h | ⟨_, h⟩
        · exact DM id l h
        · obtain ⟨b, hb⟩ := look_ne h
          rw [upn (i + 1) id b (by omega) (by rw [← hst1]; exact hb)]; simp
      · exact B.step po.stp hM (fun j l _ h _ => c2 j l h) (fun _ _ h => h)
      · intro id l h
        rcases c3 id l h with h | ⟨h, _⟩
        · rcases own id l h with h | ⟨j, x, hj, hx, hn⟩
          · exact .inl h
          · exact .inr ⟨j, x, .inl hj, hx, hn⟩
        · exact .inr ⟨i, o, .inr rfl, hi, h⟩
      · by_cases ht : o.dst = some t
        · refine .inl ⟨i, o, .inr rfl, hi, ht, ?_⟩
          have e : t = d := by rw [hd] at ht; cases ht; rfl
          rw [p1 t ht (by rw [e]; exact hsz)]
          exact po.val
        · rw [p2 t ht]
          rcases hs t with ⟨j, x, hj, hx, hdx, r⟩ | ⟨hno, r⟩
          · exact .inl ⟨j, x, .inl hj, hx, hdx, RelT.ext0 ext r⟩
          · refine .inr ⟨fun j x hj hx => ?_, RelT.ext0 ext r⟩
            rcases hj with hj | rfl
            · exact hno j x hj hx
            · rw [hi] at hx; cases hx; exact ht
  · rw [if_neg (by rw [hw2 hw]; simp)]
    refine hK _ _ ?_
    obtain ⟨p1, p2, p3, p4⟩ := tmps_put (a := a) (dst := o.dst) (c := undef)
    have hsz : d < a.tmps.size := by
      have := (q2 d hd).1
      rw [hlen] at this
      have := M.len
      omega
    refine ⟨p4.trans M.defers, by rw [p3]; exact M.len, ρ, F, HC, DM, B, fun id l h => ?_, fun t => ?_⟩
    · rcases own id l h with h | ⟨j, x, hj, hx, hn⟩
      · exact .inl h
      · exact .inr ⟨j, x, .inl hj, hx, hn⟩
    · by_cases ht : o.dst = some t
      · refine .inl ⟨i, o, .inr rfl, hi, ht, ?_⟩
        have e : t = d := by rw [hd] at ht; cases ht; rfl
        rw [p1 t ht (by rw [e]; exact hsz), hv]
        exact relT_skip
      · rw [p2 t ht]
        rcases hs t with ⟨j, x, hj, hx, hdx, r⟩ | ⟨hno, r⟩
        · exact .inl ⟨j, x, .inl hj, hx, hdx, r⟩
        · refine .inr ⟨fun j x hj hx => ?_, r⟩
          rcases hj with hj | rfl
          · exact hno j x hj hx
          · rw [hi] at hx; cases hx; exact ht
theorem mid_done {P : Program} {E : Env} {ann : Nat → Bool} {full ops : List Oper} {S : Nat → St} {v : Nat → V} {C : Ctx} (H : Trace P E ann full ops S v) (G : Good ops)
    {D : Nat → Prop} {a : Act} {w : World} (M : Mid C ops S v D a w) (hD : ∀ j, j < ops.length → D j) : SR C (S ops.length) a w := by
  obtain ⟨ρ, F, HC, DM, B, own, hs⟩ := M.ex
  refine ⟨M.defers, by rw [H.len _ (Nat.le_refl _)]; exact M.len, ρ, F, HC, DM, B, fun t => ?_⟩
  rcases H.slot G t ops.length (Nat.le_refl _) with ⟨j, x, hj, hx, hd, hv⟩ | ⟨hno, hv⟩
  · rw [hv]
    rcases hs t with ⟨j', x', hj', hx', hd', r⟩ | ⟨hno, _⟩
    · have := G.uniq j j' x x' t hx hx' hd hd'
      subst this
      exact r
    · exact absurd hd (hno j x (hD j hj) hx)
  · rw [hv]
    rcases hs t with ⟨j', x', hj', hx', hd', r⟩ | ⟨_, r⟩
    · exact absurd hd' (hno j' x' (List.getElem?_eq_some_iff.mp hx').1 hx')
    · exact r
theorem mid_start {C : Ctx} {full ops : List Oper} {P : Program} {E : Env} {ann : Nat → Bool} {S : Nat → St} {v : Nat → V} (H : Trace P E ann full ops S v) {a : Act} {w : World} (h : SR C (S 0) a w) : Mid C ops S v (fun _ => False) a { w with drawn := w.drawn + 1 } := by
  obtain ⟨ρ, F, HC, DM, B, hs⟩ := h.ex
  have up0 : ∀ id b, look (S 0).st id = some b → look (S ops.length).st id = some b := fun id b h => by
    have := H.up h ops.length (by omega)
    rwa [Nat.zero_add] at this
  have chg : Chg (fun _ => False) w { w with drawn := w.drawn + 1 } := ⟨rfl, rfl, rfl, Nat.le_refl _, fun _ _ _ => rfl⟩
  have ext : Ext (fun _ => False) ρ F w ρ F { w with drawn := w.drawn + 1 } := ⟨fun _ _ _ h => h, fun _ h => h, fun _ _ => rfl⟩
  have HC' : Core ρ F (S 0).st { w with drawn := w.drawn + 1 } := core_more HC chg (fun _ h => h) (fun b h => HC.stable b h) (core_lt HC DM)
  have back : ∀ id l b, ρ id = some l → look (S ops.length).st id = some b → look (S 0).st id = some b := fun id l b hl h => by
    obtain ⟨b', hb'⟩ := look_ne (DM id l hl)
    rw [up0 id b' hb'] at h; cases h; exact hb'
  refine ⟨h.defers, h.len, ρ, F, ⟨fun id loc blk h1 h2 => HC'.heap id loc blk h1 (back id loc blk h1 h2), HC'.inj, HC'.stable⟩, fun id l hl => ?_, ?_, fun id l hl => .inl (DM id l hl), fun t => .inr ⟨fun _ _ h => h.elim, RelT.ext0 ext (hs t)⟩⟩
  · obtain ⟨b, hb⟩ := look_ne (DM id l hl)
    rw [up0 id b hb]; simp
  · refine ⟨B.chg.trans chg (fun _ h => h) (fun _ _ h => h.elim), B.mb, B.stb, fun j l hj hl hk => ?_⟩
    refine B.par j l hj hl fun hn => ?_
    obtain ⟨b, hb⟩ := look_ne hk
    rcases H.dn ops.length (Nat.le_refl _) hb with h | ⟨i, o, _, _, k, e⟩
    · rw [hn] at h; cases h
    · unfold idOf at e; omega
end Ev
