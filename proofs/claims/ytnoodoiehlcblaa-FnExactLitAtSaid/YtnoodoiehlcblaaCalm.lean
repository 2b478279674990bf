/- Calm operations: what they do to the evaluator's state, with no machine in sight. -/
import Derived.Test.YtnoodoiehlcblaaReg
set_option linter.unusedVariables false
set_option linter.unusedSimpArgs false
namespace Ev
open Go

/-- The frame is as before, the store has at most grown by ids of 'dst'. -/
structure Pure (dst : Nat) (s s' : St) : Prop where
  fr : s'.fr = s.fr
  up : ∀ id b, look s.st id = some b → look s'.st id = some b
  dn : ∀ id b, look s'.st id = some b → look s.st id = some b ∨ NewId dst id
theorem Pure.refl {dst : Nat} {s : St} : Pure dst s s := ⟨rfl, fun _ _ h => h, fun _ _ h => .inl h⟩
theorem look_cons {st : Store} {i n : Nat} {b : Blk} : look ((i, b) :: st) n = if i = n then some b else look st n := by
  simp only [look]
  split
  · subst_vars; simp
  · rename_i h; rw [beq_ne h]; rfl
theorem Pure.new {dst d : Nat} {fr : List V} {st0 st : Store} {b : Blk} (h : look st d = none) (hd : NewId dst d) (p : Pure dst ⟨fr, st0⟩ ⟨fr, st⟩) : Pure dst ⟨fr, st0⟩ ⟨fr, (d, b) :: st⟩ := by
  refine ⟨rfl, fun id b' hl => ?_, fun id b' hl => ?_⟩
  · have hl' := p.up id b' hl
    rw [look_cons, if_neg (fun e => by subst e; rw [h] at hl'; cases hl')]; exact hl'
  · rw [look_cons] at hl
    split at hl
    · rename_i e; subst e; exact .inr hd
    · exact p.dn id b' hl
section
variable {R : Type} {dst : Nat}
theorem newK_congr {fr : List V} {st0 st : Store} {d : Nat} {b : Blk} (hd : NewId dst d) (p : Pure dst ⟨fr, st0⟩ ⟨fr, st⟩) {K K' : Store → Option R}
    (hk : ∀ st', Pure dst ⟨fr, st0⟩ ⟨fr, st'⟩ → K st' = K' st') : newK st d b K = newK st d b K' := by
  unfold newK
  split
  · rename_i h; exact hk _ (p.new h hd)
  · rfl
theorem impB_congr {fr : List V} {st0 : Store} {sh : Bool} {K K' : Store → Option R} (hk : ∀ st', Pure dst ⟨fr, st0⟩ ⟨fr, st'⟩ → K st' = K' st') :
    ∀ (bs : List Blk) (j : Nat) (st : Store), Pure dst ⟨fr, st0⟩ ⟨fr, st⟩ → impB sh dst [] j bs st K = impB sh dst [] j bs st K'
  | [], j, st, p => by simp only [impB]; exact hk st p
  | b :: bs, j, st, p => by
    simp only [impB]
    rw [newK_congr (K' := fun st => impB sh dst [] (j + 1) bs st K') ⟨j, rfl⟩ p fun st' p' => impB_congr hk bs (j + 1) st' p']
theorem callK_congr {E : Env} {f : Nat} {vs : List V} {s : St} {K K' : V → St → Option R} (hc : ∀ e, E f = some e → e.muts = false ∧ e.shares = false)
    (hk : ∀ v s', Pure dst s s' → K v s' = K' v s') : callK E f dst vs s K = callK E f dst vs s K' := by
  unfold callK
  split
  · rfl
  · rename_i e he
    obtain ⟨h1, h2⟩ := hc e he
    congr 1
    funext av ids frz
    rw [h1, h2]
    cases ids with
    | cons _ _ => simp [nilB]
    | nil =>
      simp only [cond_false, frzAll]
      congr 1
      congr 1
      funext bs
      congr 1
      funext res out
      refine impB_congr (fr := s.fr) (st0 := s.st) (fun st' p' => ?_) out 0 s.st Pure.refl
      congr 1
      funext v
      exact hk v ⟨s.fr, st'⟩ p'
theorem sliceK_congr {ti : TI} {ann : Nat → Bool} {s : St} {x : V} {lo hi : Option V} {K K' : V → St → Option R} (ha : ann dst = false)
    (hk : ∀ v, K v s = K' v s) : sliceK ti ann dst s x lo hi K = sliceK ti ann dst s x lo hi K' := by
  unfold sliceK
  simp only [ha, hk, cond_false]
theorem evOp_congr {E : Env} {T : Tab} {ann : Nat → Bool} {o : Oper} {s : St} {K K' : V → St → Option R} (hd : idOf o = dst) (hc : calm E ann o = true)
    (hk : ∀ v s', Pure dst s s' → K v s' = K' v s') : evOp E T ann dst o.op s K = evOp E T ann dst o.op s K' := by
  have hs : ∀ v, K v s = K' v s := fun v => hk v s Pure.refl
  have hn : ∀ b (v : V), newK s.st dst b (fun st => K v ⟨s.fr, st⟩) = newK s.st dst b (fun st => K' v ⟨s.fr, st⟩) := fun b v =>
    newK_congr (fr := s.fr) (st0 := s.st) ⟨0, rfl⟩ Pure.refl fun st' p => hk v _ p
  unfold calm at hc
  cases hop : o.op with
  | call c =>
    rw [hop] at hc
    obtain ⟨callee, args, ts⟩ := c
    cases callee with
    | value fo =>
      simp only [evOp]
      cases fo with
      | func f =>
        simp only [opd]
        congr 1
        funext vs
        refine callK_congr (fun e he => ?_) hk
        simp only [he] at hc
        cases e1 : e.muts <;> cases e2 : e.shares <;> simp [e1, e2] at hc ⊢
      | _ => simp at hc
    | builtin b =>
      simp only [evOp]
      congr 1
      funext vs
      unfold builtinK
      cases b <;> simp only [hs] <;> (try simp at hc)
      all_goals (split <;> first | rfl | contradiction)
    | invoke _ _ => rfl
  | slice t x lo hi mx =>
    rw [hop] at hc
    simp only [hd] at hc
    cases mx <;> simp only [evOp]
    split
    · refine sliceK_congr (by simpa using hc) hs
    · rfl
  | store _ _ _ => rw [hop] at hc; cases hc
  | makeFunc f first cap =>
    cases f <;> simp only [evOp, hs]
  | _ => simp only [evOp, hs, hn]
end
/-- The operations of a drawn region, in the order of the text. -/
theorem evOps_calm {R : Type} {P : Program} {E : Env} {T : Tab} (hT : TabOK P T) (hE : EnvOK P E) {ann : Nat → Bool} {ops : List Oper} : ∀ {os : List Oper} {s : St} {K : St → Option R} {r : R},
    calms E ann os = true → evOps E T ann ops os s K = some r →
    ∃ (S : Nat → St) (v : Nat → V), S 0 = s ∧ K (S os.length) = some r ∧ ∀ (i : Nat) o, os[i]? = some o →
      calm E ann o = true ∧ ((Wanted ops (S i) o ∧ ∃ s1, OpOK P (calm E ann o = true) o (S i) (v i) s1 ∧ Pure (idOf o) (S i) s1 ∧ PutR s1 o.dst (v i) (S (i + 1))) ∨
        (Unwanted ops (S i) o ∧ v i = .tup [] ∧ PutR (S i) o.dst (v i) (S (i + 1))))
  | [], s, K, r, _, h => ⟨fun _ => s, fun _ => .undef, rfl, h, fun i o h => by simp at h⟩
  | o :: os, s, K, r, hcs, h => by
    simp only [calms] at hcs
    have hc : calm E ann o = true := by cases h' : calm E ann o <;> simp [h'] at hcs ⊢
    rw [hc, cond_true] at hcs
    have one : ∀ {K : V → St → Option R}, evOp E T ann (idOf o) o.op s K = some r → ∃ v s1, K v s1 = some r ∧ OpOK P (calm E ann o = true) o s v s1 ∧ Pure (idOf o) s s1 := by
      intro K h
      classical
      rw [evOp_congr (K' := fun v s1 => if Pure (idOf o) s s1 then K v s1 else none) rfl hc (fun v s1 p => by rw [if_pos p])] at h
      obtain ⟨v, s1, h, ok⟩ := evOp_sound hT hE h
      split at h
      · rename_i p; exact ⟨v, s1, h, ok, p⟩
      · cases h
    have step : ∃ v s', ((Wanted ops s o ∧ ∃ s1, OpOK P (calm E ann o = true) o s v s1 ∧ Pure (idOf o) s s1 ∧ PutR s1 o.dst v s') ∨
        (Unwanted ops s o ∧ v = .tup [] ∧ PutR s o.dst v s')) ∧ evOps E T ann ops os s' K = some r := by
      unfold evOps at h
      split at h
      · rename_i hg
        obtain ⟨v, s1, h, ok, p⟩ := one h
        obtain ⟨s', h, hp⟩ := putK_some h
        exact ⟨v, s', .inl ⟨by unfold Wanted; rw [hg]; trivial, s1, ok, p, hp⟩, h⟩
      · rename_i j want hg
        split at h <;> try (cases h; done)
        rename_i g hgd
        split at h <;> try (cases h; done)
        · rename_i b hb
          by_cases hbw : b = want
          · have hcd : cond want b (!b) = true := by subst hbw; cases b <;> rfl
            rw [hcd, cond_true] at h
            obtain ⟨fr', h, _, _, _, _, h5⟩ := setK_some h
            have e := h5 (by rw [hb, hbw])
            subst e
            obtain ⟨v, s1, h, ok, p⟩ := one h
            obtain ⟨s', h, hp⟩ := putK_some h
            exact ⟨v, s', .inl ⟨by unfold Wanted; rw [hg]; exact ⟨g, hgd, by rw [hb, hbw]⟩, s1, ok, p, hp⟩, h⟩
          · have hcd : cond want b (!b) = false := by cases want <;> cases b <;> first | rfl | exact absurd rfl hbw
            have hbn : b = !want := by cases want <;> cases b <;> first | rfl | exact absurd rfl hbw
            rw [hcd, cond_false] at h
            obtain ⟨fr', h, _, _, _, _, h5⟩ := setK_some h
            have e := h5 (by rw [hb, hbn])
            subst e
            obtain ⟨s', h, hp⟩ := putK_some h
            exact ⟨.tup [], s', .inr ⟨by unfold Unwanted; rw [hg]; exact ⟨g, hgd, .inl (by rw [hb, hbn])⟩, rfl, hp⟩, h⟩
        · rename_i hb
          obtain ⟨s', h, hp⟩ := putK_some h
          exact ⟨.tup [], s', .inr ⟨by unfold Unwanted; rw [hg]; exact ⟨g, hgd, .inr hb⟩, rfl, hp⟩, h⟩
    obtain ⟨v0, s1, st0, h⟩ := step
    obtain ⟨S, v, hS, hk, hst⟩ := evOps_calm hT hE hcs h
    refine ⟨fun i => match i with | 0 => s | i + 1 => S i, fun i => match i with | 0 => v0 | i + 1 => v i, rfl, hk, fun i o' hi => ?_⟩
    cases i with
    | zero => simp at hi; subst hi; simp only [hS]; exact ⟨hc, st0⟩
    | succ i => exact hst i o' (by simpa using hi)
end Ev
