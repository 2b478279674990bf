/- Functions: what the evaluator computes of a body is what the function is taken for. -/
import Derived.Test.YtnoodoiehlcblaaFun
import Derived.Test.YtnoodoiehlcblaaCode
set_option linter.unusedVariables false
set_option linter.unusedSimpArgs false
set_option linter.unnecessarySimpa false
namespace Ev
open Go

theorem decV_some {l : LP} {v : V} {d : l.den} (h : decV l v = some d) : v = encC l d ∧ blkC l d = [] := by
  cases l with
  | int k =>
    cases v <;> simp only [decV] at h <;> try (cases h; done)
    rename_i k' n
    by_cases e : k = k'
    · subst e; simp at h; subst h; exact ⟨rfl, rfl⟩
    · simp [e] at h
  | bool => cases v <;> simp only [decV] at h <;> first | (cases h; done) | (cases h; exact ⟨rfl, rfl⟩)
  | str => cases v <;> simp only [decV] at h <;> first | (cases h; done) | (cases h; exact ⟨rfl, rfl⟩)
  | r t =>
    cases v <;> simp only [decV] at h <;> try (cases h; done)
    obtain ⟨e, h⟩ := castL_eq h
    subst e; subst h; exact ⟨rfl, rfl⟩
  | o c t => cases v <;> simp only [decV] at h <;> cases h
  | al c t => cases v <;> simp only [decV] at h <;> cases h
theorem decVs_some : ∀ {ls : List LP} {vs : List V} {d : dens ls}, decVs ls vs = some d → vs = encCs ls d ∧ blkCs ls d = []
  | [], [], d, h => ⟨rfl, rfl⟩
  | l :: ls, v :: vs, d, h => by
    simp only [decVs, Option.bind_eq_some_iff] at h
    obtain ⟨a, h1, b, h2, h⟩ := h
    cases h
    obtain ⟨e1, e2⟩ := decV_some h1
    obtain ⟨e3, e4⟩ := decVs_some h2
    simp [encCs, blkCs, ← e1, e2, ← e3, e4]
  | [], _ :: _, d, h => by simp [decVs] at h
  | _ :: _, [], d, h => by simp [decVs] at h
theorem two_beq {a b n : Nat} (h : (Nat.beq a n && Nat.beq b n) = true) : a = n ∧ b = n := by
  rw [Bool.and_eq_true] at h
  exact ⟨Nat.eq_of_beq_eq_true h.1, Nat.eq_of_beq_eq_true h.2⟩
theorem decO_some {l : LP} {v : V} {n : Nat} {bs : List Blk} {x : l.den × Nat × List Blk} (h : decO l v n bs = some x) : v = encC l x.1 ∧ ∀ σ, enterSt x.2.1 x.2.2 = σ → enterSt n bs = blkC l x.1 ++ σ := by
  cases l with
  | o c t =>
    simp only [decO] at h
    split at h <;> try (cases h; done)
    rename_i j t' l bs
    cases hb : (Nat.beq j n && Nat.beq c n) <;> simp only [hb, cond_true, cond_false] at h
    · cases h
    obtain ⟨rfl, rfl⟩ := two_beq hb
    simp only [Option.bind_eq_some_iff] at h
    obtain ⟨d, h1, h⟩ := h
    cases h
    obtain ⟨e, h1⟩ := castL_eq h1
    subst e; subst h1
    exact ⟨rfl, fun σ e => by subst e; rfl⟩
  | al c t => simp only [decO] at h; cases h
  | _ =>
    simp only [decO, Option.bind_eq_some_iff] at h
    obtain ⟨d, h1, h⟩ := h
    cases h
    obtain ⟨e1, e2⟩ := decV_some h1
    exact ⟨e1, fun σ e => by rw [e2]; exact e⟩
theorem decOs_some : ∀ {ls : List LP} {vs : List V} {n : Nat} {bs : List Blk} {x : dens ls × Nat × List Blk}, decOs ls vs n bs = some x → vs = encCs ls x.1 ∧ ∀ σ, enterSt x.2.1 x.2.2 = σ → enterSt n bs = blkCs ls x.1 ++ σ
  | [], [], n, bs, x, h => by
    simp only [decOs] at h
    cases h
    exact ⟨rfl, fun σ e => e⟩
  | l :: ls, v :: vs, n, bs, x, h => by
    simp only [decOs, Option.bind_eq_some_iff] at h
    obtain ⟨a, h1, b, h2, h⟩ := h
    cases h
    obtain ⟨e1, e2⟩ := decO_some h1
    obtain ⟨e3, e4⟩ := decOs_some h2
    refine ⟨by simp only [encCs]; rw [← e1, ← e3], fun σ e => ?_⟩
    simp only [blkCs, List.append_assoc]
    exact e2 _ (e4 σ e)
  | [], _ :: _, n, bs, x, h => by simp [decOs] at h
  | _ :: _, [], n, bs, x, h => by simp [decOs] at h
theorem decE_some : ∀ {ps : List SP} {vs : List V} {n : Nat} {bs : List Blk} {d : densS ps}, decE ps vs n bs = some d → vs = encF ps d ∧ enterSt n bs = encB ps d ∧ vs.length = ps.length := by
  intro ps
  induction ps with
  | nil =>
    intro vs n bs d h
    cases vs <;> cases bs <;> first | exact ⟨rfl, rfl, rfl⟩ | (simp [decE] at h)
  | cons p ps ih =>
    intro vs n bs d h
    cases p with
    | no => simp [decE] at h
    | one l =>
      simp only [decE] at h
      split at h <;> try (cases h; done)
      simp only [Option.bind_eq_some_iff] at h
      obtain ⟨x, h1, t, h2, h⟩ := h
      cases h
      obtain ⟨e1, e2⟩ := decO_some h1
      obtain ⟨e3, e4, e5⟩ := ih h2
      exact ⟨by rw [e1, e3]; rfl, e2 _ e4, by simp [e5]⟩
    | t τ =>
      simp only [decE] at h
      split at h <;> try (cases h; done)
      simp only [Option.bind_eq_some_iff] at h
      obtain ⟨x, h1, t, h2, h⟩ := h
      cases h
      obtain ⟨e3, e4, e5⟩ := ih h2
      exact ⟨by simp only [encF]; rw [ofCells_cells h1, e3], e4, by simp [e5]⟩
    | agg ls =>
      simp only [decE] at h
      split at h <;> try (cases h; done)
      simp only [Option.bind_eq_some_iff] at h
      obtain ⟨x, h1, t, h2, h⟩ := h
      cases h
      obtain ⟨e1, e2⟩ := decOs_some h1
      obtain ⟨e3, e4, e5⟩ := ih h2
      exact ⟨by simp only [encF]; rw [← e1, e3], e2 _ e4, by simp [e5]⟩
    | box c ls =>
      simp only [decE] at h
      split at h <;> try (cases h; done)
      rename_i j vs cs bs
      cases hb : (Nat.beq j n && Nat.beq c n) <;> simp only [hb, cond_true, cond_false] at h
      · cases h
      obtain ⟨rfl, rfl⟩ := two_beq hb
      simp only [Option.bind_eq_some_iff] at h
      obtain ⟨x, h1, t, h2, h⟩ := h
      cases h
      obtain ⟨e3, e4, e5⟩ := ih h2
      obtain ⟨e1, e2⟩ := decVs_some h1
      refine ⟨by simp only [encF]; rw [e3], ?_, by simp [e5]⟩
      simp only [encB, e2, enterSt, ← e1]
      rw [e4]; rfl
    | boxt c τ =>
      simp only [decE] at h
      split at h <;> try (cases h; done)
      rename_i j vs cs bs
      cases hb : (Nat.beq j n && Nat.beq c n) <;> simp only [hb, cond_true, cond_false] at h
      · cases h
      obtain ⟨rfl, rfl⟩ := two_beq hb
      simp only [Option.bind_eq_some_iff] at h
      obtain ⟨x, h1, t, h2, h⟩ := h
      cases h
      obtain ⟨e3, e4, e5⟩ := ih h2
      refine ⟨by simp only [encF]; rw [e3], ?_, by simp [e5]⟩
      simp only [encB, enterSt, ofCells_cells h1]
      rw [e4]
    | fn g ls =>
      simp only [decE] at h
      split at h <;> try (cases h; done)
      rename_i g' cs vs
      cases hg : Nat.beq g' g <;> simp only [hg, cond_true, cond_false] at h
      · cases h
      have := Nat.eq_of_beq_eq_true hg
      subst this
      simp only [Option.bind_eq_some_iff] at h
      obtain ⟨x, h1, t, h2, h⟩ := h
      cases h
      obtain ⟨e3, e4, e5⟩ := ih h2
      have e1 := decPs_some h1
      exact ⟨by simp only [encF]; rw [← e1, e3], e4, by simp [e5]⟩
    | sp ls =>
      simp only [decE] at h
      split at h <;> try (cases h; done)
      simp only [Option.bind_eq_some_iff] at h
      obtain ⟨x, h1, t, h2, h⟩ := h
      cases h
      obtain ⟨e3, e4, e5⟩ := ih h2
      have e1 := decPs_some h1
      exact ⟨by simp only [encF]; rw [← e1, e3], e4, by simp [e5]⟩
/-! ### Numbers of blocks -/
theorem keysC {l : LP} {d : l.den} : (blkC l d).map Prod.fst = match l with | .o c _ => [c] | _ => [] := by
  cases l <;> rfl
theorem keysCs : ∀ {ls : List LP} {d : dens ls}, (blkCs ls d).map Prod.fst = ls.filterMap LP.cid
  | [], d => rfl
  | l :: ls, d => by
    simp only [blkCs, List.map_append, keysC, keysCs, List.filterMap_cons]
    cases l <;> rfl
theorem keysS : ∀ {ps : List SP} {d : densS ps}, (encB ps d).map Prod.fst = cids ps
  | [], d => rfl
  | .no :: ps, d => keysS (ps := ps)
  | .one l :: ps, d => by
    simp only [encB, List.map_append, keysC, keysS (ps := ps)]
    cases l <;> rfl
  | .t τ :: ps, d => keysS (ps := ps)
  | .agg ls :: ps, d => by simp only [encB, List.map_append, keysCs, keysS (ps := ps), cids]
  | .box c ls :: ps, d => by simp only [encB, List.map_append, List.map_cons, keysCs, keysS (ps := ps), cids]
  | .boxt c τ :: ps, d => by simp only [encB, List.map_cons, keysS (ps := ps), cids]
  | .fn _ _ :: ps, d => keysS (ps := ps)
  | .sp _ :: ps, d => keysS (ps := ps)
theorem seqN_enter : ∀ {σ : Store} {n : Nat}, seqN n (σ.map Prod.fst) = true → enterSt n (σ.map Prod.snd) = σ
  | [], n, _ => rfl
  | (i, b) :: σ, n, h => by
    simp only [List.map_cons, seqN, Bool.and_eq_true] at h
    have := Nat.eq_of_beq_eq_true h.1
    subst this
    simp only [List.map_cons, enterSt, seqN_enter h.2]
theorem encF_len : ∀ {ps : List SP} {d : densS ps}, (encF ps d).length = ps.length
  | [], d => rfl
  | .no :: ps, d => by simp only [encF, List.length_cons, encF_len]
  | .one l :: ps, d => by simp only [encF, List.length_cons, encF_len]
  | .t τ :: ps, d => by simp only [encF, List.length_cons, encF_len]
  | .agg ls :: ps, d => by simp only [encF, List.length_cons, encF_len]
  | .box c ls :: ps, d => by simp only [encF, List.length_cons, encF_len]
  | .boxt c τ :: ps, d => by simp only [encF, List.length_cons, encF_len]
  | .fn _ _ :: ps, d => by simp only [encF, List.length_cons, encF_len]
  | .sp _ :: ps, d => by simp only [encF, List.length_cons, encF_len]
theorem relT_encF {ρ : Rho} {F : Nat → Prop} {w : World} {c : Value} : ∀ {ps : List SP} {d : densS ps} {i : Nat}, RelT ρ F w (get (encF ps d) i) c → RelA ρ F w (get (encF ps d) i) c
  | [], d, i, h => by cases i <;> exact h
  | p :: ps, d, i + 1, h => by
    cases p <;> exact relT_encF (ps := ps) (i := i) h
  | p :: ps, d, 0, h => by
    cases p with
    | one l => cases l <;> exact h
    | _ => exact h
theorem oV_len : ∀ {ls : List LP}, (oV ls).length = (oS ls).length
  | [] => rfl
  | l :: ls => by cases l <;> simp only [oV, oS, List.length_cons, oV_len (ls := ls)]
theorem mvals_len : ∀ {ps : List SP}, (mvals ps).length = (muts ps).length
  | [] => rfl
  | .no :: ps => mvals_len (ps := ps)
  | .one l :: ps => by cases l <;> simp only [mvals, muts, List.length_cons, mvals_len (ps := ps)]
  | .t _ :: ps => mvals_len (ps := ps)
  | .agg ls :: ps => by simp only [mvals, muts, List.length_append, oV_len, mvals_len (ps := ps)]
  | .box _ _ :: ps => by simp only [mvals, muts, List.length_cons, mvals_len (ps := ps)]
  | .boxt _ _ :: ps => by simp only [mvals, muts, List.length_cons, mvals_len (ps := ps)]
  | .fn _ _ :: ps => mvals_len (ps := ps)
  | .sp _ :: ps => mvals_len (ps := ps)

/-! ### The end of a call -/
def resG (tmps : Array Value) : ResultVar → Sem Value
  | .tmp t => pure (tmps.getD t undef)
  | .cell a t => do loadVar t (← asAddr (tmps.getD a undef))
def packC (cs : List Value) : Value := if h : cs.toArray.size = 1 then cs.toArray[0] else .tuple cs.toArray
theorem results_run {fn : Func} {tmps : Array Value} {P : Program} {w : World} {cs : List Value} (h : (fn.results.toList.mapM (resG tmps)).run P w = .ok cs w) : (results fn tmps).run P w = .ok (packC cs) w := by
  have e : (fn.results.mapM (resG tmps)) = List.toArray <$> fn.results.toList.mapM (resG tmps) := by
    rw [← List.mapM_toArray]
  have e2 : results fn tmps = (do let vs ← fn.results.mapM (resG tmps); pure (if h : vs.size = 1 then vs[0] else .tuple vs)) := by
    unfold results
    congr 1
  rw [e2, e]
  simp [h, packC]
theorem resVs_sound {R : Type} {P : Program} {T : Tab} (hT : TabOK P T) {s : St} : ∀ {rv : List ResultVar} {K : List V → Option R} {r : R}, resVs T s rv K = some r → ∃ vs, K vs = some r ∧ vs.length = rv.length ∧
    ∀ ρ F w (tmps : Array Value), Core ρ F s.st w → (∀ t, RelT ρ F w (get s.fr t) (tmps.getD t undef)) → ∃ cs : List Value, (rv.mapM (resG tmps)).run P w = .ok cs w ∧ cs.length = vs.length ∧ ∀ (i : Nat) v, vs[i]? = some v → ∃ c, cs[i]? = some c ∧ RelT ρ F w v c
  | [], K, r, h => ⟨[], h, rfl, fun ρ F w tmps _ _ => ⟨[], by simp, rfl, fun i v hv => by simp at hv⟩⟩
  | .tmp t :: rs, K, r, h => by
    simp only [resVs] at h
    obtain ⟨vs, hk, hl, hr⟩ := resVs_sound hT h
    refine ⟨_, hk, by simp [hl], fun ρ F w tmps H hf => ?_⟩
    obtain ⟨cs, h1, h2, h3⟩ := hr ρ F w tmps H hf
    refine ⟨tmps.getD t undef :: cs, by simp [resG, h1], by simp [h2], fun i v hv => ?_⟩
    cases i with
    | zero => simp at hv; subst hv; exact ⟨_, rfl, hf t⟩
    | succ i => simpa using h3 i v (by simpa using hv)
  | .cell a t :: rs, K, r, h => by
    simp only [resVs] at h
    split at h <;> try (cases h; done)
    rename_i ti hti
    have hptr : ∀ ρ F w c, RelT ρ F w (get s.fr a) c → ∃ ad, c = .pointer (some ad) := by
      intro ρ F w c r
      unfold loadP at h
      split at h <;> rename_i hx
      · rw [hx] at r; obtain ⟨b, s, e, _⟩ := r; exact ⟨_, e⟩
      · rw [hx] at r; obtain ⟨b, s, _, e⟩ := r; exact ⟨_, e⟩
      · rw [hx] at r; obtain ⟨t, b, s, len, cap, _, _, e⟩ := r; exact ⟨_, e⟩
      · cases h
    obtain ⟨x, hk, hx⟩ := loadP_sound (P := P) (hT _ _ hti).1.size (hT _ _ hti).1.agg h
    obtain ⟨vs, hk, hl, hr⟩ := resVs_sound hT hk
    refine ⟨_, hk, by simp [hl], fun ρ F w tmps H hf => ?_⟩
    obtain ⟨cs, h1, h2, h3⟩ := hr ρ F w tmps H hf
    obtain ⟨c, hc, rc⟩ := hx ρ F w _ H (hf a)
    obtain ⟨ad, had⟩ := hptr ρ F w _ (hf a)
    have hg : (resG tmps (.cell a t)).run P w = .ok c w := by
      show (do loadVar t (← asAddr (tmps.getD a undef)) : Sem Value).run P w = _
      rw [had] at hc ⊢
      simpa [Instr.loadAt, Instr.sureAddr, asAddr] using hc
    refine ⟨c :: cs, by simp [hg, h1], by simp [h2], fun i v hv => ?_⟩
    cases i with
    | zero => simp at hv; subst hv; exact ⟨_, rfl, rc⟩
    | succ i => simpa using h3 i v (by simpa using hv)
/-- What is found at the end of a call. -/
theorem pack_rel {ρ : Rho} {F : Nat → Prop} {w : World} {vs : List V} {cs : List Value} (hl : vs.length = cs.length)
    (h : ∀ (i : Nat) c, cs[i]? = some c → ∃ v, vs[i]? = some v ∧ RelT ρ F w v c ∧ RelA ρ F w v c) : RelT ρ F w (pack vs) (packC cs) := by
  by_cases hn : cs.length = 1
  · match cs, hn with
    | [c], _ =>
      obtain ⟨v, hv, r, _⟩ := h 0 c rfl
      match vs, hl, hv with
      | [x], _, hv => simp at hv; subst hv; exact r
  · have hp : pack vs = .tup vs := by
      match vs, hl with
      | [], _ => rfl
      | [x], hl => exact absurd (by simpa using hl.symm) hn
      | _ :: _ :: _, _ => rfl
    have hq : packC cs = .tuple cs.toArray := by
      unfold packC
      rw [dif_neg (by simpa using hn)]
    rw [hp, hq]
    refine ⟨_, rfl, by simp [hl], fun i v hv => ?_⟩
    have hi : i < cs.length := by have := (List.getElem?_eq_some_iff.mp hv).1; omega
    obtain ⟨v', hv', _, r⟩ := h i cs[i] (by simp)
    rw [hv] at hv'; cases hv'
    exact ⟨_, by simp, r⟩
theorem get_eq {l : List V} {i : Nat} {v : V} (h : l[i]? = some v) : get l i = v := by
  induction l generalizing i with
  | nil => simp at h
  | cons x l ih =>
    cases i with
    | zero => simpa [get] using h
    | succ i => exact ih (by simpa using h)
theorem get_app {l m : List V} {i : Nat} : get (l ++ m) (l.length + i) = get m i := by
  induction l with
  | nil => simp
  | cons x l ih => rw [List.length_cons, show l.length + 1 + i = (l.length + i) + 1 by omega]; exact ih
theorem get_undef {n i : Nat} : get (List.replicate n V.undef) i = .undef := by
  induction n generalizing i with
  | zero => rfl
  | succ n ih => cases i with | zero => rfl | succ i => exact ih
theorem ret_sound {ps rs : List SP} {fn : Func} {P : Program} {T : Tab} (hT : TabOK P T) {s : St} {x : densS (muts ps ++ rs)} (h : retK T ps rs fn.results.toList s = some x) (hq : seqN 0 (cids (muts ps ++ rs)) = true)
    (hc : (cids ps).length ≤ (cids (muts ps ++ rs)).length) (hm : (cids ps).length ≤ 100)
    {w0 : World} {F0 : Nat → Prop} {ρ0 : Rho} (h0 : ∀ id l, ρ0 id = some l → id < (cids ps).length) {a : Act} {w : World} (hs : SR ⟨w0, F0, ρ0⟩ s a w) :
    a.defers = [] ∧ ∃ c, (results fn a.tmps).run P w = .ok c w ∧ ∃ ρ1 F1, Core ρ1 F1 (enterSt 0 ((encB (muts ps ++ rs) x).map Prod.snd)) w ∧ (∀ id l, ρ0 id = some l → ρ1 id = some l) ∧
      (∀ id l, ρ1 id = some l → id < ((encB (muts ps ++ rs) x).map Prod.snd).length) ∧ RelT ρ1 F1 w (pack ((encF (muts ps ++ rs) x).drop (muts ps).length)) c ∧ Chg ρ0.M w0 w ∧
      (∀ b, ρ1.M b → ρ0.M b ∨ w0.heap.size ≤ b) ∧ (∀ b, F1 b → F0 b ∨ w0.heap.size ≤ b) := by
  refine ⟨hs.defers, ?_⟩
  unfold retK at h
  obtain ⟨vs, h, hvl, hvs⟩ := resVs_sound hT h
  obtain ⟨y, e, hk⟩ := decK_rel h
  cases e
  obtain ⟨ρ, F, HC, DM, B, hf⟩ := hs.ex
  obtain ⟨ρ1, F1, k⟩ := hk ρ F w HC DM
  have hst : enterSt 0 ((encB (muts ps ++ rs) x).map Prod.snd) = encB (muts ps ++ rs) x := seqN_enter (by rw [keysS]; exact hq)
  have hlen : (encB (muts ps ++ rs) x).length = (cids (muts ps ++ rs)).length := by rw [← keysS (d := x), List.length_map]
  obtain ⟨cs, hr, hcl, hcs⟩ := hvs ρ F w a.tmps HC hf
  have sub : ∀ id l, ρ0 id = some l → ρ1 id = some l := fun id l hl => by
    have hid := h0 id l hl
    have hne : look (encB (muts ps ++ rs) x) id ≠ none := by
      rw [← hst, look_enter0]
      simp; omega
    obtain ⟨e, hne'⟩ := k.par id hid hne
    rw [e]
    exact B.par id l (by omega) hl hne'
  refine ⟨packC cs, results_run hr, ρ1, F1, by rw [hst]; exact k.core, sub, fun id l hl => ?_, ?_, B.chg, fun b hb => ?_, fun b hb => ?_⟩
  · have := k.dom id l hl
    have h2 : look (enterSt 0 ((encB (muts ps ++ rs) x).map Prod.snd)) id ≠ none := by rw [hst]; exact this
    rw [look_enter0] at h2
    cases hx : ((encB (muts ps ++ rs) x).map Prod.snd)[id]? with
    | none => exact absurd hx h2
    | some b => exact (List.getElem?_eq_some_iff.mp hx).1
  · have hl : (encF (muts ps ++ rs) x).length = (mvals ps).length + vs.length := by
      have := k.len
      simpa [enc] using this
    refine pack_rel (by rw [List.length_drop, hl, mvals_len]; omega) (fun i c hc => ?_)
    have hi : i < vs.length := by have := (List.getElem?_eq_some_iff.mp hc).1; omega
    have hv : (encF (muts ps ++ rs) x)[(mvals ps).length + i]? = some ((encF (muts ps ++ rs) x)[(mvals ps).length + i]'(by omega)) := by simp
    refine ⟨_, by rw [List.getElem?_drop, ← mvals_len]; exact hv, ?_⟩
    obtain ⟨c', hc', rc⟩ := hcs i vs[i] (by simp)
    rw [hc] at hc'; cases hc'
    have r := k.fr ((mvals ps).length + i) c (by
      rw [get_app]
      rw [get_eq (v := vs[i]) (by simp)]
      exact rc)
    have r' := relT_encF r
    simp only [enc] at r r'
    rw [get_eq hv] at r r'
    exact ⟨r, r'⟩
  · by_cases hlt : b < w0.heap.size
    · exact .inl (B.mb b (k.mb b hb) hlt)
    · exact .inr (by omega)
  · by_cases hlt : b < w0.heap.size
    · left
      have key : ρ0.M b → F0 b := fun ⟨id, l, hl, hb'⟩ => absurd ⟨id, l, sub id l hl, hb'⟩ (k.core.stable b hb).2
      rcases k.stb b hb with h | h
      · rcases B.stb b h hlt with h | h
        · exact h
        · exact key h
      · exact key (B.mb b h hlt)
    · exact .inr (by omega)
/-- A function is what it is taken for, if the evaluator says so of its body. -/
theorem run_ok {P : Program} {E : Env} {T : Tab} (hT : TabOK P T) (hE : EnvOK P E) (hm : P.follows .mixedOrders = true) {ann : Nat → Bool} {f : Nat} {fn : Func} {c : Code} {ps rs : List SP} {sh : Bool}
    {L : LEnv (densS (muts ps ++ rs))} {G : densS ps → Option (densS (muts ps ++ rs))} (hf : P.funcs[f]? = some fn) (hb : fn.body = some c)
    (hq : (seqN 0 (cids (muts ps ++ rs)) && Nat.ble (cids ps).length (cids (muts ps ++ rs)).length && Nat.ble (cids ps).length 100) = true)
    (hL : LOK E T ann L (retK T ps rs fn.results.toList) c) (h : ∀ a, runF E T ann ps rs fn L a = G a) : EntOK P f (mkE ps rs sh G) := by
  intro R av bs K r hk
  simp only [mkE, Option.bind_eq_some_iff] at hk
  obtain ⟨a, h1, x, h2, hk⟩ := hk
  refine ⟨_, _, hk, ?_⟩
  obtain ⟨e1, e2, e3⟩ := decE_some h1
  rw [← h a] at h2
  unfold runF at h2
  rw [hb] at h2
  simp only at h2
  simp only [Bool.and_eq_true] at hq
  obtain ⟨⟨q1, q2⟩, q3⟩ := hq
  intro w F0 ρ0 ca HC hid hsz hv
  have hbl : bs.length = (cids ps).length := by
    rw [← keysS (d := a), ← e2, List.length_map]
    have : ∀ (bs : List Blk) n, (enterSt n bs).length = bs.length := by
      intro bs; induction bs with
      | nil => intro n; rfl
      | cons b bs ih => intro n; simp [enterSt, ih]
    rw [this]
  refine calls_of_wp hf hb ?_
  have h0 : ∀ id l, ρ0 id = some l → id < (cids ps).length := fun id l hl => by rw [← hbl]; exact hid id l hl
  have hret : ∀ s a' w', retK T ps rs fn.results.toList s = some x → SR ⟨w, F0, ρ0⟩ s a' w' → bodyPost P fn (fun en w' => ∃ c ρ1 F1, en = .returned c ∧ Core ρ1 F1 (enterSt 0 ((encB (muts ps ++ rs) x).map Prod.snd)) w' ∧ (∀ id l, ρ0 id = some l → ρ1 id = some l) ∧
      (∀ id l, ρ1 id = some l → id < ((encB (muts ps ++ rs) x).map Prod.snd).length) ∧ RelT ρ1 F1 w' (pack ((encF (muts ps ++ rs) x).drop (muts ps).length)) c ∧ Chg ρ0.M w w' ∧ (∀ b, ρ1.M b → ρ0.M b ∨ w.heap.size ≤ b) ∧ (∀ b, F1 b → F0 b ∨ w.heap.size ≤ b)) .ret a' w' := by
    intro s a' w' hr hs
    obtain ⟨g1, c, g2, ρ1, F1, g3⟩ := ret_sound (P := P) hT hr q1 (by simpa using q2) (by simpa using q3) h0 hs
    exact ⟨g1, c, g2, c, ρ1, F1, rfl, g3⟩
  refine ev_sound hT hE hm (r := x) (C := ⟨w, F0, ρ0⟩) c _ _ _ hL h2 _ ⟨fun s a' w' hr hs => hret s a' w' hr hs, fun i s a' w' hx => (by cases hx), fun s a' w' hr hs => hret s a' w' hr hs⟩ _ _ ?_
  refine ⟨rfl, ?_, ρ0, F0, by rw [← e2]; exact HC, fun id l hl => ?_, ⟨Chg.refl _ _, fun b h _ => h, fun b h _ => .inl h, fun j l _ h _ => h⟩, fun t => ?_⟩
  · simp only [List.length_append, List.length_replicate, encF_len, Array.size_append, Array.size_replicate]
    omega
  · simp only
    rw [← e2, look_enter0]
    have := hid id l hl
    simp; omega
  · simp only
    rw [← e1]
    by_cases ht : t < av.length
    · have hg : get (av ++ List.replicate (fn.ntmps - ps.length) V.undef) t = av[t] := get_eq (by rw [List.getElem?_append_left ht]; simp)
      obtain ⟨c, hc, r⟩ := hv t av[t] (by simp)
      have hlt : t < ca.size := by omega
      have hgd : (ca ++ Array.replicate (fn.ntmps - ca.size) undef).getD t undef = c := by
        simp [Array.getElem?_append_left hlt, hc]
      rw [hg, hgd]
      have hrel := relT_encF (ps := ps) (d := a) (i := t) (ρ := ρ0) (F := F0) (w := w) (c := c)
      generalize hz : av[t] = z at r
      cases z <;> first | exact r | exact r.elim
    · obtain ⟨k, rfl⟩ : ∃ k, t = av.length + k := ⟨t - av.length, by omega⟩
      rw [get_app, get_undef]
      trivial
end Ev
