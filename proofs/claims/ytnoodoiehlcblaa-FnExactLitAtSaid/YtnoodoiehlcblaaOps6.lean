/- Literals of structs and slices; appends. -/
import Derived.Test.YtnoodoiehlcblaaOps5
set_option linter.unusedVariables false
set_option linter.unusedSimpArgs false
namespace Ev
open Go

theorem layK_some {R : Type} : ∀ {n : Nat} {vs cs : List V} {K : List V → Option R} {r : R}, layK n vs cs K = some r →
    ∃ cs', K cs' = some r ∧ n + vs.length ≤ cs.length ∧ cs'.length = cs.length ∧ ∀ j : Nat, cs'[j]? = if n ≤ j ∧ j < n + vs.length then vs[j - n]? else cs[j]?
  | 0, [], cs, K, r, h => ⟨cs, by simpa [layK] using h, by simp, rfl, fun j => by simp⟩
  | 0, v :: vs, [], K, r, h => by simp [layK] at h
  | 0, v :: vs, c :: cs, K, r, h => by
    obtain ⟨cs', hk, h1, h2, h3⟩ := layK_some (n := 0) (vs := vs) (cs := cs) (by simpa only [layK] using h)
    refine ⟨v :: cs', hk, by simp at h1 ⊢; omega, by simp [h2], fun j => ?_⟩
    cases j with
    | zero => simp
    | succ j =>
      have := h3 j
      simp only [Nat.zero_le, true_and, Nat.zero_add, Nat.sub_zero, List.getElem?_cons_succ, List.length_cons, Nat.add_lt_add_iff_right] at this ⊢
      exact this
  | n + 1, vs, [], K, r, h => by simp [layK] at h
  | n + 1, vs, c :: cs, K, r, h => by
    obtain ⟨cs', hk, h1, h2, h3⟩ := layK_some (n := n) (vs := vs) (cs := cs) (by cases vs <;> simpa only [layK] using h)
    refine ⟨c :: cs', hk, by simp; omega, by simp [h2], fun j => ?_⟩
    cases j with
    | zero => simp
    | succ j =>
      rw [List.getElem?_cons_succ, h3 j, List.getElem?_cons_succ]
      by_cases hj : n ≤ j ∧ j < n + vs.length
      · rw [if_pos hj, if_pos (by omega)]; congr 1; omega
      · rw [if_neg hj, if_neg (by omega)]
/-- Cells that stand for cells, by number. -/
def RelCs (ρ : Rho) (F : Nat → Prop) (w : World) (cs : List V) (ca : Array Value) : Prop := ca.size = cs.length ∧ ∀ (i : Nat) (v : V), cs[i]? = some v → ∃ c, ca[i]? = some c ∧ RelC ρ F w v c
theorem buildK_sound {R : Type} {place : Nat → Option (Nat × Nat)} {flds : List (Nat × Nat × Bool)} (hp : ∀ i off size a, flds[i]? = some (off, size, a) → place i = some (off, size)) :
    ∀ {ps : List (Nat × V)} {cs : List V} {K : List V → Option R} {r : R}, buildK flds ps cs K = some r →
    ∃ cs', K cs' = some r ∧ ∀ ρ F w (ca : Array Value) (pc : List (Nat × Value)), RelCs ρ F w cs ca → pc.length = ps.length → (∀ (i : Nat) j v, ps[i]? = some (j, v) → ∃ c, pc[i]? = some (j, c) ∧ RelT ρ F w v c) →
      ∃ ca', Instr.fill place ca pc = some ca' ∧ RelCs ρ F w cs' ca'
  | [], cs, K, r, h => ⟨cs, h, fun ρ F w ca pc hr hl _ => ⟨ca, by cases pc <;> simp [Instr.fill] at hl ⊢, hr⟩⟩
  | (i, v) :: ps, cs, K, r, h => by
    simp only [buildK] at h
    split at h <;> try (cases h; done)
    rename_i off size a hf
    cases hb : (Nat.beq size v.cs.length && v.val) <;> simp only [hb, cond_true, cond_false] at h
    · cases h
    rw [Bool.and_eq_true] at hb
    have hsz := Nat.eq_of_beq_eq_true hb.1
    have hu : v ≠ .undef := fun e => by subst e; exact Bool.false_ne_true hb.2
    have ht : ∀ vs, v ≠ .tup vs := fun vs e => by subst e; exact Bool.false_ne_true hb.2
    obtain ⟨cs1, h, h1, h2, h3⟩ := layK_some h
    obtain ⟨cs', hk, ih⟩ := buildK_sound hp h
    refine ⟨cs', hk, fun ρ F w ca pc hr hl hc => ?_⟩
    cases pc with
    | nil => simp at hl
    | cons p pc =>
      obtain ⟨c, e, r⟩ := hc 0 i v rfl
      simp at e; subst e
      obtain ⟨g1, g2⟩ := cs_rel hu ht r
      obtain ⟨ca1, hfill, hs, hg⟩ := fill_step (v := c) (rest := pc) (hp i off size a hf) (by omega) (by rw [hr.1, hsz]; exact h1)
      obtain ⟨ca', hfill', hr'⟩ := ih ρ F w ca1 pc ⟨by rw [hs, hr.1, h2], fun j u hu => by
        rw [h3] at hu
        rw [hg]
        rw [← hsz] at hu
        by_cases hj : off ≤ j ∧ j < off + size
        · rw [if_pos hj] at hu ⊢; exact g2 _ _ hu
        · rw [if_neg hj] at hu ⊢; exact hr.2 _ _ hu⟩ (by simpa using hl) (fun j k u hu => by simpa using hc (j + 1) k u (by simpa using hu))
      exact ⟨ca', by rw [hfill, hfill'], hr'⟩
theorem mapM_run' {α β : Type} {P : Program} {w : World} {f : α → Sem β} : ∀ {l : List α}, (∀ x ∈ l, ∃ y, (f x).run P w = .ok y w) → ∃ ys : List β, (l.mapM f).run P w = .ok ys w ∧ ys.length = l.length ∧
    ∀ (i : Nat) (x : α), l[i]? = some x → ∃ y, ys[i]? = some y ∧ (f x).run P w = .ok y w
  | [], _ => ⟨[], by simp, rfl, fun i x h => by simp at h⟩
  | x :: l, h => by
    obtain ⟨y, hy⟩ := h x (by simp)
    obtain ⟨ys, h1, h2, h3⟩ := mapM_run' (l := l) (fun y hy => h y (by simp [hy]))
    refine ⟨y :: ys, ?_, by simp [h2], fun i z hz => ?_⟩
    · rw [List.mapM_cons]
      simp only [Sem.run_bind, hy, Result.andThen_ok, h1, Sem.run_pure]
    · cases i with
      | zero => simp at hz; subst hz; exact ⟨y, rfl, hy⟩
      | succ i => simpa using h3 i z (by simpa using hz)
theorem relA_zero {ρ : Rho} {F : Nat → Prop} {w : World} {cs : List V} {ca : Array Value} (hz : allB zpB cs = true) (h : ca.toList = cs.map sv) : RelCs ρ F w cs ca := by
  refine ⟨by rw [← Array.length_toList, h]; simp, fun i v hv => ⟨sv v, by rw [← Array.getElem?_toList, h, List.getElem?_map, hv]; rfl, sv_plain_or_nils (allB_get hz v (List.mem_of_getElem? hv))⟩⟩
theorem partsV_get {fr : List V} {ps : Array (Nat × Operand)} {i j : Nat} {v : V} (h : (partsV fr ps.toList)[i]? = some (j, v)) : ∃ x, ps[i]? = some (j, x) ∧ v = opd fr x := by
  unfold partsV at h
  rw [List.getElem?_map, Array.getElem?_toList] at h
  cases hp : ps[i]? with
  | none => simp [hp] at h
  | some p =>
    simp [hp] at h
    exact ⟨p.2, by rw [← h.1], h.2.symm⟩
theorem build_sound {R : Type} {P : Program} {t : Nat} {ti : TI} (hT : TIok P t ti) (hag : ti.kind = .struct ∨ ∃ n w a, ti.kind = .arr n w a) {ps : List (Nat × V)} {K : List V → Option R} {r : R} (h : buildK ti.flds ps ti.zero K = some r) :
    ∃ cs, K cs = some r ∧ ∀ ρ F w (pc : Array (Nat × Value)), pc.size = ps.length → (∀ (i : Nat) j v, ps[i]? = some (j, v) → ∃ c, pc[i]? = some (j, c) ∧ RelT ρ F w v c) →
      ∃ ca, (Instr.build t pc).run P w = .ok (.agg ca) w ∧ RelCs ρ F w cs ca := by
  obtain ⟨d, hd, hk, hfl⟩ := hT.kind
  rcases hag with hag | ⟨n, wd, ag, hag⟩
  case inr =>
    rw [hag] at hk
    cases d <;> try exact hk.elim
    rename_i n' e
    have hfl' : ti.flds = [] := hfl
    rw [hfl'] at h
    cases ps with
    | nil =>
      refine ⟨_, h, fun ρ F w pc hs hc => ?_⟩
      have : pc = #[] := Array.eq_empty_of_size_eq_zero (by simpa using hs)
      subst this
      obtain ⟨z, hz, hzc⟩ := run_zeroValue hT.zero w
      exact ⟨z.cells, by simp [Instr.build, Sem.run_bind, hz, run_underlying hd, run_sizeOf hk.2.1, Instr.fill], relA_zero hT.zpure hzc⟩
    | cons p ps => obtain ⟨i, v⟩ := p; simp [buildK] at h
  case inl =>
    rw [hag] at hk
    cases d <;> try exact hk.elim
    rename_i fs
    have hfl' := hfl
    obtain ⟨hlen, hf⟩ := hfl'
    let place : Nat → Option (Nat × Nat) := fun i => (ti.flds[i]?).map fun x => (x.1, x.2.1)
    obtain ⟨cs, hk', hb⟩ := buildK_sound (place := place) (fun i off size a e => by simp [place, e]) h
    refine ⟨cs, hk', fun ρ F w pc hs hc => ?_⟩
    obtain ⟨z, hz, hzc⟩ := run_zeroValue hT.zero w
    obtain ⟨ca, hfill, hr⟩ := hb ρ F w z.cells pc.toList (relA_zero hT.zpure hzc) (by simpa using hs) (fun i j v e => by obtain ⟨c, h1, h2⟩ := hc i j v e; exact ⟨c, by simpa using h1, h2⟩)
    refine ⟨ca, ?_, hr⟩
    have hpl : ∃ places : Array (Nat × Nat), (fs.mapM fun f => (do pure (f.offset, ← Go.sizeOf f.type) : Sem (Nat × Nat))).run P w = .ok places w ∧ ∀ i, places[i]? = place i := by
      rw [Array.mapM_eq_mapM_toList]
      obtain ⟨ys, h1, h2, h3⟩ := mapM_run' (P := P) (w := w) (f := fun f : Field => (do pure (f.offset, ← Go.sizeOf f.type) : Sem (Nat × Nat))) (l := fs.toList) (fun f hf' => by
        obtain ⟨i, hi⟩ := List.getElem?_of_mem hf'
        have hi' : i < ti.flds.length := by
          rw [hlen]; have := (List.getElem?_eq_some_iff.mp hi).1; simpa using this
        obtain ⟨f', e1, e2, hsz, _⟩ := hf i _ _ _ (List.getElem?_eq_getElem hi')
        rw [Array.getElem?_toList, e1] at hi; cases hi
        exact ⟨(f.offset, (ti.flds.get ⟨i, hi'⟩).2.1), by simp only [Sem.run_bind, run_sizeOf hsz, Result.andThen_ok, Sem.run_pure]⟩)
      refine ⟨ys.toArray, by simp only [Sem.run_map, h1, Result.andThen_ok], fun i => ?_⟩
      simp only [List.getElem?_toArray]
      by_cases hi : i < ti.flds.length
      · obtain ⟨f, e1, e2, hsz, _⟩ := hf i _ _ _ (List.getElem?_eq_getElem hi)
        obtain ⟨y, e3, e4⟩ := h3 i f (by rw [Array.getElem?_toList]; exact e1)
        simp [Sem.run_bind, run_sizeOf hsz] at e4
        rw [e3]; simp [place, List.getElem?_eq_getElem hi, ← e4, e2]
      · rw [List.getElem?_eq_none (by rw [h2]; simp; omega)]
        simp [place, List.getElem?_eq_none (Nat.le_of_not_lt hi)]
    obtain ⟨places, h1, h2⟩ := hpl
    have h2' : (fun i => places[i]?) = place := funext h2
    simp only [Instr.build, Sem.run_bind, hz, Result.andThen_ok, run_underlying hd, h1, h2', hfill, Sem.run_pure]

/-! ### Slices -/
theorem solid_one {ρ : Rho} {F : Nat → Prop} {w : World} {v : V} {c : Value} (hs : v.solid = true) (h : RelC ρ F w v c) : c.oneCell' = true := by
  cases v <;> simp only [V.solid] at hs <;> try (cases hs; done)
  all_goals simp only [RelC, RelB] at h
  case int | bool | str | nils => subst h; rfl
  case lst => obtain ⟨_, _, rfl, _⟩ := h; rfl
  case own => obtain ⟨_, _, _, _, _, rfl⟩ := h; rfl
  case ownv => obtain ⟨_, _, _, _, _, _, _, _, rfl⟩ := h; rfl
  case sptr => obtain ⟨_, _, rfl, _⟩ := h; rfl
  case lptr => obtain ⟨_, _, _, rfl⟩ := h; rfl
  case eptr => obtain ⟨_, _, _, _, _, _, _, rfl⟩ := h; rfl
  case fn => obtain ⟨_, rfl, _⟩ := h; rfl
theorem sv_one {v : V} (h : v.plain = true) : (sv v).oneCell' = true := by
  rcases plain_not h with ⟨k, n, rfl⟩ | ⟨b, rfl⟩ | ⟨s, rfl⟩ <;> rfl
theorem flat_one (t : Ty) (l : List t.den) : ∀ u ∈ flat t l, u.oneCell' = true := by
  intro u hu
  unfold flat at hu
  rw [List.mem_flatMap] at hu
  obtain ⟨d, _, hu⟩ := hu
  rw [List.mem_map] at hu
  obtain ⟨v, hv, rfl⟩ := hu
  exact sv_one (cells_plain t d v hv)
theorem ofCells_cells {t : Ty} {cs : List V} {d : t.den} (h : t.ofCells cs = some d) : t.cells d = cs := by
  unfold Ty.ofCells at h
  split at h <;> first | (cases h; rfl) | cases h
theorem litK_sound {R : Type} {τ : Ty} {n i : Nat} {ps : List (Nat × V)} {K : List τ.den → Option R} {r : R} (h : litK τ n i ps K = some r) :
    ∃ l, K l = some r ∧ l.length = n ∧ ∀ ρ F w (pre : List Value) (ca : Array Value) (pc : List (Nat × Value)), pre.length = i * τ.width → ca.toList = pre ++ flat τ (List.replicate n τ.zero) →
      pc.length = ps.length → (∀ (k : Nat) j v, ps[k]? = some (j, v) → ∃ c, pc[k]? = some (j, c) ∧ RelT ρ F w v c) →
      ∃ ca', Instr.fill (fun i => some (i * τ.width, τ.width)) ca pc = some ca' ∧ ca'.toList = pre ++ flat τ l := by
  fun_induction litK τ n i ps K with
  | case1 i K =>
    refine ⟨[], h, rfl, fun ρ F w pre ca pc hp hc hl _ => ⟨ca, ?_, hc⟩⟩
    cases pc <;> simp [Instr.fill] at hl ⊢
  | case2 n i j v ps K hb d hd ih1 =>
      have e := Nat.eq_of_beq_eq_true hb
      subst e
      · obtain ⟨l, hk, hlen, ih⟩ := ih1 h
        refine ⟨_, hk, by simp [hlen], fun ρ F w pre ca pc hp hc hl hr => ?_⟩
        cases pc with
        | nil => simp at hl
        | cons p pc =>
          obtain ⟨c, e, r⟩ := hr 0 i v rfl
          simp at e; subst e
          have hcells := ofCells_cells hd
          have hcc := plain_cells_rel (c := c) (v := v) (by rw [← hcells]; exact cells_plain τ d) r
          have hsz : c.cells.size = τ.width := by rw [← Array.length_toList, hcc, ← hcells]; simp [cells_length]
          have htot : ca.size = pre.length + (n + 1) * τ.width := by rw [← Array.length_toList, hc]; simp [flat_length]
          obtain ⟨ca1, hf, hs1, hg⟩ := fill_step (place := fun i => some (i * τ.width, τ.width)) (cells := ca) (i := i) (v := c) (rest := pc) rfl hsz (by rw [htot, hp, Nat.succ_mul]; omega)
          obtain ⟨ca', hf', hc'⟩ := ih ρ F w (pre ++ (τ.cells d).map sv) ca1 pc (by simp [hp, cells_length, Nat.succ_mul]) (by
            refine List.ext_getElem? fun j => ?_
            rw [Array.getElem?_toList, hg]
            by_cases h1 : i * τ.width ≤ j ∧ j < i * τ.width + τ.width
            · rw [if_pos h1, List.append_assoc, List.getElem?_append_right (by omega), hp, List.getElem?_append_left (by simp [cells_length]; omega), ← Array.getElem?_toList, hcc, hcells]
            · rw [if_neg h1, ← Array.getElem?_toList, hc, List.replicate_succ, flat_cons]
              by_cases h2 : j < i * τ.width
              · rw [List.getElem?_append_left (by omega), List.append_assoc, List.getElem?_append_left (by omega)]
              · have g1 : ((τ.cells d).map sv).length = τ.width := by simp [cells_length]
                have g0 : ((τ.cells τ.zero).map sv).length = τ.width := by simp [cells_length]
                rw [List.append_assoc, List.getElem?_append_right (by omega), List.getElem?_append_right (by omega), List.getElem?_append_right (by omega), List.getElem?_append_right (by omega), g0, g1]) (by simpa using hl) (fun k j u hu => by simpa using hr (k + 1) j u (by simpa using hu))
          exact ⟨ca', by rw [hf, hf'], by rw [hc', List.append_assoc, ← flat_cons]⟩
  | case3 => cases h
  | case4 n i j v ps K hb ih2 =>
      obtain ⟨l, hk, hlen, ih⟩ := ih2 h
      refine ⟨_, hk, by simp [hlen], fun ρ F w pre ca pc hp hc hl hr => ?_⟩
      obtain ⟨ca', hf', hc'⟩ := ih ρ F w (pre ++ (τ.cells τ.zero).map sv) ca pc (by simp [hp, cells_length, Nat.succ_mul]) (by rw [hc, List.replicate_succ, flat_cons, List.append_assoc]) hl hr
      exact ⟨ca', hf', by rw [hc', List.append_assoc, ← flat_cons]⟩
  | case5 n i K ih =>
    obtain ⟨l, hk, hlen, ih⟩ := ih h
    refine ⟨_, hk, by simp [hlen], fun ρ F w pre ca pc hp hc hl hr => ?_⟩
    obtain ⟨ca', hf', hc'⟩ := ih ρ F w (pre ++ (τ.cells τ.zero).map sv) ca pc (by simp [hp, cells_length, Nat.succ_mul]) (by rw [hc, List.replicate_succ, flat_cons, List.append_assoc]) hl hr
    exact ⟨ca', hf', by rw [hc', List.append_assoc, ← flat_cons]⟩
  | case6 => cases h
end Ev
