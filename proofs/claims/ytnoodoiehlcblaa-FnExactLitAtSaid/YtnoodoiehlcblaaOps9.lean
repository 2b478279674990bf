/- Appends, stores, literals of slices, parts that take a slice over. -/
import Derived.Test.YtnoodoiehlcblaaOps8
set_option linter.unusedVariables false
set_option linter.unusedSimpArgs false
namespace Ev
open Go

theorem src_first {P : Program} {τ : Ty} {w : World} {m : List τ.den} {c : Value} (h : Src τ w m c) : (Builtin.firstCells τ.width m.length c).run P w = .ok (flat τ m).toArray w := by
  obtain ⟨a, cap, rfl, hc, h⟩ := h
  rcases h with rfl | ⟨b, s, rfl, hat⟩
  · cases a with
    | none => simp [Builtin.firstCells, flat_nil]
    | some a => simp [Builtin.firstCells, loadCells, loadCellsFrom, flat_nil]
  · exact run_firstCells_some w τ.width m.length ⟨b, s, none⟩ m.length cap (flat τ m) (flat_length τ m) (fun j v hv => by rw [addr_add]; exact hat j v hv)
theorem src_drew {τ : Ty} {w : World} {m : List τ.den} {c : Value} (h : Src τ w m c) : Src τ w.drew m c := h
theorem src_len {P : Program} {τ : Ty} {w : World} {m : List τ.den} {c : Value} (h : Src τ w m c) (w' : World) : (Builtin.lenOf c).run P w' = .ok m.length w' := by
  obtain ⟨a, cap, rfl, _⟩ := h; rfl
structure AppTys (P : Program) (t u e : Nat) (τ : Ty) : Prop where
  ht : P.underlying t = some (.slice e)
  hu : ∃ e2, P.underlying u = some (.slice e2)
  he : ElemOK P e τ
theorem run_append_in {P : Program} {t u e ty : Nat} {τ : Ty} (A : AppTys P t u e τ) {w : World} {m : List τ.den} {cy : Value} {base : Option Addr} {len cap : Nat} (hm : Src τ w m cy) (hroom : len + m.length ≤ cap) :
    (Builtin.append_ #[t, u] ty #[.slice base len cap, cy]).run P w =
      (match base with
        | some a => (storeCells (a.add (len * τ.width)) (flat τ m)).run P w
        | none => .ok () w).andThen fun _ w' => .ok (.slice base (len + m.length) cap) w' := by
  obtain ⟨e2, hu⟩ := A.hu
  cases base with
  | none => simp [Builtin.append_, Sem.run_bind, run_underlying A.ht, run_underlying hu, run_sizeOf A.he.1, src_len hm, hroom, src_first hm]
  | some a => simp [Builtin.append_, Sem.run_bind, run_underlying A.ht, run_underlying hu, run_sizeOf A.he.1, src_len hm, hroom, src_first hm]
theorem run_append_out {P : Program} {t u e ty : Nat} {τ : Ty} (A : AppTys P t u e τ) {w : World} {l m : List τ.den} {cy : Value} {base : Option Addr} {cap : Nat} (hl : Src τ w l (.slice base l.length cap)) (hm : Src τ w m cy)
    (hroom : ¬ l.length + m.length ≤ cap) (hlim : l.length + m.length ≤ lim) :
    ∃ (z : Array Value) (nc : Nat), l.length + m.length ≤ nc ∧ z.size = (nc - (l.length + m.length)) * τ.width ∧ (Builtin.append_ #[t, u] ty #[.slice base l.length cap, cy]).run P w =
      .ok (.slice (some ⟨w.heap.size, 0, none⟩) (l.length + m.length) nc) (w.drew.alloc (.cells ((flat τ l).toArray ++ (flat τ m).toArray ++ z) e)) := by
  obtain ⟨e2, hu⟩ := A.hu
  obtain ⟨hs, ⟨i, z, hi, hz, hzc⟩, _, ⟨i', hi', hb⟩, _⟩ := A.he
  rw [hi] at hi'; cases hi'
  have hzs : z.cells.size = τ.width := by rw [← Array.length_toList, hzc]; simp [cells_length]
  have hfit := growslice_fits (bytes := i.bytes) (Nat.lt_of_not_le hroom) (by
    have h1 : (l.length + m.length) * i.bytes ≤ lim * 128 := Nat.mul_le_mul hlim hb
    unfold lim at h1; omega)
  refine ⟨Builtin.zeroCells z.cells (grownCap w (l.length + m.length) cap e - (l.length + m.length)), grownCap w (l.length + m.length) cap e, grownCap_ge w _ _ e, by rw [size_zeroCells, hzs], ?_⟩
  have h63' : ¬ (9223372036854775807 < ((l.length : Int) + (m.length : Int))) := by unfold lim at hlim; omega
  have h48' : ¬ (281474976710656 < Builtin.nextslicecap (l.length + m.length) cap * i.bytes) := by omega
  have h1 := src_first (P := P) (src_drew hl)
  have h2 := src_first (P := P) (src_drew hm)
  have hss := run_sizeOf hs
  have hti : ∀ w : World, (typeInfo e).run P w = .ok i w := fun w => by simp [typeInfo, hi]
  simp [Builtin.append_, Sem.run_bind, run_underlying A.ht, run_underlying hu, hss, hti, src_len hm, hroom, h63', h48', Question.forced, h1, h2, zeroValue, hi, hz, newRow, grownCap]
  congr 2
  apply Array.ext'
  simp [List.append_assoc]
theorem call_builtin {P : Program} {o : Oper} {b : Builtin} {args : Array Operand} {ts : Array Nat} (ho : o.op = .call ⟨.builtin b, args, ts⟩) (a : Act) (w : World) :
    ∃ consts, (execOp a.eval o).run P w = (builtin b ts o.type consts (args.map a.eval)).run P w := by
  refine ⟨args.map fun | .const _ => true | _ => false, ?_⟩
  simp only [execOp, ho, resolve, Sem.run_bind, Sem.run_pure, Result.andThen_ok, invoke]
  rfl
theorem reads_arg {o : Oper} {b : Builtin} {args : Array Operand} {ts : Array Nat} (ho : o.op = .call ⟨.builtin b, args, ts⟩) {t : Nat} (h : Operand.tmp t ∈ args) : Reads o t := by
  simp [Reads, ho, Op.operands, Call.operands, h]
theorem append_ok {P : Program} {calm : Prop} {o : Oper} {s : St} {t u e dst : Nat} {τ : Ty} {x y : Operand} {R : Type} {K : V → St → Option R} {r : R} {T : Tab} (hcalm : ¬ calm) (A : AppTys P t u e τ)
    (ho : o.op = .call ⟨.builtin .append, #[x, y], #[t, u]⟩) (hd : idOf o = dst) (hT : ∃ a1 a2 a3 a4 a5 a6, T.get t = some ⟨a1, a2, a3, a4, a5, .sl τ, a6⟩)
    (h : appendK T t dst (opd s.fr x) (opd s.fr y) s K = some r) : ∃ v s', K v s' = some r ∧ OpOK P calm o s v s' := by
  obtain ⟨a1, a2, a3, a4, a5, a6, hT⟩ := hT
  simp only [appendK, hT] at h
  have hrel : ∀ (ρ : Rho) (F : Nat → Prop) (a : Act) (w : World), (∀ t, Reads o t → RelT ρ F w (get s.fr t) (a.tmps.getD t undef)) → RelT ρ F w (opd s.fr x) (a.eval x) ∧ RelT ρ F w (opd s.fr y) (a.eval y) :=
    fun ρ F a w hr => ⟨opd_rel x fun t e => hr t (reads_arg ho (by simp [e])), opd_rel y fun t e => hr t (reads_arg ho (by simp [e]))⟩
  have hrun : ∀ (a : Act) (w : World) c w', (Builtin.append_ #[t, u] o.type #[a.eval x, a.eval y]).run P w = .ok c w' → (execOp a.eval o).run P w = .ok (.value c) w' := by
    intro a w c w' hh
    obtain ⟨consts, hc⟩ := call_builtin (P := P) ho a w
    rw [hc]
    simp [builtin, Sem.run_bind, hh]
  split at h <;> try (cases h; done)
  · rename_i id hx
    split at h <;> try (cases h; done)
    rename_i t' l hl
    split at h <;> try (cases h; done)
    rename_i l' hc
    obtain ⟨rfl, rfl⟩ := castL_eq hc
    simp only at h
    obtain ⟨m, h, hm⟩ := rowsK_sound h
    obtain ⟨hlim, h⟩ := capK_some h
    unfold putRow at h
    cases hge : Nat.ble 100 id <;> simp only [hge, cond_true, cond_false] at h
    · cases h
    have hge := Nat.le_of_ble_eq_true hge
    obtain ⟨st', h, h1, ⟨b0, h2⟩, h3⟩ := updK_some h
    refine ⟨_, _, h, fun ρ F a w H hM hf hr N Q hN => ?_⟩
    obtain ⟨r1, r2⟩ := hrel ρ F a w hr
    rw [hx] at r1
    obtain ⟨t0, base, len, cap, hρ, e1⟩ := r1
    obtain ⟨rfl, hlen, hcap, hat⟩ := row_at H hρ hl
    have hsrc := hm ρ F w _ H r2
    subst hlen
    have hsl : Src t' w l (.slice base l.length cap) := ⟨base, cap, rfl, hcap, hat⟩
    unfold Oper.wp
    by_cases hroom : l.length + m.length ≤ cap
    · have hin := run_append_in (ty := o.type) A (base := base) (len := l.length) hsrc hroom
      by_cases hm0 : m = []
      · subst hm0
        have hin' : (Builtin.append_ #[t, u] o.type #[a.eval x, a.eval y]).run P w = .ok (.slice base l.length cap) w := by
          rw [e1, hin]; cases base <;> simp [flat_nil, storeCells]
        rw [hrun a w _ _ hin']
        refine hN _ _ _ F (post_upd (v := .own id) hcalm hge H hM hρ h2 h1 h3 (fun cs e => by cases e) (Chg.refl _ _) (fun b hb => .inl hb) ?_ ⟨_, _, _, _, Rho.set_same _ _ _, rfl⟩)
        have := H.heap id _ _ hρ hl
        rw [List.append_nil]
        exact this.weaken (fun _ _ => rfl) (by rfl)
      · have hpos : 0 < m.length := List.length_pos_iff.mpr hm0
        obtain ⟨_, _, _, h4⟩ := H.heap id _ _ hρ hl
        rcases h4 with h4 | ⟨b, sft, arr, rfl, hrow, hfit, hatl⟩
        · omega
        · obtain ⟨w', arr', g1, g2, g3, g4, g5, g6⟩ := run_storeCells_row (P := P) (flat t' m) w arr (sft + l.length * t'.width) 0 hrow (by
            rw [flat_length, Nat.add_zero, Nat.add_assoc, ← Nat.add_mul]
            exact Nat.le_trans (Nat.add_le_add_left (Nat.mul_le_mul_right _ hroom) _) hfit) (flat_one t' m)
          have hin' : (Builtin.append_ #[t, u] o.type #[a.eval x, a.eval y]).run P w = .ok (.slice (some ⟨b, sft, none⟩) (l.length + m.length) cap) w' := by
            rw [e1, hin]; simp [addr_add, g1]
          rw [hrun a w _ _ hin']
          have hblk : (Loc.row t' (some ⟨b, sft, none⟩) l.length cap).block = some b := by simp [Loc.block]; omega
          refine hN _ _ _ F (post_upd (v := .own id) (loc' := .row t' (some ⟨b, sft, none⟩) (l.length + m.length) cap) hcalm hge H hM hρ h2 h1 h3 (fun cs e => by cases e) (g2.mono fun x e => by rw [hblk, e]) (fun b' hb => .inl (by simpa [Loc.block] using hb)) ?_ ⟨_, _, _, _, Rho.set_same _ _ _, rfl⟩)
          refine ⟨rfl, by simp, hroom, .inr ⟨b, sft, arr', rfl, g4, by rw [g5]; exact hfit, ?_⟩⟩
          rw [flat_append]
          refine At.join (fun i v hv => ?_) (fun i v hv => ?_)
          · have hi := (List.getElem?_eq_some_iff.mp hv).1
            rw [flat_length] at hi
            have := hatl i v hv
            rw [cell_row hrow] at this
            rw [cell_row g4, g6, if_neg (by omega)]; exact this
          · have hi := (List.getElem?_eq_some_iff.mp hv).1
            rw [flat_length] at hi
            rw [cell_row g4, g6, flat_length, flat_length, if_pos (by omega), show sft + l.length * t'.width + i - (sft + l.length * t'.width + 0) = i by omega]; exact hv
    · obtain ⟨z, nc, hnc, hz, hout⟩ := run_append_out (ty := o.type) A hsl hsrc hroom hlim
      rw [hrun a w _ _ (by rw [e1]; exact hout)]
      have hrow := rowB_drew_alloc w ((flat t' l).toArray ++ (flat t' m).toArray ++ z) e
      refine hN _ _ _ F (post_upd (v := .own id) (loc' := .row t' (some ⟨w.heap.size, 0, none⟩) (l.length + m.length) nc) hcalm hge H hM hρ h2 h1 h3 (fun cs e => by cases e) ((chg_drew_alloc w _).mono fun _ h => h.elim) (fun b hb => .inr ?_) ?_ ⟨_, _, _, _, Rho.set_same _ _ _, rfl⟩)
      · simp only [Loc.block] at hb; split at hb
        · cases hb
        · cases hb; simp
      · refine ⟨rfl, by simp, hnc, .inr ⟨_, 0, _, rfl, hrow, ?_, at_of_row hrow fun i v hv => ?_⟩⟩
        · simp only [Array.size_append, List.size_toArray, flat_length, hz, Nat.zero_add]
          rw [← Nat.add_mul, ← Nat.add_mul]
          exact Nat.mul_le_mul_right _ (by omega)
        · rw [flat_append] at hv
          rw [Nat.zero_add, ← Array.getElem?_toList]
          simp only [Array.toList_append]
          rw [List.getElem?_append_left (by have := (List.getElem?_eq_some_iff.mp hv).1; simpa using this)]
          exact hv
  · rename_i hx
    obtain ⟨m, h, hm⟩ := rowsK_sound h
    obtain ⟨hlim, h⟩ := capK_some h
    obtain ⟨hl0, h⟩ := newK_some h
    subst hd
    refine ⟨_, _, h, fun ρ F a w H hM hf hr N Q hN => ?_⟩
    obtain ⟨r1, r2⟩ := hrel ρ F a w hr
    rw [hx] at r1
    have e1 : a.eval x = .slice none 0 0 := r1
    have hsrc := hm ρ F w _ H r2
    have hρ := hf _ hl0 (newId_self _)
    unfold Oper.wp
    by_cases hm0 : m = []
    · subst hm0
      have hin := run_append_in (ty := o.type) A (base := none) (len := 0) (cap := 0) hsrc (by simp)
      rw [hrun a w _ _ (by rw [e1, hin]; rfl)]
      refine hN _ _ (ρ.set (idOf o) (.row τ none 0 0)) F (post_new H hM hl0 hρ (newId_self _) (idOf_ge o) (Chg.refl _ _) (fun b hb => by simp [Loc.block] at hb) ⟨rfl, rfl, Nat.le_refl _, .inl rfl⟩ ⟨_, _, _, _, Rho.set_same _ _ _, rfl⟩)
    · have hpos : 0 < m.length := List.length_pos_iff.mpr hm0
      obtain ⟨z, nc, hnc, hz, hout⟩ := run_append_out (ty := o.type) A (l := ([] : List τ.den)) (base := none) (cap := 0) ⟨none, 0, rfl, Nat.le_refl _, .inl rfl⟩ hsrc (by simp; omega) (by simpa using hlim)
      simp only [List.length_nil, Nat.zero_add] at hout hnc
      rw [hrun a w _ _ (by rw [e1]; exact hout)]
      have hrow := rowB_drew_alloc w ((flat τ []).toArray ++ (flat τ m).toArray ++ z) e
      refine hN _ _ _ F (post_rows H hM hl0 hρ (idOf_ge o) (chg_drew_alloc w _) (by simp) hrow hnc ?_ (at_of_row hrow fun i v hv => ?_))
      · simp only [Array.size_append, List.size_toArray, flat_length, hz, List.length_nil, Nat.zero_add, Nat.zero_mul]
        rw [← Nat.add_mul]
        exact Nat.mul_le_mul_right _ (by omega)
      · rw [Nat.zero_add, ← Array.getElem?_toList]
        simp only [Array.toList_append, flat_nil, List.nil_append]
        rw [List.getElem?_append_left (by have := (List.getElem?_eq_some_iff.mp hv).1; simpa using this)]
        exact hv
end Ev
