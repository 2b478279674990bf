/- Stores; literals of slices; parts of slices; conversions. -/
import Derived.Test.YtnoodoiehlcblaaOps9
set_option linter.unusedVariables false
set_option linter.unusedSimpArgs false
namespace Ev
open Go

theorem flat_get (t : Ty) : ∀ (l : List t.den) (k : Nat), (flat t l)[k]? = (l[k / t.width]?).bind fun d => ((t.cells d).map sv)[k % t.width]?
  | [], k => by simp [flat_nil]
  | d :: l, k => by
    have hw := width_pos t
    rw [flat_cons]
    by_cases hk : k < t.width
    · rw [List.getElem?_append_left (by simp [cells_length]; exact hk), Nat.div_eq_of_lt hk, Nat.mod_eq_of_lt hk]; rfl
    · have hlen : ((t.cells d).map sv).length = t.width := by simp [cells_length]
      rw [List.getElem?_append_right (by omega), hlen, flat_get t l]
      have h1 : k / t.width = (k - t.width) / t.width + 1 := by
        rw [Nat.div_eq_sub_div hw (by omega)]
      have h2 : k % t.width = (k - t.width) % t.width := by
        rw [Nat.mod_eq_sub_mod (by omega)]
      rw [h1, h2, List.getElem?_cons_succ]
theorem run_storeVar {P : Program} {t n : Nat} (hs : SizeOf P t n) {c : Value} (hc : c.cells.size = n) {w w' : World} {b off : Nat} (h : (storeCells ⟨b, off, none⟩ c.cells.toList).run P w = .ok () w') :
    (Instr.storeAt t (.pointer (some ⟨b, off, none⟩)) c).run P w = .ok () w' := by
  simp [Instr.storeAt, Instr.sureAddr, storeVar, Sem.run_bind, run_sizeOf hs, hc, h]
theorem store_ok {P : Program} {calm : Prop} {o : Oper} {s : St} {t : Nat} {ti : TI} {x y : Operand} {R : Type} {K : Store → Option R} {r : R} (hcalm : ¬ calm) (hs : SizeOf P t ti.size)
    (ho : o.op = .store t x y) (h : storeP ti s.st (opd s.fr x) (opd s.fr y) K = some r) : ∃ st', K st' = some r ∧ OpOK P calm o s (.tup []) ⟨s.fr, st'⟩ := by
  unfold storeP at h
  cases hb : (Nat.beq ti.size (opd s.fr y).cs.length && allB V.solid (opd s.fr y).cs) <;> simp only [hb, cond_true, cond_false] at h
  · cases h
  rw [Bool.and_eq_true] at hb
  have hsz := Nat.eq_of_beq_eq_true hb.1
  have hsol := allB_get hb.2
  have hu : opd s.fr y ≠ .undef := fun e => by rw [e] at hsol; have := hsol .undef (by simp [V.cs]); cases this
  have ht : ∀ vs, opd s.fr y ≠ .tup vs := fun vs e => by rw [e] at hsol; have := hsol (.tup vs) (by simp [V.cs]); cases this
  have hrel : ∀ (ρ : Rho) (F : Nat → Prop) (a : Act) (w : World), (∀ t, Reads o t → RelT ρ F w (get s.fr t) (a.tmps.getD t undef)) → RelT ρ F w (opd s.fr x) (a.eval x) ∧ RelT ρ F w (opd s.fr y) (a.eval y) :=
    fun ρ F a w hr => ⟨opd_rel x fun t e => hr t (by simp [Reads, ho, Op.operands, e]), opd_rel y fun t e => hr t (by simp [Reads, ho, Op.operands, e])⟩
  have hrun : ∀ (a : Act) (w w' : World), (Instr.storeAt t (a.eval x) (a.eval y)).run P w = .ok () w' → (execOp a.eval o).run P w = .ok .skip w' := by
    intro a w w' hh
    simp [execOp, ho, Sem.run_bind, hh]
  split at h
  · rename_i id off hx
    split at h <;> try (cases h; done)
    rename_i cs hl
    obtain ⟨cs', h, g1, g2, g3⟩ := layK_some h
    obtain ⟨st', h, h1, ⟨b0, h2⟩, h3⟩ := updK_some h
    refine ⟨_, h, fun ρ F a w H hM hf hr N Q hN => ?_⟩
    obtain ⟨r1, r2⟩ := hrel ρ F a w hr
    rw [hx] at r1
    obtain ⟨b, n, hρ, e1⟩ := r1
    obtain ⟨c1, c2⟩ := cs_rel hu ht r2
    obtain ⟨hn, arr, hrow, harr, hcells⟩ := H.heap id _ _ hρ hl
    obtain ⟨w', arr', k1, k2, k3, k4, k5, k6⟩ := run_storeCells_row (P := P) (a.eval y).cells.toList w arr off 0 hrow (by simp; omega) (fun u hu' => by
      obtain ⟨i, hi⟩ := List.getElem?_of_mem hu'
      have hi' : i < (opd s.fr y).cs.length := by have := (List.getElem?_eq_some_iff.mp hi).1; simp at this; omega
      obtain ⟨c, hc, rr⟩ := c2 i _ (List.getElem?_eq_getElem hi')
      rw [Array.getElem?_toList, hc] at hi; cases hi
      exact solid_one (hsol _ (List.getElem_mem hi')) rr)
    unfold Oper.wp
    rw [hrun a w w' (by rw [e1]; exact run_storeVar hs (by omega) k1)]
    refine hN undef w' ρ F (post_set (v := .tup []) hcalm H hM hρ h2 h1 h3 (k2.mono fun x e => by rw [e]; rfl) ⟨by omega, arr', k4, by omega, fun i v hv => ?_⟩ ⟨#[], rfl, rfl, fun i v hv => by simp at hv⟩)
    have E : Ext (fun _ => False) ρ F w ρ F w' := ⟨fun i l _ h => h, fun _ h => h, fun b' hF => k2.block b' (H.stable b' hF).1 fun e => (H.stable b' hF).2 ⟨id, _, hρ, by rw [e]; rfl⟩⟩
    rw [g3] at hv
    rw [k6]
    simp only [Nat.add_zero, Array.length_toList, c1]
    by_cases hi : off ≤ i ∧ i < off + (opd s.fr y).cs.length
    · rw [if_pos hi] at hv ⊢
      obtain ⟨c, hc, rr⟩ := c2 _ v hv
      exact ⟨c, by rw [Array.getElem?_toList]; exact hc, RelC.ext0 E rr⟩
    · rw [if_neg hi] at hv ⊢
      obtain ⟨c, hc, rr⟩ := hcells _ v hv
      exact ⟨c, hc, RelC.ext0 E rr⟩
  · rename_i id row col hx
    split at h <;> try (cases h; done)
    rename_i t' l hl
    rw [Option.bind_eq_some_iff] at h
    obtain ⟨d, hd, h⟩ := h
    obtain ⟨cs', h, g1, g2, g3⟩ := layK_some h
    split at h <;> try (cases h; done)
    rename_i d' hd'
    have hcd := ofCells_cells hd'
    obtain ⟨st', h, h1, ⟨b0, h2⟩, h3⟩ := updK_some h
    refine ⟨_, h, fun ρ F a w H hM hf hr N Q hN => ?_⟩
    obtain ⟨r1, r2⟩ := hrel ρ F a w hr
    rw [hx] at r1
    obtain ⟨t0, b, sft, len, cap, hρ, hrl, e1⟩ := r1
    obtain ⟨c1, c2⟩ := cs_rel hu ht r2
    have hH := H.heap id _ _ hρ hl
    obtain ⟨rfl, hlen, hcap, hh⟩ := hH
    rw [cells_length] at g1
    have hxp : ∀ v ∈ (opd s.fr y).cs, v.plain = true := by
      intro v hv
      obtain ⟨i, hi⟩ := List.getElem?_of_mem hv
      have hi' := (List.getElem?_eq_some_iff.mp hi).1
      have : cs'[col + i]? = some v := by rw [g3, if_pos (by omega), show col + i - col = i by omega]; exact hi
      exact cells_plain t' d' v (hcd ▸ List.mem_of_getElem? this)
    have hcc := plain_cells_rel hxp r2
    have hw0 := width_pos t'
    rcases hh with h0 | ⟨b', s', arr, e, hrow, hfit, hat⟩
    · omega
    · cases e
      have hin : (row + 1) * t'.width ≤ cap * t'.width := Nat.mul_le_mul_right _ (by omega)
      rw [Nat.succ_mul] at hin
      obtain ⟨w', arr', k1, k2, k3, k4, k5, k6⟩ := run_storeCells_row (P := P) (a.eval y).cells.toList w arr (sft + (row * t'.width + col)) 0 hrow (by simp; omega) (fun u hu' => by
        rw [hcc, List.mem_map] at hu'
        obtain ⟨v, hv, rfl⟩ := hu'
        exact sv_one (hxp v hv))
      unfold Oper.wp
      rw [hrun a w w' (by rw [e1]; exact run_storeVar hs (by omega) k1)]
      have hblk : (Loc.row t' (some ⟨b, sft, none⟩) len cap).block = some b := by simp [Loc.block]; omega
      refine hN undef w' ρ F (post_set (v := .tup []) hcalm H hM hρ h2 h1 h3 (k2.mono fun x e => by rw [e]; exact hblk) ⟨rfl, by simpa using hlen, hcap, .inr ⟨b, sft, arr', rfl, k4, by rw [k5]; exact hfit, ?_⟩⟩ ⟨#[], rfl, rfl, fun i v hv => by simp at hv⟩)
      refine at_of_row k4 fun i v hv => ?_
      simp only [Nat.add_zero, Array.length_toList, c1] at k6
      rw [k6]
      rw [flat_get] at hv
      have hmod := Nat.mod_lt i hw0
      have hdm := Nat.div_add_mod i t'.width
      rw [Nat.mul_comm] at hdm
      by_cases hir : i / t'.width = row
      · rw [hir, List.getElem?_set_self (List.getElem?_eq_some_iff.mp hd).1] at hv
        simp only [Option.bind_some] at hv
        rw [hcd, List.getElem?_map, g3] at hv
        rw [hir] at hdm
        by_cases hj : col ≤ i % t'.width ∧ i % t'.width < col + (opd s.fr y).cs.length
        · rw [if_pos hj] at hv
          rw [if_pos (by omega), hcc, List.getElem?_map, ← hv]
          congr 2; omega
        · rw [if_neg hj] at hv
          rw [if_neg (by omega)]
          have := hat i v (by rw [flat_get, hir, hd]; simpa using hv)
          rw [cell_row hrow] at this; exact this
      · rw [List.getElem?_set_ne (Ne.symm hir)] at hv
        have h5 := hat i v (by rw [flat_get]; exact hv)
        rw [cell_row hrow] at h5
        rw [if_neg ?_]; exact h5
        intro hc
        have g1' : col + (opd s.fr y).cs.length ≤ t'.width := g1
        have e1 : row ≤ i / t'.width := by rw [Nat.le_div_iff_mul_le hw0]; omega
        have e2 : i / t'.width < row + 1 := by rw [Nat.div_lt_iff_lt_mul hw0, Nat.succ_mul]; omega
        omega
  · cases h
theorem buildSlice_ok {P : Program} {calm : Prop} {o : Oper} {s : St} {t n dst : Nat} {ti : TI} {τ : Ty} {ps : Array (Nat × Operand)} {R : Type} {K : V → St → Option R} {r : R} (hT : TIok P t ti) (hk : ti.kind = .sl τ)
    (ho : o.op = .buildSlice t n ps) (hd : idOf o = dst) (hn : n * τ.width ≤ 16777216)
    (h : litK τ n 0 (partsV s.fr ps.toList) (fun l => newK s.st dst (.rows τ l) fun st => K (.own dst) ⟨s.fr, st⟩) = some r) : ∃ v s', K v s' = some r ∧ OpOK P calm o s v s' := by
  obtain ⟨e, hde, hE⟩ := kind_sl hT hk
  obtain ⟨l, h, hlen, hfill⟩ := litK_sound h
  obtain ⟨hl0, h⟩ := newK_some h
  subst hd
  refine ⟨_, _, h, fun ρ F a w H hM hf hr N Q hN => ?_⟩
  have hρ := hf _ hl0 (newId_self _)
  obtain ⟨hs, hz, _⟩ := hE
  obtain ⟨z, hzr, hzc⟩ := run_zeroValue hz w
  have hm := madeCells_flat (τ := τ) hzc n
  obtain ⟨ca', hf', hc'⟩ := hfill ρ F w [] (madeCells z.cells (n * τ.width)) (ps.toList.map fun x => (x.1, a.eval x.2)) (by simp) (by rw [hm]; rfl) (by simp [partsV]) (fun i j v hv => by
    obtain ⟨x, hx, rfl⟩ := partsV_get hv
    refine ⟨a.eval x, by simp [hx], opd_rel x fun t e => hr t ?_⟩
    simp only [Reads, ho, Op.operands]
    rw [← e]
    have := List.mem_of_getElem? (show ps.toList[i]? = some (j, x) by simpa using hx)
    simp only [List.mem_toArray, List.mem_map]
    exact ⟨_, this, rfl⟩)
  have hrun : (execOp a.eval o).run P w = .ok (.value (.slice (some ⟨w.heap.size, 0, none⟩) n n)) (w.alloc (.cells ca' e)) := by
    have h24 : ¬ (16777216 < n * τ.width) := by omega
    by_cases h0 : n * τ.width = 0
    · have : madeCells z.cells (n * τ.width) = #[] := by rw [h0]; simp [madeCells, Array.range_zero']
      rw [this] at hf'
      simp [execOp, ho, Instr.buildSlice, Sem.run_bind, run_underlying hde, run_sizeOf hs, h24, h0, hf', newRow, Array.range_zero']
    · simp only [madeCells] at hf'
      simp [execOp, ho, Instr.buildSlice, Sem.run_bind, run_underlying hde, run_sizeOf hs, h24, h0, hzr, hf', newRow]
  unfold Oper.wp
  rw [hrun]
  have hrow := rowB_alloc w ca' e
  have P1 := post_rows (calm := calm) (dst := idOf o) (s := s) (l := l) (cap := n) H hM hl0 hρ (idOf_ge o) (chg_alloc w (.cells ca' e)) (by simp) hrow (by omega) (by
    rw [← Array.length_toList, hc']; simp [flat_length, hlen]) (at_of_row hrow fun i v hv => by rw [Nat.zero_add, ← Array.getElem?_toList, hc']; simpa using hv)
  rw [hlen] at P1
  exact hN _ _ _ F P1
end Ev
