/- Operations that make blocks: variables, literals, makes, appends. -/
import Derived.Test.YtnoodoiehlcblaaOps4
set_option linter.unusedVariables false
set_option linter.unusedSimpArgs false
namespace Ev
open Go

theorem sv_plain_or_nils {ρ : Rho} {F : Nat → Prop} {w : World} {v : V} (h : zpB v = true) : RelC ρ F w v (sv v) := by
  unfold zpB at h
  rw [Bool.or_eq_true] at h
  rcases h with h | h
  · exact relB_C ((RelB.plain h).mpr rfl)
  · split at h
    · rfl
    · cases h
/-- A new variable that holds 'cs'. -/
theorem heapAt_box {ρ : Rho} {F : Nat → Prop} {w : World} {b : Nat} {arr : Array Value} {cs : List V} (hr : RowB w b arr) (hs : arr.size = cs.length)
    (h : ∀ (i : Nat) (v : V), cs[i]? = some v → ∃ c, arr[i]? = some c ∧ RelC ρ F w v c) : HeapAt ρ F w (.box b cs.length) (.box cs) := ⟨rfl, arr, hr, hs, h⟩
theorem alloc_ok {P : Program} {calm : Prop} {o : Oper} {s : St} {t dst : Nat} {ti : TI} (hT : TIok P t ti) (ho : o.op = .alloc t) (hd : idOf o = dst) (hl : look s.st dst = none) :
    OpOK P calm o s (.lptr dst 0) ⟨s.fr, (dst, .box ti.zero) :: s.st⟩ := by
  intro ρ F a w H hM hf hr N Q hN
  obtain ⟨z, hz, hc⟩ := run_zeroValue hT.zero w
  have hrun : (execOp a.eval o).run P w = .ok (.value (.pointer (some ⟨w.heap.size, 0, none⟩))) (w.alloc (.cells z.cells t)) := by
    simp [execOp, ho, Instr.alloc, hz, newVar, newRow]
  unfold Oper.wp
  rw [hrun]
  subst hd
  have hρ := hf _ hl (newId_self _)
  refine hN _ _ (ρ.set (idOf o) (.box w.heap.size ti.zero.length)) F (post_new H hM hl hρ (newId_self _) (idOf_ge o) (chg_alloc _ _) ?_ ?_ ?_)
  · intro b hb; simp [Loc.block] at hb; subst hb; simp
  · refine heapAt_box (rowB_alloc w _ _) (by rw [← Array.length_toList, hc]; simp) fun i v hv => ?_
    have hz := allB_get hT.zpure v (List.mem_of_getElem? hv)
    exact ⟨sv v, by rw [← Array.getElem?_toList, hc, List.getElem?_map, hv]; rfl, sv_plain_or_nils hz⟩
  · exact ⟨w.heap.size, ti.zero.length, Rho.set_same _ _ _, rfl⟩
theorem box_ok {P : Program} {calm : Prop} {o : Oper} {s : St} {t dst : Nat} {x : Operand} {v : V} (ho : o.op = .box t x) (hd : idOf o = dst) (hl : look s.st dst = none)
    (hv : opd s.fr x = v) (hu : v ≠ .undef) (ht : ∀ vs, v ≠ .tup vs) : OpOK P calm o s (.lptr dst 0) ⟨s.fr, (dst, .box v.cs) :: s.st⟩ := by
  intro ρ F a w H hM hf hr N Q hN
  have r : RelT ρ F w v (a.eval x) := hv ▸ opd_rel x fun t e => hr t (by simp [Reads, ho, Op.operands, e])
  obtain ⟨h1, h2⟩ := cs_rel hu ht r
  have hrun : (execOp a.eval o).run P w = .ok (.value (.pointer (some ⟨w.heap.size, 0, none⟩))) (w.alloc (.cells (a.eval x).cells t)) := by
    simp [execOp, ho, Instr.box, newVar, newRow]
  unfold Oper.wp
  rw [hrun]
  subst hd
  have hρ := hf _ hl (newId_self _)
  have E : Ext (fun _ => False) ρ F w (ρ.set (idOf o) (.box w.heap.size v.cs.length)) F (w.alloc (.cells (a.eval x).cells t)) :=
    ext_new hρ fun b hb => (chg_alloc w _).block b (H.stable b hb).1 (fun e => e)
  refine hN _ _ (ρ.set (idOf o) (.box w.heap.size v.cs.length)) F (post_new H hM hl hρ (newId_self _) (idOf_ge o) (chg_alloc _ _) ?_ ?_ ?_)
  · intro b hb; simp [Loc.block] at hb; subst hb; simp
  · refine heapAt_box (rowB_alloc w _ _) h1 fun i u hu => ?_
    obtain ⟨c, hc, r⟩ := h2 i u hu
    exact ⟨c, hc, RelC.ext0 E r⟩
  · exact ⟨w.heap.size, v.cs.length, Rho.set_same _ _ _, rfl⟩
/-- A new slice with rows 'l'. -/
theorem post_rows {calm : Prop} {dst : Nat} {ρ : Rho} {F : Nat → Prop} {s : St} {w w' : World} {τ : Ty} {l : List τ.den} {arr : Array Value} {cap : Nat}
    (H : Core ρ F s.st w) (hM : ∀ b, ρ.M b → b < w.heap.size) (hl : look s.st dst = none) (hρ : ρ dst = none) (hge : 100 ≤ dst) (hw : Chg (fun _ => False) w w') (hsz : w.heap.size < w'.heap.size)
    (hr : RowB w' w.heap.size arr) (hcap : l.length ≤ cap) (hs : cap * τ.width ≤ arr.size) (hat : At w' w.heap.size 0 (flat τ l)) :
    Post calm dst ρ F s w (.own dst) ⟨s.fr, (dst, .rows τ l) :: s.st⟩ (ρ.set dst (.row τ (some ⟨w.heap.size, 0, none⟩) l.length cap)) F w' (.slice (some ⟨w.heap.size, 0, none⟩) l.length cap) := by
  refine post_new H hM hl hρ (newId_self _) hge hw ?_ ?_ ?_
  · intro b hb
    simp only [Loc.block] at hb
    split at hb
    · cases hb
    · cases hb; exact ⟨Nat.le_refl _, hsz⟩
  · exact ⟨rfl, rfl, hcap, .inr ⟨_, 0, arr, rfl, hr, by simpa using hs, hat⟩⟩
  · exact ⟨τ, _, _, _, Rho.set_same _ _ _, rfl⟩
theorem flat_replicate (τ : Ty) (d : τ.den) : ∀ (n i : Nat), i < n * τ.width → (flat τ (List.replicate n d))[i]? = ((τ.cells d).map sv)[i % τ.width]?
  | 0, i, h => by simp at h
  | n + 1, i, h => by
    rw [List.replicate_succ, flat_cons]
    have hw := width_pos τ
    by_cases hi : i < τ.width
    · rw [List.getElem?_append_left (by simp [cells_length]; exact hi), Nat.mod_eq_of_lt hi]
    · rw [List.getElem?_append_right (by simp [cells_length]; omega)]
      simp only [List.length_map, cells_length]
      rw [flat_replicate τ d n (i - τ.width) (by rw [Nat.succ_mul] at h; omega)]
      congr 1
      rw [← Nat.mod_eq_sub_mod (by omega)]
theorem madeCells_flat {τ : Ty} {z : Array Value} (hz : z.toList = (τ.cells τ.zero).map sv) (n : Nat) : (madeCells z (n * τ.width)).toList = flat τ (List.replicate n τ.zero) := by
  have hsz : z.size = τ.width := by rw [← Array.length_toList, hz]; simp [cells_length]
  refine List.ext_getElem? fun i => ?_
  have hw := width_pos τ
  by_cases hi : i < n * τ.width
  · rw [flat_replicate τ τ.zero n i hi, ← hz]
    have : i % τ.width < z.size := by rw [hsz]; exact Nat.mod_lt _ hw
    simp [madeCells, hi, hsz, getElem!_def, Array.getElem?_eq_getElem this]
  · rw [List.getElem?_eq_none (by simp [madeCells]; omega), List.getElem?_eq_none (by rw [flat_length]; simp; omega)]
theorem at_of_row {w : World} {b s : Nat} {arr : Array Value} {vs : List Value} (h : RowB w b arr) (hv : ∀ i v, vs[i]? = some v → arr[s + i]? = some v) : At w b s vs :=
  fun i v hi => by rw [cell_row h]; exact hv i v hi
theorem capK_some {R : Type} {n : Nat} {K : Option R} {r : R} (h : capK n K = some r) : n ≤ lim ∧ K = some r := by
  unfold capK at h; split at h
  · exact ⟨by assumption, h⟩
  · cases h
theorem makeSlice_ok {P : Program} {calm : Prop} {o : Oper} {s : St} {t dst : Nat} {l c : Operand} {τ : Ty} {ti : TI} {n : Int} (hT : TIok P t ti) (hk : ti.kind = .sl τ) (ho : o.op = .makeSlice t l c)
    (hd : idOf o = dst) (hl : look s.st dst = none) (hn : opd s.fr l = .int .i64 n) (hlc : sameO l c = true) (h0 : 0 ≤ n) (hlim : n.toNat ≤ lim) :
    OpOK P calm o s (.own dst) ⟨s.fr, (dst, .rows τ (List.replicate n.toNat τ.zero)) :: s.st⟩ := by
  intro ρ F a w H hM hf hr N Q hN
  obtain ⟨e, hde, ⟨i, hi, hsize⟩, ⟨i', z, hi', hz, hzc⟩, _, ⟨i'', hi'', hb⟩, _⟩ := kind_sl hT hk
  rw [hi] at hi' hi''; cases hi'; cases hi''
  have e1 : a.eval l = .int .i64 n := by
    have := opd_rel (ρ := ρ) (F := F) (w := w) (fr := s.fr) (a := a) l fun t e => hr t (by simp [Reads, ho, Op.operands, e])
    rw [hn] at this; exact this
  have e2 : ∃ k, a.eval c = .int k n := by
    unfold sameO at hlc
    split at hlc
    · have := Nat.eq_of_beq_eq_true hlc; subst this; exact ⟨_, e1⟩
    · rename_i k1 x k2 y
      have : x = y := of_decide_eq_true hlc
      subst this
      simp [Act.eval] at e1
      exact ⟨k2, by simp [Act.eval, e1.2]⟩
    · cases hlc
  obtain ⟨k, e2⟩ := e2
  have hlim' : n ≤ 1099511627776 := by unfold lim at hlim; omega
  have hrun := run_make (P := P) w t e i z hde hi hz .i64 k n n h0 (Int.le_refl _) (by
    have : (i.bytes : Int) ≤ 128 := by omega
    have h1 : (i.bytes : Int) * n ≤ 128 * n := Int.mul_le_mul_of_nonneg_right this h0
    omega) (by omega)
  have hrun' : (execOp a.eval o).run P w = .ok (.value (.slice (some ⟨w.heap.size, 0, none⟩) n.toNat n.toNat)) (w.alloc (.cells (madeCells z.cells (n.toNat * i.size)) e)) := by
    simp [execOp, ho, e1, e2, hrun]
  unfold Oper.wp
  rw [hrun']
  subst hd
  have hρ := hf _ hl (newId_self _)
  rw [hsize]
  have hm := madeCells_flat (τ := τ) hzc n.toNat
  have hrow := rowB_alloc w (madeCells z.cells (n.toNat * τ.width)) e
  have P1 := post_rows (calm := calm) (dst := idOf o) (s := s) (l := List.replicate n.toNat τ.zero) (cap := n.toNat) H hM hl hρ (idOf_ge o) (chg_alloc w (.cells (madeCells z.cells (n.toNat * τ.width)) e)) (by simp) hrow (by simp) (by simp [size_madeCells])
    (at_of_row hrow fun i v hv => by rw [← hm, Array.getElem?_toList] at hv; simpa using hv)
  rw [List.length_replicate] at P1
  exact hN _ _ _ F P1

/-! ### Literals -/
theorem lay_foldl : ∀ (vs : List Value) (off k : Nat) (cs : Array Value) (i : Nat), off + k + vs.length ≤ cs.size →
    ((vs.zipIdx k).foldl (fun cs (x : Value × Nat) => cs.setIfInBounds (off + x.2) x.1) cs)[i]? = if off + k ≤ i ∧ i < off + k + vs.length then vs[i - (off + k)]? else cs[i]?
  | [], off, k, cs, i, h => by simp; omega
  | v :: vs, off, k, cs, i, h => by
    simp only [List.length_cons] at h
    rw [List.zipIdx_cons, List.foldl_cons]
    simp only []
    have ih := lay_foldl vs off (k + 1) (cs.setIfInBounds (off + k) v) i (by simp; omega)
    simp only [← Nat.add_assoc] at ih ⊢
    rw [ih]
    by_cases h1 : i = off + k
    · subst h1
      rw [if_neg (by omega), if_pos (by simp), Nat.sub_self]
      simp [Array.getElem?_setIfInBounds, show off + k < cs.size by omega]
    · by_cases h2 : off + k + 1 ≤ i ∧ i < off + k + 1 + vs.length
      · rw [if_pos h2, if_pos (by simp; omega), show i - (off + k) = (i - (off + k + 1)) + 1 by omega, List.getElem?_cons_succ]
      · rw [if_neg h2, if_neg (by simp; omega), Array.getElem?_setIfInBounds_ne (by omega)]
theorem lay_size : ∀ (vs : List Value) (off k : Nat) (cs : Array Value), ((vs.zipIdx k).foldl (fun cs (x : Value × Nat) => cs.setIfInBounds (off + x.2) x.1) cs).size = cs.size
  | [], _, _, _ => rfl
  | v :: vs, off, k, cs => by
    rw [List.zipIdx_cons, List.foldl_cons]
    rw [lay_size vs off (k + 1)]; simp
theorem fill_step {place : Nat → Option (Nat × Nat)} {cells : Array Value} {i off size : Nat} {v : Value} {rest : List (Nat × Value)} (hp : place i = some (off, size)) (h1 : v.cells.size = size) (h2 : off + size ≤ cells.size) :
    ∃ cells' : Array Value, Instr.fill place cells ((i, v) :: rest) = Instr.fill place cells' rest ∧ cells'.size = cells.size ∧
      ∀ j : Nat, cells'[j]? = if off ≤ j ∧ j < off + size then v.cells[j - off]? else cells[j]? := by
  refine ⟨v.cells.zipIdx.foldl (fun cs (c, j) => cs.setIfInBounds (off + j) c) cells, ?_, ?_, fun j => ?_⟩
  · simp only [Instr.fill, hp]
    rw [if_neg (by simp [h1]; omega)]
  · rw [← Array.foldl_toList, Array.toList_zipIdx]
    exact lay_size v.cells.toList off 0 cells
  · rw [← Array.foldl_toList, Array.toList_zipIdx]
    have := lay_foldl v.cells.toList off 0 cells j (by simp; omega)
    simp only [Nat.add_zero, Array.length_toList, Array.getElem?_toList, h1] at this
    exact this
end Ev
