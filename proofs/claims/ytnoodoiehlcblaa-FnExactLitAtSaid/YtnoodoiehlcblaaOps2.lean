/- Operations that read: loads, fields, elements, lengths, parts. -/
import Derived.Test.YtnoodoiehlcblaaOps1
import Derived.Deep.Slices
set_option linter.unusedVariables false
set_option linter.unusedSimpArgs false
namespace Ev
open Go

theorem takeK_some {R : Type} : ∀ {n : Nat} {cs : List V} {K : List V → Option R} {r : R}, takeK n cs K = some r → n ≤ cs.length ∧ K (cs.take n) = some r
  | 0, cs, K, r, h => ⟨Nat.zero_le _, h⟩
  | n + 1, [], K, r, h => by simp [takeK] at h
  | n + 1, x :: xs, K, r, h => by
    obtain ⟨h1, h2⟩ := takeK_some (n := n) h
    exact ⟨by simpa using h1, h2⟩
theorem dropK_some {R : Type} : ∀ {n : Nat} {cs : List V} {K : List V → Option R} {r : R}, dropK n cs K = some r → n ≤ cs.length ∧ K (cs.drop n) = some r
  | 0, cs, K, r, h => ⟨Nat.zero_le _, h⟩
  | n + 1, [], K, r, h => by simp [dropK] at h
  | n + 1, x :: xs, K, r, h => by
    obtain ⟨h1, h2⟩ := dropK_some (n := n) h
    exact ⟨by simpa using h1, h2⟩
theorem relC_T {ρ : Rho} {F : Nat → Prop} {w : World} {v : V} {c : Value} (h : RelC ρ F w v c) : RelT ρ F w v c := by
  cases v <;> first | exact h | exact h.elim
theorem relB_C {ρ : Rho} {F : Nat → Prop} {w : World} {v : V} {c : Value} (h : RelB ρ F w v c) : RelC ρ F w v c := by
  cases v <;> first | exact h | exact h.elim
theorem relA_T {ρ : Rho} {F : Nat → Prop} {w : World} {v : V} {c : Value} (h : RelA ρ F w v c) : RelT ρ F w v c := by
  cases v <;> first | exact h | exact h.elim
/-- Cells of block 'b' from 's' on that 'cs' stands for. -/
def CellsAt (ρ : Rho) (F : Nat → Prop) (w : World) (b s : Nat) (cs : List V) : Prop :=
  ∀ (i : Nat) (v : V), cs[i]? = some v → ∃ c, w.cell? ⟨b, s + i, none⟩ = some c ∧ RelC ρ F w v c
theorem CellsAt.of_at {ρ : Rho} {F : Nat → Prop} {w : World} {b s : Nat} {cs : List V} (hp : ∀ v ∈ cs, v.plain = true) (h : At w b s (cs.map sv)) : CellsAt ρ F w b s cs := by
  intro i v hv
  refine ⟨sv v, h i _ (by simp [hv]), relB_C ((RelB.plain (hp v (List.mem_of_getElem? hv))).mpr rfl)⟩
theorem CellsAt.drop {ρ : Rho} {F : Nat → Prop} {w : World} {b s n : Nat} {cs : List V} (h : CellsAt ρ F w b s cs) : CellsAt ρ F w b (s + n) (cs.drop n) := by
  intro i v hv
  obtain ⟨c, hc, r⟩ := h (n + i) v (by simpa using hv)
  exact ⟨c, by rw [← hc, Nat.add_assoc], r⟩
theorem cells_plain (t : Ty) (d : t.den) : ∀ v ∈ t.cells d, v.plain = true := by
  cases t <;> simp [Ty.cells, V.plain]
theorem cells_length (t : Ty) (d : t.den) : (t.cells d).length = t.width := by
  cases t <;> rfl
theorem width_pos (t : Ty) : 0 < t.width := by cases t <;> decide
theorem flat_nil (t : Ty) : flat t [] = [] := rfl
theorem flat_cons (t : Ty) (d : t.den) (l : List t.den) : flat t (d :: l) = (t.cells d).map sv ++ flat t l := rfl
theorem flat_append (t : Ty) (l m : List t.den) : flat t (l ++ m) = flat t l ++ flat t m := by simp [flat]
theorem flat_length (t : Ty) (l : List t.den) : (flat t l).length = l.length * t.width := by
  induction l with
  | nil => simp [flat_nil]
  | cons d l ih => rw [flat_cons, List.length_append, ih, List.length_map, cells_length, List.length_cons, Nat.succ_mul, Nat.add_comm]
/-- The cells of row number 'i'. -/
theorem flat_row (t : Ty) : ∀ (l : List t.den) (i : Nat) (d : t.den), l[i]? = some d → ∀ j v, ((t.cells d).map sv)[j]? = some v → (flat t l)[i * t.width + j]? = some v
  | [], i, d, h, _, _, _ => by simp at h
  | x :: l, 0, d, h, j, v, hv => by
    simp at h; subst h
    have : j < ((t.cells x).map sv).length := (List.getElem?_eq_some_iff.mp hv).1
    rw [flat_cons, Nat.zero_mul, Nat.zero_add, List.getElem?_append_left this]; exact hv
  | x :: l, i + 1, d, h, j, v, hv => by
    have ih := flat_row t l i d (by simpa using h) j v hv
    rw [flat_cons, List.getElem?_append_right (by simp [cells_length, Nat.succ_mul]; omega)]
    rw [← ih]; congr 1
    simp [cells_length, Nat.succ_mul]; omega
theorem At.row {w : World} {b s : Nat} {t : Ty} {l : List t.den} (h : At w b s (flat t l)) {i : Nat} {d : t.den} (hd : l[i]? = some d) :
    At w b (s + i * t.width) ((t.cells d).map sv) := by
  intro j v hv
  have := h _ _ (flat_row t l i d hd j v hv)
  rw [← this, Nat.add_assoc]
theorem At.append {w : World} {b s : Nat} {xs ys : List Value} (h : At w b s (xs ++ ys)) : At w b s xs ∧ At w b (s + xs.length) ys := by
  refine ⟨fun i v hv => h i v ?_, fun i v hv => ?_⟩
  · rw [List.getElem?_append_left (List.getElem?_eq_some_iff.mp hv).1]; exact hv
  · have := h (xs.length + i) v (by rw [List.getElem?_append_right (by omega)]; simpa using hv)
    rw [← this, Nat.add_assoc]
theorem At.join {w : World} {b s : Nat} {xs ys : List Value} (h : At w b s xs) (k : At w b (s + xs.length) ys) : At w b s (xs ++ ys) := by
  intro i v hv
  by_cases hi : i < xs.length
  · rw [List.getElem?_append_left hi] at hv; exact h i v hv
  · rw [List.getElem?_append_right (by omega)] at hv
    have := k _ v hv
    rw [← this]; congr 2; omega
theorem flat_take_drop (t : Ty) (l : List t.den) (n : Nat) : flat t l = flat t (l.take n) ++ flat t (l.drop n) := by rw [← flat_append, List.take_append_drop]
theorem At.take {w : World} {b s : Nat} {t : Ty} {l : List t.den} (h : At w b s (flat t l)) (n : Nat) : At w b s (flat t (l.take n)) := by
  rw [flat_take_drop t l n] at h; exact h.append.1
theorem At.drop {w : World} {b s : Nat} {t : Ty} {l : List t.den} (h : At w b s (flat t l)) {n : Nat} (hn : n ≤ l.length) : At w b (s + n * t.width) (flat t (l.drop n)) := by
  rw [flat_take_drop t l n] at h
  have := h.append.2
  rwa [flat_length, List.length_take, Nat.min_eq_left hn] at this

/-! ### Loads -/
theorem run_isAgg {P : Program} {t : Nat} {b : Bool} (h : IsAgg P t b) (w : World) : (isAgg t).run P w = .ok b w := by
  obtain ⟨d, hd, rfl⟩ := h
  simp only [isAgg, Sem.run_bind, run_underlying hd, Result.andThen_ok]
  cases d <;> rfl
theorem run_sizeOf {P : Program} {t n : Nat} (h : SizeOf P t n) (w : World) : (Go.sizeOf t).run P w = .ok n w := by
  obtain ⟨i, hi, rfl⟩ := h
  simp [Go.sizeOf, typeInfo, hi]
theorem run_zeroValue {P : Program} {t : Nat} {vs : List Value} (h : ZeroOf P t vs) (w : World) : ∃ z, (zeroValue t).run P w = .ok z w ∧ z.cells.toList = vs := by
  obtain ⟨i, z, hi, hz, e⟩ := h
  exact ⟨z, by simp [zeroValue, typeInfo, hi, hz], e⟩
theorem run_loadVar_agg {P : Program} {t n : Nat} (hs : SizeOf P t n) (ha : IsAgg P t true) {w : World} {b s : Nat} {cs : List Value} (hl : cs.length = n)
    (h : At w b s cs) : (loadVar t ⟨b, s, none⟩).run P w = .ok (.agg cs.toArray) w := by
  have := run_loadCells_list (P := P) (w := w) ⟨b, s, none⟩ cs (fun j v hv => by rw [addr_add]; exact h j v hv)
  simp only [loadVar, Sem.run_bind, run_isAgg ha, Result.andThen_ok, if_true, run_sizeOf hs, ← hl, this, Sem.run_pure]
theorem run_loadVar_one {P : Program} {t : Nat} (ha : IsAgg P t false) {w : World} {b s : Nat} {c : Value} (h : w.cell? ⟨b, s, none⟩ = some c) :
    (loadVar t ⟨b, s, none⟩).run P w = .ok c w := by
  simp [loadVar, Sem.run_bind, run_isAgg ha, h]
theorem CellsAt.values {ρ : Rho} {F : Nat → Prop} {w : World} {b : Nat} : ∀ {cs : List V} {s : Nat}, CellsAt ρ F w b s cs →
    ∃ vs : List Value, vs.length = cs.length ∧ At w b s vs ∧ ∀ (i : Nat) (v : V), cs[i]? = some v → ∃ c, vs[i]? = some c ∧ RelC ρ F w v c
  | [], s, _ => ⟨[], rfl, fun i v hv => by simp at hv, fun i v hv => by simp at hv⟩
  | x :: cs, s, h => by
    obtain ⟨vs, hl, hat, hr⟩ := CellsAt.values (h.drop (n := 1) : CellsAt ρ F w b (s + 1) cs)
    obtain ⟨c, hc, r⟩ := h 0 x rfl
    refine ⟨c :: vs, by simp [hl], ?_, ?_⟩
    · intro i v hv
      cases i with
      | zero => simp at hv; subst hv; exact hc
      | succ i => have := hat i v (by simpa using hv); rw [← this]; congr 2; omega
    · intro i v hv
      cases i with
      | zero => simp at hv; subst hv; exact ⟨c, rfl, r⟩
      | succ i => simpa using hr i v (by simpa using hv)
theorem loadK_sound {R : Type} {P : Program} {t : Nat} {ti : TI} (hs : SizeOf P t ti.size) (ha : IsAgg P t ti.agg) {cs : List V} {K : V → Option R} {r : R} (h : loadK ti cs K = some r) :
    ∃ v, K v = some r ∧ ∀ ρ F w b s, CellsAt ρ F w b s cs → ∃ c, (loadVar t ⟨b, s, none⟩).run P w = .ok c w ∧ RelT ρ F w v c := by
  unfold loadK at h
  cases hg : ti.agg with
  | true =>
    simp only [hg] at h ha
    obtain ⟨hl, h⟩ := takeK_some h
    refine ⟨_, h, fun ρ F w b s hc => ?_⟩
    obtain ⟨vs, hvl, hat, hr⟩ := hc.values
    refine ⟨_, run_loadVar_agg hs ha (cs := vs.take ti.size) (by simp; omega) (fun i v hv => hat i v ?_), _, rfl, by simp; omega, fun i v hv => ?_⟩
    · rw [List.getElem?_take] at hv; split at hv
      · exact hv
      · cases hv
    · rw [List.getElem?_take] at hv; split at hv
      · rename_i hi
        obtain ⟨c, hc, r⟩ := hr i v hv
        exact ⟨c, by simp [List.getElem?_take, hi, hc], r⟩
      · cases hv
  | false =>
    simp only [hg] at h ha
    split at h
    · rename_i v cs'
      refine ⟨v, h, fun ρ F w b s hc => ?_⟩
      obtain ⟨c, hcell, r⟩ := hc 0 v rfl
      exact ⟨c, run_loadVar_one ha hcell, relC_T r⟩
    · cases h
theorem box_cells {ρ : Rho} {F : Nat → Prop} {st : Store} {w : World} (H : Core ρ F st w) {id b n : Nat} {cs : List V} (hρ : ρ id = some (.box b n)) (hl : look st id = some (.box cs)) :
    CellsAt ρ F w b 0 cs := by
  obtain ⟨_, arr, hr, _, h⟩ := H.heap id _ _ hρ hl
  intro i v hv
  obtain ⟨c, hc, r⟩ := h i v hv
  exact ⟨c, by rw [Nat.zero_add, cell_row hr]; exact hc, r⟩
theorem row_at {ρ : Rho} {F : Nat → Prop} {st : Store} {w : World} (H : Core ρ F st w) {id len cap : Nat} {t t' : Ty} {a : Option Addr} {l : List t'.den} (hρ : ρ id = some (.row t a len cap)) (hl : look st id = some (.rows t' l)) :
    t' = t ∧ l.length = len ∧ len ≤ cap ∧ (l = [] ∨ ∃ b s, a = some ⟨b, s, none⟩ ∧ At w b s (flat t' l)) := by
  obtain ⟨ht, h1, h2, h3⟩ := H.heap id _ _ hρ hl
  refine ⟨ht, h1, h2, ?_⟩
  rcases h3 with h3 | ⟨b, s, arr, e, _, _, hat⟩
  · left; exact List.eq_nil_of_length_eq_zero (by omega)
  · exact .inr ⟨b, s, e, hat⟩
theorem loadP_sound {R : Type} {P : Program} {t : Nat} {ti : TI} (hs : SizeOf P t ti.size) (ha : IsAgg P t ti.agg) {st : Store} {x : V} {K : V → Option R} {r : R} (h : loadP ti st x K = some r) :
    ∃ v, K v = some r ∧ ∀ ρ F w cx, Core ρ F st w → RelT ρ F w x cx → ∃ c, (Instr.loadAt t cx).run P w = .ok c w ∧ RelT ρ F w v c := by
  unfold loadP at h
  split at h
  · rename_i cs
    obtain ⟨v, hv, k⟩ := loadK_sound hs ha h
    refine ⟨v, hv, fun ρ F w cx H ⟨b, s, e, hf, hp, hat⟩ => ?_⟩
    subst e
    obtain ⟨c, hc, r⟩ := k ρ F w b s (.of_at (allB_get hp) hat)
    exact ⟨c, by simpa [Instr.loadAt, Instr.sureAddr] using hc, r⟩
  · rename_i id off
    split at h
    · rename_i cs hl
      obtain ⟨hle, h⟩ := dropK_some h
      obtain ⟨v, hv, k⟩ := loadK_sound hs ha h
      refine ⟨v, hv, fun ρ F w cx H ⟨b, n, hρ, e⟩ => ?_⟩
      subst e
      obtain ⟨c, hc, r⟩ := k ρ F w b off (by have := (box_cells H hρ hl).drop (n := off); rwa [Nat.zero_add] at this)
      exact ⟨c, by simpa [Instr.loadAt, Instr.sureAddr] using hc, r⟩
    · cases h
  · rename_i id row col
    split at h
    · rename_i t' l hl
      rw [Option.bind_eq_some_iff] at h
      obtain ⟨d, hd, h⟩ := h
      obtain ⟨hle, h⟩ := dropK_some h
      obtain ⟨v, hv, k⟩ := loadK_sound hs ha h
      refine ⟨v, hv, fun ρ F w cx H ⟨t0, b, s, len, cap, hρ, hrow, e⟩ => ?_⟩
      subst e
      obtain ⟨ht, hlen, _, hat⟩ := row_at H hρ hl
      subst ht
      rcases hat with hat | ⟨b', s', e, hat⟩
      · subst hat; simp at hd
      · cases e
        obtain ⟨c, hc, r⟩ := k ρ F w b (s + row * t'.width + col) ((CellsAt.of_at (cells_plain t' d) (hat.row hd)).drop (n := col))
        exact ⟨c, by simpa [Instr.loadAt, Instr.sureAddr, Nat.add_assoc] using hc, r⟩
    · cases h
  · cases h
end Ev
