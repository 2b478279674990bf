/- Operations that make blocks or write them. -/
import Derived.Test.YtnoodoiehlcblaaOps3
import Derived.Laws.MakeOwn
set_option linter.unusedVariables false
set_option linter.unusedSimpArgs false
namespace Ev
open Go

/-! ### New blocks -/
def Rho.set (ρ : Rho) (id : Nat) (loc : Loc) : Rho := fun i => if i = id then some loc else ρ i
theorem Rho.set_same (ρ : Rho) (id : Nat) (loc : Loc) : ρ.set id loc id = some loc := by simp [Rho.set]
theorem Rho.set_other (ρ : Rho) {id i : Nat} (loc : Loc) (h : i ≠ id) : ρ.set id loc i = ρ i := by simp [Rho.set, h]
theorem look_new {σ : Store} {id : Nat} {b : Blk} : look ((id, b) :: σ) id = some b := by simp [look]
theorem look_old {σ : Store} {id i : Nat} {b : Blk} (h : i ≠ id) : look ((id, b) :: σ) i = look σ i := by
  have : Nat.beq id i = false := by
    cases h' : Nat.beq id i
    · rfl
    · exact absurd (Nat.eq_of_beq_eq_true h').symm h
  simp [look, this]
theorem newK_some {R : Type} {st : Store} {id : Nat} {b : Blk} {K : Store → Option R} {r : R} (h : newK st id b K = some r) : look st id = none ∧ K ((id, b) :: st) = some r := by
  unfold newK at h; split at h
  · exact ⟨by assumption, h⟩
  · cases h
theorem ext_new {ρ : Rho} {F : Nat → Prop} {w w' : World} {id : Nat} {loc : Loc} (hρ : ρ id = none) (hw : ∀ b, F b → w'.heap[b]? = w.heap[b]?) {X : Nat → Prop} : Ext X ρ F w (ρ.set id loc) F w' :=
  ⟨fun i l _ h => by rw [Rho.set_other _ _ (fun e => by rw [e, hρ] at h; cases h)]; exact h, fun _ h => h, hw⟩
/-- A block of its own for a new id. -/
theorem post_new {calm : Prop} {dst : Nat} {ρ : Rho} {F : Nat → Prop} {s : St} {w w' : World} {id : Nat} {blk : Blk} {loc : Loc} {v : V} {c : Value}
    (H : Core ρ F s.st w) (hM : ∀ b, ρ.M b → b < w.heap.size) (hl : look s.st id = none) (hρ : ρ id = none) (hid : NewId dst id) (hge : 100 ≤ id)
    (hw : Chg (fun _ => False) w w') (hb : ∀ b, loc.block = some b → w.heap.size ≤ b ∧ b < w'.heap.size)
    (hat : HeapAt (ρ.set id loc) F w' loc blk) (hv : RelT (ρ.set id loc) F w' v c) :
    Post calm dst ρ F s w v ⟨s.fr, (id, blk) :: s.st⟩ (ρ.set id loc) F w' c := by
  have mem : ∀ b, b < w.heap.size → w'.heap[b]? = w.heap[b]? := fun b hb => hw.block b hb (fun e => e)
  have E : Ext (fun _ => False) ρ F w (ρ.set id loc) F w' := ext_new hρ fun b hF => mem b (H.stable b hF).1
  have hM' : ∀ b, (ρ.set id loc).M b → ρ.M b ∨ w.heap.size ≤ b := by
    rintro b ⟨i, l, hi, hbl⟩
    by_cases e : i = id
    · subst e; rw [Rho.set_same] at hi; cases hi; exact .inr (hb b hbl).1
    · rw [Rho.set_other _ _ e] at hi; exact .inl ⟨i, l, hi, hbl⟩
  refine ⟨core_step (fun i => i = id) H ?_ ?_ ?_ ?_ ?_ ?_, ⟨hw.mono fun _ h => h.elim, hM', fun _ h => .inl h⟩, hv, fun t x r => RelT.ext0 E r, rfl, ?_, ?_, ?_, fun _ => ⟨rfl, ?_, ?_, ?_, ?_, mem, fun _ h => h⟩⟩
  · intro i l b hi h1 h2
    rw [Rho.set_other _ _ hi] at h1
    exact mem b (hM b ⟨i, l, h1, h2⟩)
  · intro i l hi h1; rwa [Rho.set_other _ _ hi] at h1
  · intro i b' hi h1
    rw [look_old hi] at h1
    refine ⟨b', h1, ?_⟩
    cases b' with
    | rows t l => rfl
    | box cs =>
      refine ⟨rfl, fun i v v' h1 h2 c r => ?_⟩
      rw [h1] at h2; cases h2
      exact RelC.ext0 E r
  · intro i l b' hi h1 h2
    subst hi
    rw [Rho.set_same] at h1; cases h1
    rw [look_new] at h2; cases h2
    exact hat
  · intro i j li lj b hi h1 h2 h3 h4
    subst hi
    rw [Rho.set_same] at h1; cases h1
    by_cases e : j = i
    · exact e.symm
    · rw [Rho.set_other _ _ e] at h2
      have := hM b ⟨j, lj, h2, h4⟩
      have := (hb b h3).1
      omega
  · intro b hF
    have := (H.stable b hF)
    exact ⟨Nat.lt_of_lt_of_le this.1 hw.size, fun h => (hM' b h).elim this.2 fun h => by omega⟩
  · intro hd i l h1
    by_cases e : i = id
    · subst e; rw [look_new]; simp
    · rw [Rho.set_other _ _ e] at h1; rw [look_old e]; exact hd i l h1
  · intro i hi h2
    have e : i ≠ id := by omega
    simp only at h2
    rwa [look_old e] at h2
  · intro i l hi h1 h2
    have e : i ≠ id := by omega
    rw [Rho.set_other _ _ e]; exact h1
  · intro i l h; rw [Rho.set_other _ _ (fun e => by rw [e, hρ] at h; cases h)]; exact h
  · intro i l h
    by_cases e : i = id
    · subst e; exact .inr ⟨hid, by rw [look_new]; simp⟩
    · rw [Rho.set_other _ _ e] at h; exact .inl h
  · intro i b h; rw [look_old (fun e => by rw [e, hl] at h; cases h)]; exact h
  · intro i b h
    by_cases e : i = id
    · subst e; exact .inr hid
    · rw [look_old e] at h; exact .inl h
theorem idOf_ge (o : Oper) : 100 ≤ idOf o := by unfold idOf; omega
theorem newId_self (dst : Nat) : NewId dst dst := ⟨0, by simp⟩
theorem chg_alloc (w : World) (o : Obj) : Chg (fun _ => False) w (w.alloc o) := ⟨rfl, rfl, rfl, by simp, fun b hb _ => heap_alloc_old w o b hb⟩
theorem chg_drew_alloc (w : World) (o : Obj) : Chg (fun _ => False) w (w.drew.alloc o) := ⟨rfl, rfl, rfl, by simp, fun b hb _ => heap_alloc_old w.drew o b hb⟩
theorem rowB_alloc (w : World) (arr : Array Value) (e : Nat) : RowB (w.alloc (.cells arr e)) w.heap.size arr := ⟨e, 0, 0, heap_alloc_new w _, fun i _ => by omega⟩
theorem rowB_drew_alloc (w : World) (arr : Array Value) (e : Nat) : RowB (w.drew.alloc (.cells arr e)) w.heap.size arr := ⟨e, 0, 0, heap_alloc_new w.drew _, fun i _ => by omega⟩
/-- The cells of a value that is not a tuple. -/
theorem cs_rel {ρ : Rho} {F : Nat → Prop} {w : World} {v : V} {c : Value} (hu : v ≠ .undef) (ht : ∀ vs, v ≠ .tup vs) (h : RelT ρ F w v c) :
    c.cells.size = v.cs.length ∧ ∀ (i : Nat) (u : V), v.cs[i]? = some u → ∃ x, c.cells[i]? = some x ∧ RelC ρ F w u x := by
  cases v with
  | agg cs =>
    obtain ⟨ca, rfl, hs, hr⟩ := h
    exact ⟨hs, hr⟩
  | tup vs => exact absurd rfl (ht vs)
  | undef => exact absurd rfl hu
  | _ =>
    have hc : c.cells = #[c] := by
      cases c <;> first | rfl | skip
      rename_i cells
      exfalso
      simp only [RelT, RelA, RelC, RelB] at h
      first
        | (cases h; done)
        | (obtain ⟨_, _, h, _⟩ := h; cases h; done)
        | (obtain ⟨_, _, _, _, _, h⟩ := h; cases h; done)
        | (obtain ⟨_, _, _, _, _, _, _, _, h⟩ := h; cases h; done)
        | (obtain ⟨_, _, _, h⟩ := h; cases h; done)
        | (obtain ⟨_, _, _, _, _, _, _, h⟩ := h; cases h; done)
        | (obtain ⟨_, h, _⟩ := h; cases h; done)
    rw [hc]
    refine ⟨rfl, fun i u hu => ?_⟩
    cases i with
    | zero => simp [V.cs] at hu; subst hu; exact ⟨c, rfl, h⟩
    | succ i => simp [V.cs] at hu
theorem plain_cells_rel {ρ : Rho} {F : Nat → Prop} {w : World} {v : V} {c : Value} (hp : ∀ u ∈ v.cs, u.plain = true) (h : RelT ρ F w v c) : c.cells.toList = v.cs.map sv := by
  have hu : v ≠ .undef := fun e => by subst e; have := hp .undef (by simp [V.cs]); cases this
  have ht : ∀ vs, v ≠ .tup vs := fun vs e => by subst e; have := hp (.tup vs) (by simp [V.cs]); cases this
  obtain ⟨h1, h2⟩ := cs_rel hu ht h
  refine List.ext_getElem? fun i => ?_
  rw [List.getElem?_map, Array.getElem?_toList]
  cases hc : v.cs[i]? with
  | none =>
    have : v.cs.length ≤ i := by simpa using hc
    simp; omega
  | some u =>
    obtain ⟨x, hx, r⟩ := h2 i u hc
    have hv := hp u (List.mem_of_getElem? hc)
    have r' : RelB ρ F w u x := by rcases plain_not hv with ⟨k, n, rfl⟩ | ⟨b, rfl⟩ | ⟨s, rfl⟩ <;> exact r
    rw [hx, (RelB.plain hv).mp r']; rfl
end Ev
