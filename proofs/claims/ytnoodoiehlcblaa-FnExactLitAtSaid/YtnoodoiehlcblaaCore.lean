/- What a step of the machine keeps: the ids' blocks, what is stable, the frame. -/
import Derived.Test.YtnoodoiehlcblaaRel
set_option linter.unusedVariables false
set_option linter.unusedSimpArgs false
namespace Ev
open Go

/-- The world has changed in the blocks of 'B' alone, and new blocks were made. -/
structure Chg (B : Nat → Prop) (w w' : World) : Prop where
  os : w'.os = w.os
  tape : w'.tape = w.tape
  output : w'.output = w.output
  size : w.heap.size ≤ w'.heap.size
  block : ∀ b, b < w.heap.size → ¬ B b → w'.heap[b]? = w.heap[b]?
theorem Chg.refl (B : Nat → Prop) (w : World) : Chg B w w := ⟨rfl, rfl, rfl, Nat.le_refl _, fun _ _ _ => rfl⟩
theorem Chg.trans {A B C : Nat → Prop} {a b c : World} (h : Chg A a b) (k : Chg B b c) (ha : ∀ x, A x → C x) (hb : ∀ x, x < a.heap.size → B x → C x) : Chg C a c :=
  ⟨k.os.trans h.os, k.tape.trans h.tape, k.output.trans h.output, Nat.le_trans h.size k.size, fun x hx hc =>
    (k.block x (Nat.lt_of_lt_of_le hx h.size) fun e => hc (hb x hx e)).trans (h.block x hx fun e => hc (ha x e))⟩
theorem Chg.mono {A B : Nat → Prop} {a b : World} (h : Chg A a b) (k : ∀ x, A x → B x) : Chg B a b :=
  ⟨h.os, h.tape, h.output, h.size, fun x hx hb => h.block x hx fun e => hb (k x e)⟩

theorem HeapAt.lt {ρ : Rho} {F : Nat → Prop} {w : World} {loc : Loc} {blk : Blk} (h : HeapAt ρ F w loc blk) {b : Nat} (hb : loc.block = some b) : b < w.heap.size := by
  cases loc with
  | box b' n =>
    cases blk with
    | box cs =>
      obtain ⟨_, arr, hr, _⟩ := h
      simp [Loc.block] at hb; subst hb; exact hr.lt
    | rows t l => exact h.elim
  | row t a len cap =>
    cases blk with
    | box cs => exact h.elim
    | rows t' l =>
      obtain ⟨_, _, _, h⟩ := h
      cases a with
      | none => simp [Loc.block] at hb
      | some a =>
        simp only [Loc.block] at hb
        split at hb
        · cases hb
        · rename_i hc
          rcases h with h | ⟨b', s, arr, e, hr, _⟩
          · exact absurd h hc
          · cases e; cases hb; exact hr.lt
/-- One block of the store becomes a weaker one. -/
def BlkWk (ρ : Rho) (F : Nat → Prop) (w : World) (ρ' : Rho) (F' : Nat → Prop) (w' : World) : Blk → Blk → Prop
  | .box cs, .box cs' => cs'.length = cs.length ∧ ∀ (i : Nat) (v v' : V), cs[i]? = some v → cs'[i]? = some v' → ∀ c, RelC ρ F w v c → RelC ρ' F' w' v' c
  | .rows t l, x => x = .rows t l
  | _, _ => False
theorem HeapAt.weaken {ρ ρ' : Rho} {F F' : Nat → Prop} {w w' : World} {loc : Loc} {blk blk' : Blk} (h : HeapAt ρ F w loc blk)
    (hm : ∀ b, loc.block = some b → w'.heap[b]? = w.heap[b]?) (hk : BlkWk ρ F w ρ' F' w' blk blk') : HeapAt ρ' F' w' loc blk' := by
  cases loc with
  | box b n =>
    cases blk with
    | rows t l => exact h.elim
    | box cs =>
      cases blk' with
      | rows t l => exact hk.elim
      | box cs' =>
        obtain ⟨hl, arr, hr, hs, hc⟩ := h
        obtain ⟨hl', hk⟩ := hk
        refine ⟨by omega, arr, hr.of_block (hm b rfl), hs, fun i v' hv' => ?_⟩
        have hi : i < cs.length := by
          have := (List.getElem?_eq_some_iff.mp hv').1
          omega
        obtain ⟨c, hc', r⟩ := hc i cs[i] (List.getElem?_eq_getElem hi)
        exact ⟨c, hc', hk i _ v' (List.getElem?_eq_getElem hi) hv' c r⟩
  | row t a len cap =>
    cases blk with
    | box cs => exact h.elim
    | rows t' l =>
      have e : blk' = .rows t' l := hk
      subst e
      obtain ⟨ht, hl, hc, h⟩ := h
      refine ⟨ht, hl, hc, ?_⟩
      by_cases h0 : cap = 0
      · exact .inl h0
      · refine .inr ?_
        rcases h with h | ⟨b, s, arr, e, hr, hle, hat⟩
        · exact absurd h h0
        · have hb := hm b (by subst e; simp [Loc.block, h0])
          exact ⟨b, s, arr, e, hr.of_block hb, hle, hat.of_block hb⟩
theorem core_step {ρ ρ' : Rho} {F F' : Nat → Prop} {σ σ' : Store} {w w' : World} (S : Nat → Prop) (H : Core ρ F σ w)
    (mem : ∀ id loc b, ¬ S id → ρ' id = some loc → loc.block = some b → w'.heap[b]? = w.heap[b]?)
    (old : ∀ id loc, ¬ S id → ρ' id = some loc → ρ id = some loc)
    (sto : ∀ id blk', ¬ S id → look σ' id = some blk' → ∃ blk, look σ id = some blk ∧ BlkWk ρ F w ρ' F' w' blk blk')
    (new : ∀ id loc blk, S id → ρ' id = some loc → look σ' id = some blk → HeapAt ρ' F' w' loc blk)
    (injS : ∀ i j li lj b, S i → ρ' i = some li → ρ' j = some lj → li.block = some b → lj.block = some b → i = j)
    (stable : ∀ b, F' b → b < w'.heap.size ∧ ¬ ρ'.M b) : Core ρ' F' σ' w' where
  heap id loc blk h1 h2 := by
    by_cases hs : S id
    · exact new id loc blk hs h1 h2
    · obtain ⟨b0, h0, hk⟩ := sto id blk hs h2
      exact (H.heap id loc b0 (old id loc hs h1) h0).weaken (fun b hb => mem id loc b hs h1 hb) hk
  inj i j li lj b hi hj hbi hbj := by
    by_cases hs : S i
    · exact injS i j li lj b hs hi hj hbi hbj
    · by_cases ht : S j
      · exact (injS j i lj li b ht hj hi hbj hbi).symm
      · exact H.inj i j li lj b (old i li hs hi) (old j lj ht hj) hbi hbj
  stable := stable
/-- The same store and ids, a world in which blocks have only been added. -/
theorem core_more {ρ : Rho} {F F' : Nat → Prop} {σ : Store} {w w' : World} (H : Core ρ F σ w) (h : Chg (fun _ => False) w w')
    (hF : ∀ b, F b → F' b) (hF' : ∀ b, F' b → b < w'.heap.size ∧ ¬ ρ.M b) (hM : ∀ b, ρ.M b → b < w.heap.size) : Core ρ F' σ w' :=
  core_step (fun _ => False) H (fun id loc b _ h1 h2 => h.block b (hM b ⟨id, loc, h1, h2⟩) (fun e => e)) (fun _ _ _ h => h)
    (fun id blk _ hl => ⟨blk, hl, by
      cases blk with
      | rows t l => rfl
      | box cs =>
        refine ⟨rfl, fun i v v' h1 h2 c r => ?_⟩
        rw [h1] at h2; cases h2
        exact RelC.ext0 ⟨fun _ _ _ h => h, hF, fun b hb => h.block b (H.stable b hb).1 (fun e => e)⟩ r⟩)
    (fun _ _ _ h => h.elim) (fun _ _ _ _ _ h => h.elim) hF'

/-! ### What an operation is shown to do -/
structure Stp (ρ : Rho) (F : Nat → Prop) (w : World) (ρ' : Rho) (F' : Nat → Prop) (w' : World) : Prop where
  chg : Chg ρ.M w w'
  mb : ∀ b, ρ'.M b → ρ.M b ∨ w.heap.size ≤ b
  stb : ∀ b, F' b → F b ∨ ρ.M b ∨ w.heap.size ≤ b
def NewId (dst id : Nat) : Prop := ∃ j, id = dst + 10000 * j
def Dom (ρ : Rho) (σ : Store) : Prop := ∀ id l, ρ id = some l → look σ id ≠ none
/-- What holds behind an operation. -/
structure Post (calm : Prop) (dst : Nat) (ρ : Rho) (F : Nat → Prop) (s : St) (w : World) (v : V) (s' : St) (ρ' : Rho) (F' : Nat → Prop) (w' : World) (c : Value) : Prop where
  core : Core ρ' F' s'.st w'
  stp : Stp ρ F w ρ' F' w'
  val : RelT ρ' F' w' v c
  fr : ∀ t x, RelT ρ F w (get s.fr t) x → RelT ρ' F' w' (get s'.fr t) x
  len : s'.fr.length = s.fr.length
  dom : Dom ρ s.st → Dom ρ' s'.st
  low : ∀ id, id < 100 → look s'.st id ≠ none → look s.st id ≠ none
  par : ∀ id l, id < 100 → ρ id = some l → look s'.st id ≠ none → ρ' id = some l
  calm : calm → s'.fr = s.fr ∧ (∀ id l, ρ id = some l → ρ' id = some l) ∧ (∀ id l, ρ' id = some l → ρ id = some l ∨ (NewId dst id ∧ look s'.st id ≠ none)) ∧
    (∀ id b, look s.st id = some b → look s'.st id = some b) ∧ (∀ id b, look s'.st id = some b → look s.st id = some b ∨ NewId dst id) ∧
    (∀ b, b < w.heap.size → w'.heap[b]? = w.heap[b]?) ∧ (∀ b, F b → F' b)
def Reads (o : Oper) (t : Nat) : Prop := Operand.tmp t ∈ o.op.operands
/-- The operation, begun in a state that 's' stands for, yields a value that 'v' stands for, in a state that 's'' stands for. -/
def OpOK (P : Program) (calm : Prop) (o : Oper) (s : St) (v : V) (s' : St) : Prop :=
  ∀ (ρ : Rho) (F : Nat → Prop) (a : Act) (w : World), Core ρ F s.st w → (∀ b, ρ.M b → b < w.heap.size) →
    (∀ id, look s.st id = none → NewId (idOf o) id → ρ id = none) →
    (∀ t, Reads o t → RelT ρ F w (get s.fr t) (a.tmps.getD t undef)) →
    ∀ (N : Act → World → Prop) (Q : Exit → Act → World → Prop),
      (∀ c w' ρ' F', Post calm (idOf o) ρ F s w v s' ρ' F' w' c → N (a.put o.dst c) w') → o.wp P a w N Q
end Ev
