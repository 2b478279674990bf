/- Plain facts about what the evaluator's functions are made of. From what a law's function computes to what the machine does with what is handed in. From a contract of a library's function to what the evaluator takes it for. What is handed in to a law, opened as typed values. -/
import Derived.Test.YtpnlcamcnhpbhaaPatA
import Derived.Below
import Derived.ChangeArms
import Derived.OpenShut
import Derived.ChangeShapes
section
set_option linter.unusedVariables false
set_option linter.unusedSimpArgs false
namespace Ev
open Go

theorem w64_id {n : Int} (h1 : -9223372036854775808 ≤ n) (h2 : n < 9223372036854775808) : w64 n = n := by
  simp [w64, IntKind.wrap, IntKind.signed, IntKind.bits]
  split <;> omega
theorem okIf_pos {R : Type} {c : Prop} [Decidable c] {K : Option R} (h : c) : okIf c K = K := if_pos h
theorem capK_le {R : Type} {n : Nat} {K : Option R} (h : n ≤ 1099511627776) : capK n K = K := if_pos h
theorem rdL_at {R α : Type} {l : List α} {i : Nat} {x : α} {K : α → Option R} (h : l[i]? = some x) : rdL l (i : Int) K = K x := by
  unfold rdL
  rw [if_pos (by omega)]
  simp [h]
theorem rdL_nat {R α : Type} {l : List α} {i : Nat} {K : α → Option R} : rdL l (i : Int) K = (l[i]?).bind K := by
  unfold rdL
  rw [if_pos (by omega)]
  simp
theorem cond_dec {α : Type} {c : Prop} [Decidable c] {a b : α} : cond (decide c) a b = if c then a else b := by
  by_cases h : c <;> simp [h]
theorem cond_true_dec {α : Type} {c : Prop} [Decidable c] {a b : α} (h : c) : cond (decide c) a b = a := by rw [cond_dec, if_pos h]
theorem cond_false_dec {α : Type} {c : Prop} [Decidable c] {a b : α} (h : ¬ c) : cond (decide c) a b = b := by rw [cond_dec, if_neg h]
theorem mx_eq (a b : Int) : mx a b = if a < b then b else a := by
  unfold mx; simp only [gt_iff_lt]
theorem mn_eq (a b : Int) : mn a b = if b < a then b else a := rfl
def inR (x : Int) : Bool := decide (0 ≤ x) && decide (x ≤ 32)
def isTr (l : List Int) : Bool := l.all inR && decide (l.length ≤ 64)
/-! ### Loops -/
theorem iterF_succ {R T : Type} {f : T → (T → Option R) → (T → Option R) → Option R} {n : Nat} {t : T} {K : T → Option R} : iterF f (n + 1) t K = f t (fun t => iterF f n t K) K := rfl
def scan {α σ ρ : Type} (h : Nat → α → σ → ρ ⊕ σ) : Nat → List α → σ → ρ ⊕ σ
  | _, [], s => .inr s
  | i, x :: xs, s => match h i x s with
    | .inl r => .inl r
    | .inr s' => scan h (i + 1) xs s'
theorem iterF_scan_from {R T α σ : Type} {f : T → (T → Option R) → (T → Option R) → Option R} {P : Nat → σ → T} {l : List α} {h : Nat → α → σ → Option R ⊕ σ} {Inv : Nat → σ → Prop} {K : T → Option R}
    (hs : ∀ i s x, Inv i s → l[i]? = some x → ∀ rec K, f (P i s) rec K = match h i x s with | .inl r => r | .inr s' => rec (P (i + 1) s'))
    (hi : ∀ i s x s', Inv i s → l[i]? = some x → h i x s = .inr s' → Inv (i + 1) s')
    (he : ∀ s, Inv l.length s → ∀ rec K, f (P l.length s) rec K = K (P l.length s)) : ∀ (m : List α) (i n : Nat) (s : σ), i + m.length = l.length → (∀ j, m[j]? = l[i + j]?) → m.length < n → Inv i s →
      iterF f n (P i s) K = match scan h i m s with | .inl r => r | .inr s' => K (P l.length s')
  | [], i, n, s, hl, hm, hn, inv => by
    obtain ⟨n, rfl⟩ : ∃ k, n = k + 1 := ⟨n - 1, by simp at hn; omega⟩
    simp at hl
    subst hl
    rw [iterF_succ, he s inv]; rfl
  | x :: m, i, n, s, hl, hm, hn, inv => by
    obtain ⟨n, rfl⟩ : ∃ k, n = k + 1 := ⟨n - 1, by simp at hn; omega⟩
    have hx : l[i]? = some x := by have := hm 0; simpa using this.symm
    rw [iterF_succ, hs i s x inv hx]
    simp only [scan]
    cases hh : h i x s with
    | inl r => rfl
    | inr s' =>
      simp only []
      exact iterF_scan_from hs hi he m (i + 1) n s' (by simp at hl; omega) (fun j => by have := hm (j + 1); simp at this; rw [this]; congr 1; omega) (by simp at hn; omega) (hi i s x s' inv hx hh)
theorem iterF_scan {R T α σ : Type} {f : T → (T → Option R) → (T → Option R) → Option R} (P : Nat → σ → T) (l : List α) (h : Nat → α → σ → Option R ⊕ σ) (Inv : Nat → σ → Prop) {K : T → Option R} {s : σ}
    (hn : l.length ≤ 2305843009213693952) (inv : Inv 0 s)
    (hs : ∀ i s x, Inv i s → l[i]? = some x → i < l.length → ∀ rec K, f (P i s) rec K = match h i x s with | .inl r => r | .inr s' => rec (P (i + 1) s'))
    (hi : ∀ i s x s', Inv i s → l[i]? = some x → h i x s = .inr s' → Inv (i + 1) s')
    (he : ∀ s, Inv l.length s → ∀ rec K, f (P l.length s) rec K = K (P l.length s)) :
      iterF f fuel (P 0 s) K = match scan h 0 l s with | .inl r => r | .inr s' => K (P l.length s') :=
  iterF_scan_from (fun i s x a b => hs i s x a b (List.getElem?_eq_some_iff.mp b).1) hi he l 0 fuel s (by simp) (by simp) (by rw [fuel_eq]; omega) inv
/-- Two loops that do the same. -/
theorem iterF_congr {R T : Type} {f g : T → (T → Option R) → (T → Option R) → Option R} {K K' : T → Option R} (Inv : T → Prop)
    (h : ∀ t rec rec', Inv t → (∀ t', Inv t' → rec t' = rec' t') → f t rec K = g t rec' K') : ∀ (n : Nat) (t : T), Inv t → iterF f n t K = iterF g n t K'
  | 0, t, _ => rfl
  | n + 1, t, ht => by
    rw [iterF_succ, iterF_succ]
    exact h t _ _ ht fun t' ht' => iterF_congr Inv h n t' ht'
/-- A loop of at most 'n' rounds: it comes to its end, or out of it with what 'Out' says. -/
theorem iterF_rule_from {R T : Type} {f : T → (T → Option R) → (T → Option R) → Option R} {K : T → Option R} {n : Nat} {Inv : Nat → T → Prop} {Out : Option R → Prop} {Brk : T → Prop}
    (hs : ∀ i t, i < n → Inv i t → (∃ t', Inv (i + 1) t' ∧ ∀ rec K, f t rec K = rec t') ∨ (∃ r, Out r ∧ ∀ rec K, f t rec K = r) ∨ (∃ t', Brk t' ∧ ∀ rec K, f t rec K = K t'))
    (he : ∀ t, Inv n t → (∃ r, Out r ∧ ∀ rec K, f t rec K = r) ∨ (∃ t', Brk t' ∧ ∀ rec K, f t rec K = K t')) : ∀ (d i m : Nat) (t : T), i + d = n → d < m → Inv i t →
      (∃ r, Out r ∧ iterF f m t K = r) ∨ ∃ t', Brk t' ∧ iterF f m t K = K t'
  | 0, i, m, t, hd, hm, inv => by
    obtain ⟨m, rfl⟩ : ∃ k, m = k + 1 := ⟨m - 1, by omega⟩
    have : i = n := by omega
    subst this
    rw [iterF_succ]
    rcases he t inv with ⟨r, hr, h⟩ | ⟨t', hb, h⟩
    · exact .inl ⟨r, hr, h _ _⟩
    · exact .inr ⟨t', hb, h _ _⟩
  | d + 1, i, m, t, hd, hm, inv => by
    obtain ⟨m, rfl⟩ : ∃ k, m = k + 1 := ⟨m - 1, by omega⟩
    rw [iterF_succ]
    rcases hs i t (by omega) inv with ⟨t', hi, h⟩ | ⟨r, hr, h⟩ | ⟨t', hb, h⟩
    · rw [h]
      exact iterF_rule_from hs he d (i + 1) m t' (by omega) (by omega) hi
    · exact .inl ⟨r, hr, h _ _⟩
    · exact .inr ⟨t', hb, h _ _⟩
theorem iterF_rule {R T : Type} {f : T → (T → Option R) → (T → Option R) → Option R} {K : T → Option R} {t : T} (n : Nat) (Inv : Nat → T → Prop) (Out : Option R → Prop) (Brk : T → Prop) (hn : n ≤ 18446744073709551616) (inv : Inv 0 t)
    (hs : ∀ i t, i < n → Inv i t → (∃ t', Inv (i + 1) t' ∧ ∀ rec K, f t rec K = rec t') ∨ (∃ r, Out r ∧ ∀ rec K, f t rec K = r) ∨ (∃ t', Brk t' ∧ ∀ rec K, f t rec K = K t'))
    (he : ∀ t, Inv n t → (∃ r, Out r ∧ ∀ rec K, f t rec K = r) ∨ (∃ t', Brk t' ∧ ∀ rec K, f t rec K = K t')) :
      (∃ r, Out r ∧ iterF f fuel t K = r) ∨ ∃ t', Brk t' ∧ iterF f fuel t K = K t' :=
  iterF_rule_from hs he n 0 fuel t (by omega) (by rw [fuel_eq]; omega) inv
/-- A loop that is never left from within. -/
theorem iterF_all {R T : Type} {f : T → (T → Option R) → (T → Option R) → Option R} {K : T → Option R} {t : T} (n : Nat) (Inv : Nat → T → Prop) (hn : n ≤ 18446744073709551616) (inv : Inv 0 t)
    (hs : ∀ i t, i < n → Inv i t → ∃ t', Inv (i + 1) t' ∧ ∀ rec K, f t rec K = rec t') (he : ∀ t, Inv n t → ∀ rec K, f t rec K = K t) : ∃ t', Inv n t' ∧ iterF f fuel t K = K t' := by
  rcases iterF_rule (f := f) (K := K) n Inv (fun _ => False) (Inv n) hn inv (fun i t hi h => .inl (hs i t hi h)) (fun t h => .inr ⟨t, h, he t h⟩) with ⟨r, h, _⟩ | h
  · exact h.elim
  · exact h
end Ev
end
section
set_option linter.unusedVariables false
set_option linter.unusedSimpArgs false
namespace Ev
open Go Go.RowKit

theorem calls_of_sem {P : Program} {f : Nat} {e : Entry} (ok : OK P f e) {av : List V} {res : V} {out : List Blk} (h : e.sem (V × List Blk) av [] (fun v b => some (v, b)) = some (res, out)) {w : World} (hg : Glob (fun b => b < w.heap.size) w) {ca : Array Value}
    (hs : ca.size = av.length) (hv : ∀ (i : Nat) v, av[i]? = some v → ∃ c, ca[i]? = some c ∧ RelA (fun _ => none) (fun b => b < w.heap.size) w v c) :
    Calls P f ca w fun en w' => ∃ c ρ F, en = .returned c ∧ RelT ρ F w' res c ∧ Below w.heap.size w w' := by
  obtain ⟨res', out', hk, hE⟩ := ok.ent _ av [] _ _ h
  cases hk
  have no : ∀ b, ¬ Rho.M (fun _ => none) b := fun b ⟨_, _, h, _⟩ => by cases h
  refine (hE w _ (fun _ => none) ca ⟨fun id loc blk h => (by cases h), fun i j li lj b h => (by cases h), fun b hb => ⟨hb, no b⟩, hg⟩ (fun id l h => (by cases h)) hs hv).mono fun en w' ⟨c, ρ1, F1, he, _, _, _, hr, hc, _, _⟩ => ?_
  exact ⟨c, ρ1, F1, he, hr, hc.os, hc.tape, hc.output, hc.size, fun k hk => hc.block k hk (no k)⟩
theorem calls_true {P : Program} {f : Nat} {e : Entry} (ok : OK P f e) {av : List V} {out : List Blk} (h : e.sem (V × List Blk) av [] (fun v b => some (v, b)) = some (.bool true, out)) {w : World} (hg : Glob (fun b => b < w.heap.size) w) {ca : Array Value}
    (hs : ca.size = av.length) (hv : ∀ (i : Nat) v, av[i]? = some v → ∃ c, ca[i]? = some c ∧ RelA (fun _ => none) (fun b => b < w.heap.size) w v c) :
    Calls P f ca w fun en w' => en = .returned (.bool true) ∧ Below w.heap.size w w' :=
  (calls_of_sem ok h hg hs hv).mono fun en w' ⟨c, ρ, F, he, hr, hb⟩ => ⟨by rw [he]; exact congrArg _ hr, hb⟩
theorem args1 {w : World} {v : V} {c : Value} (h : RelA (fun _ => none) (fun b => b < w.heap.size) w v c) :
    ∀ (i : Nat) u, [v][i]? = some u → ∃ c', #[c][i]? = some c' ∧ RelA (fun _ => none) (fun b => b < w.heap.size) w u c' := by
  intro i u hu
  cases i with
  | zero => simp at hu; subst hu; exact ⟨c, rfl, h⟩
  | succ i => simp at hu
theorem rel_ints {w : World} {a : Option Addr} {len cap : Nat} {zs : List Int} (hl : len ≤ cap) (hz : len ≤ zs.length) (hn : a = none → len = 0)
    (h : ∀ x, a = some x → ∀ i, i < zs.length → w.cell? (x.add i) = some (.int .i64 (zs.getD i 0))) :
    RelA (fun _ => none) (fun b => b < w.heap.size) w (.lst .int (zs.take len)) (.slice a len cap) := by
  have hlen : (zs.take len).length = len := by simp; omega
  refine ⟨a, cap, by rw [hlen], by omega, ?_⟩
  by_cases h0 : len = 0
  · left; subst h0; simp
  · right
    cases a with
    | none => exact absurd (hn rfl) h0
    | some x =>
      have h1 := h x rfl 0 (by omega)
      have hsp : x.spot = none := by
        simp only [Addr.add, if_true] at h1
        unfold World.cell? at h1
        cases hs : x.spot with
        | none => rfl
        | some k => simp [hs] at h1; split at h1 <;> simp at h1
      have hb : x.block < w.heap.size := by
        simp only [Addr.add, if_true] at h1
        unfold World.cell? at h1
        rcases Nat.lt_or_ge x.block w.heap.size with h | h
        · exact h
        · simp [Array.getElem?_eq_none h] at h1
      obtain ⟨b, s, sp⟩ := x
      simp only at hsp hb; subst hsp
      refine ⟨b, s, rfl, hb, fun i v hv => ?_⟩
      have hf : flat .int (zs.take len) = (zs.take len).map fun n => Value.int .i64 n := by
        unfold flat
        induction zs.take len with
        | nil => rfl
        | cons x r ih => rw [List.flatMap_cons, ih]; rfl
      rw [hf] at hv
      have hi : i < len := by
        have := (List.getElem?_eq_some_iff.mp hv).1
        simp at this; omega
      have := h _ rfl i (by omega)
      rw [addr_add] at this
      rw [this]
      rw [List.getElem?_map, List.getElem?_take_of_lt hi] at hv
      have hz' : zs[i]? = some zs[i] := by simp
      rw [hz'] at hv
      simp at hv
      simp [hv, show i < zs.length by omega]
theorem sem_of {ps rs : List SP} {sh : Bool} {f : densS ps → Option (densS (muts ps ++ rs))} {av : List V} {a : densS ps} {x : densS (muts ps ++ rs)} (hd : decE ps av 0 [] = some a) (hf : f a = some x) :
    (mkE ps rs sh f).sem (V × List Blk) av [] (fun v b => some (v, b)) = some (pack ((encF (muts ps ++ rs) x).drop (muts ps).length), (encB (muts ps ++ rs) x).map Prod.snd) := by
  simp [mkE, hd, hf]
/-- What is handed in, value by value. -/
def ArgsR (w : World) (vs : List V) (cs : List Value) : Prop := ∀ (i : Nat) u, vs[i]? = some u → ∃ c', cs[i]? = some c' ∧ RelA (fun _ => none) (fun b => b < w.heap.size) w u c'
theorem args0 {w : World} : ArgsR w [] [] := fun i u h => by simp at h
theorem argsS {w : World} {v : V} {c : Value} {vs : List V} {cs : List Value} (h : RelA (fun _ => none) (fun b => b < w.heap.size) w v c) (k : ArgsR w vs cs) : ArgsR w (v :: vs) (c :: cs) := by
  intro i u hu
  cases i with
  | zero => simp at hu; subst hu; exact ⟨c, rfl, h⟩
  | succ i => simpa using k i u (by simpa using hu)
theorem args_arr {w : World} {vs : List V} {cs : List Value} (h : ArgsR w vs cs) : ∀ (i : Nat) u, vs[i]? = some u → ∃ c', cs.toArray[i]? = some c' ∧ RelA (fun _ => none) (fun b => b < w.heap.size) w u c' := by
  intro i u hu
  obtain ⟨c, hc, r⟩ := h i u hu
  exact ⟨c, by simpa using hc, r⟩
theorem wf_i64 {n : Int} (h : (Lit.int .i64 n).wf = true) : -9223372036854775808 ≤ n ∧ n < 9223372036854775808 := by
  simp [Lit.wf, IntKind.min, IntKind.max, IntKind.signed, IntKind.bits] at h
  omega
end Ev
end
section
set_option linter.unusedVariables false
set_option linter.unusedSimpArgs false
namespace Ev
open Go

theorem no_M (b : Nat) : ¬ Rho.M (fun _ => none) b := fun ⟨_, _, h, _⟩ => by cases h
theorem relA_plain {ρ : Rho} {F : Nat → Prop} {w : World} {v : V} {c : Value} (hp : v.plain = true) : RelA ρ F w v c ↔ c = sv v := by
  rcases plain_not hp with ⟨k, n, rfl⟩ | ⟨b, rfl⟩ | ⟨s, rfl⟩ <;> simp [RelA, RelC, RelB, sv]
theorem relT_plain1 {ρ : Rho} {F : Nat → Prop} {w : World} {v : V} {c : Value} (hp : v.plain = true) : RelT ρ F w v c ↔ c = sv v := by
  rcases plain_not hp with ⟨k, n, rfl⟩ | ⟨b, rfl⟩ | ⟨s, rfl⟩ <;> simp [RelT, RelA, RelC, RelB, sv]
/-- The values that are handed in where all are plain. -/
theorem args_plain {ρ : Rho} {F : Nat → Prop} {w : World} {vs : List V} {ca : Array Value} (hs : ca.size = vs.length) (hp : allB V.plain vs = true)
    (h : ∀ (i : Nat) v, vs[i]? = some v → ∃ c, ca[i]? = some c ∧ RelA ρ F w v c) : ca = (vs.map sv).toArray := by
  apply Array.ext_getElem?
  intro i
  cases hv : vs[i]? with
  | none =>
    have : vs.length ≤ i := List.getElem?_eq_none_iff.mp hv
    rw [Array.getElem?_eq_none (by omega)]
    simp [hv]
  | some v =>
    obtain ⟨c, hc, r⟩ := h i v hv
    rw [hc, (relA_plain (allB_get hp v (List.mem_of_getElem? hv))).1 r]
    simp [hv]
theorem core_none {F : Nat → Prop} {w w' : World} (hs : ∀ b, F b → b < w.heap.size) (hg : Glob F w) (k : Chg (fun _ => False) w w') : Core (fun _ => none) F [] w' :=
  ⟨fun id loc blk h => (by cases h), fun i j li lj b h => (by cases h), fun b hb => ⟨Nat.lt_of_lt_of_le (hs b hb) k.size, no_M b⟩, hg.keep (fun _ h => h) fun b hb => k.block b (hs b hb) (fun e => e)⟩
/-- What comes back is one value, or several. -/
theorem relT_packs {ρ : Rho} {F : Nat → Prop} {w : World} {vs : List V} {cs : List Value} (hl : cs.length = vs.length)
    (h : ∀ (i : Nat) v, vs[i]? = some v → ∃ c, cs[i]? = some c ∧ RelT ρ F w v c ∧ RelA ρ F w v c) : RelT ρ F w (pack vs) (packC cs) :=
  pack_rel hl.symm fun i c hc => by
    have hi : i < vs.length := by have := (List.getElem?_eq_some_iff.mp hc).1; omega
    obtain ⟨c', hc', r⟩ := h i vs[i] (by simp [hi])
    rw [hc] at hc'; cases hc'
    exact ⟨vs[i], by simp [hi], r⟩
/-- A function of the program, of which a contract is known: nothing that it is handed is written. -/
theorem ok_hand {P : Program} {f : Nat} {fn : Func} {ps rs : List SP} {sh : Bool} {G : densS ps → Option (densS (muts ps ++ rs))} (hf : P.funcs[f]? = some fn) (hb : fn.body.isNone = false) (hn : fn.name ≠ "runtime.NumGoroutine")
    (hk : ∀ a, encB ps a = [])
    (h : ∀ a x, G a = some x → ∀ w F, Glob F w → (∀ b, F b → b < w.heap.size) → ∀ ca : Array Value, ca.size = (encF ps a).length → (∀ (i : Nat) v, (encF ps a)[i]? = some v → ∃ c, ca[i]? = some c ∧ RelA (fun _ => none) F w v c) →
      Calls P f ca w fun en w' => ∃ c ρ1, en = .returned c ∧ Core ρ1 F (enterSt 0 ((encB (muts ps ++ rs) x).map Prod.snd)) w' ∧ (∀ id l, ρ1 id = some l → id < ((encB (muts ps ++ rs) x).map Prod.snd).length) ∧
        RelT ρ1 F w' (pack ((encF (muts ps ++ rs) x).drop (muts ps).length)) c ∧ Chg (fun _ => False) w w' ∧ (∀ b, ρ1.M b → w.heap.size ≤ b)) : OK P f (mkE ps rs sh G) := by
  refine ⟨fun R av bs K r hs => ?_, fn, hf, hb, hn⟩
  simp only [mkE, Option.bind_eq_some_iff] at hs
  obtain ⟨a, h1, x, h2, hs⟩ := hs
  obtain ⟨e1, e2, _⟩ := decE_some h1
  have hbs : bs = [] := by
    rw [hk a] at e2
    cases bs with
    | nil => rfl
    | cons b bs => simp [enterSt] at e2
  subst hbs
  refine ⟨_, _, hs, ?_⟩
  intro w F0 ρ0 ca HC hid hsz hv
  have hρ : ρ0 = fun _ => none := by
    funext id
    cases hx : ρ0 id with
    | none => rfl
    | some l => exact absurd (hid id l hx) (by simp)
  subst hρ
  rw [e1] at hsz hv
  refine (h a x h2 w F0 HC.glob (fun b hb => (HC.stable b hb).1) ca hsz hv).mono ?_
  rintro en w' ⟨c, ρ1, he, hc, hd, hr, hk, hm⟩
  exact ⟨c, ρ1, F0, he, hc, fun id l hx => (by cases hx), hd, hr, hk.mono fun _ h => h.elim, fun b hb => .inr (hm b hb), fun b hb => .inl hb⟩
/-- The same where all that is handed in and all that comes back is plain. -/
theorem ok_plain {P : Program} {f : Nat} {fn : Func} {ps rs : List SP} {sh : Bool} {G : densS ps → Option (densS (muts ps ++ rs))} (hf : P.funcs[f]? = some fn) (hb : fn.body.isNone = false) (hn : fn.name ≠ "runtime.NumGoroutine")
    (hk : ∀ a, encB ps a = []) (hp : ∀ a, allB V.plain (encF ps a) = true) (hr : ∀ x, encB (muts ps ++ rs) x = [] ∧ allB V.plain ((encF (muts ps ++ rs) x).drop (muts ps).length) = true)
    (h : ∀ a x, G a = some x → ∀ w F, Glob F w → (∀ b, F b → b < w.heap.size) →
      Calls P f ((encF ps a).map sv).toArray w fun en w' => en = .returned (packC (((encF (muts ps ++ rs) x).drop (muts ps).length).map sv)) ∧ Chg (fun _ => False) w w') : OK P f (mkE ps rs sh G) := by
  refine ok_hand hf hb hn hk fun a x hx w F hg hs ca hsz hv => ?_
  rw [args_plain hsz (hp a) hv]
  refine (h a x hx w F hg hs).mono ?_
  rintro en w' ⟨rfl, k⟩
  obtain ⟨h1, h2⟩ := hr x
  refine ⟨_, fun _ => none, rfl, by rw [h1]; exact core_none hs hg k, fun id l h => (by cases h), ?_, k, fun b hb => (no_M b hb).elim⟩
  refine relT_packs (List.length_map _) fun i v hv => ?_
  have hp := allB_get h2 v (List.mem_of_getElem? hv)
  exact ⟨sv v, by rw [List.getElem?_map, hv]; rfl, (relT_plain1 hp).2 rfl, (relA_plain hp).2 rfl⟩
/-- New rows of the call's own. -/
structure Fresh (τ : Ty) (w w' : World) (l : List τ.den) (a : Option Addr) (cap : Nat) : Prop where
  len : l.length ≤ cap
  at_ : cap = 0 ∨ ∃ b s arr, a = some ⟨b, s, none⟩ ∧ w.heap.size ≤ b ∧ RowB w' b arr ∧ s + cap * τ.width ≤ arr.size ∧ At w' b s (flat τ l)
theorem Fresh.core {τ : Ty} {w w' : World} {l : List τ.den} {a : Option Addr} {cap : Nat} (H : Fresh τ w w' l a cap) {F : Nat → Prop} (hs : ∀ b, F b → b < w.heap.size) (hg : Glob F w) (k : Chg (fun _ => False) w w') :
    Core (Rho.set (fun _ => none) 0 (.row τ a l.length cap)) F (enterSt 0 [.rows τ l]) w' ∧ (∀ id x, Rho.set (fun _ => none) 0 (.row τ a l.length cap) id = some x → id < 1) ∧
      RelT (Rho.set (fun _ => none) 0 (.row τ a l.length cap)) F w' (.own 0) (.slice a l.length cap) ∧ RelA (Rho.set (fun _ => none) 0 (.row τ a l.length cap)) F w' (.own 0) (.slice a l.length cap) ∧ ∀ b, (Rho.set (fun _ => none) 0 (.row τ a l.length cap)).M b → w.heap.size ≤ b := by
  have hid : ∀ id x, Rho.set (fun _ => none) 0 (.row τ a l.length cap) id = some x → id = 0 ∧ x = .row τ a l.length cap := by
    intro id x h
    by_cases e : id = 0
    · subst e; rw [Rho.set_same] at h; cases h; exact ⟨rfl, rfl⟩
    · rw [Rho.set_other _ _ e] at h; cases h
  have hM : ∀ b, (Rho.set (fun _ => none) 0 (.row τ a l.length cap)).M b → w.heap.size ≤ b := by
    rintro b ⟨id, x, h, hb⟩
    obtain ⟨_, rfl⟩ := hid id x h
    rcases H.at_ with h0 | ⟨b', s, arr, rfl, hb', _⟩
    · subst h0; cases a <;> simp [Loc.block] at hb
    · simp only [Loc.block] at hb
      split at hb
      · cases hb
      · cases hb; exact hb'
  refine ⟨⟨fun id loc blk h1 h2 => ?_, fun i j li lj b h1 h2 _ _ => (hid i li h1).1.trans (hid j lj h2).1.symm, fun b hb => ⟨Nat.lt_of_lt_of_le (hs b hb) k.size, fun h => ?_⟩, hg.keep (fun _ h => h) fun b hb => k.block b (hs b hb) (fun e => e)⟩,
    fun id x h => (by rw [(hid id x h).1]; omega), ⟨τ, a, _, cap, Rho.set_same _ _ _, rfl⟩, ⟨τ, a, _, cap, Rho.set_same _ _ _, rfl⟩, hM⟩
  · obtain ⟨rfl, rfl⟩ := hid id loc h1
    simp [enterSt, look] at h2
    subst h2
    refine ⟨rfl, rfl, H.len, H.at_.imp id ?_⟩
    rintro ⟨b, s, arr, e, _, h3, h4, h5⟩
    exact ⟨b, s, arr, e, h3, h4, h5⟩
  · have := hM b h
    have := hs b hb
    omega
end Ev
end
section
set_option linter.unusedVariables false
set_option linter.unusedSimpArgs false
set_option linter.unnecessarySimpa false
namespace Ev
open Go

/-- The kinds of cells that a type of the program has. -/
inductive CK | int (k : IntKind) | bool | str | sl (τ : Ty)
  deriving DecidableEq
def Ty.kinds : Ty → List CK
  | .int => [.int .i64] | .u8 => [.int .u8] | .bool => [.bool] | .str => [.str]
  | .place => [.int .i64, .int .i64] | .box => [.int .i64, .int .i64, .int .i64, .int .i64]
  | .jet => [.int .i64, .int .i64, .int .i64, .int .i64, .int .i64] | .gust => [.int .i64, .int .i64, .int .i64]
  | .device => [.str, .int .i64, .str, .int .i64, .int .i64, .int .i64, .int .i64, .int .i64]
  | .cue => [.int .i64, .str, .int .i64, .int .i64] | .run => [.int .i64, .int .i64]
  | .block => [.int .i64, .int .i64, .int .i64, .int .i64, .int .i64, .int .i64, .int .i64, .int .i64]
  | .drop => [.str, .int .i64, .int .i64, .int .i64, .int .i64]
  | .throw => [.str, .int .i64, .int .i64, .int .i64, .int .i64, .int .i64, .int .i64]
/-- Numbers in their range, texts no longer than any. -/
def V.wf : V → Prop
  | .int k n => k.min ≤ n ∧ n ≤ k.max
  | .str s => s.length ≤ maxLen
  | _ => True
def Wf (τ : Ty) (d : τ.den) : Prop := ∀ v ∈ τ.cells d, v.wf
/-- A cell of its kind. -/
def KOK (w : World) : CK → Value → Prop
  | .int k, c => ∃ n, c = .int k n ∧ k.min ≤ n ∧ n ≤ k.max
  | .bool, c => ∃ b, c = .bool b
  | .str, c => ∃ s : Str, c = .string ⟨⟨s⟩⟩ ∧ s.length ≤ maxLen
  | .sl τ, c => ∃ l : List τ.den, RelB (fun _ => none) (fun b => b < w.heap.size) w (.lst τ l) c ∧ (∀ d ∈ l, Wf τ d) ∧ l.length ≤ maxLen
def KList (w : World) : List CK → List Value → Prop
  | [], [] => True
  | k :: ks, c :: cs => KOK w k c ∧ KList w ks cs
  | _, _ => False
theorem KList.append {w : World} : ∀ {a b : List CK} {x y : List Value}, KList w a x → KList w b y → KList w (a ++ b) (x ++ y)
  | [], b, [], y, _, h => h
  | k :: a, b, c :: x, y, h, g => ⟨h.1, KList.append h.2 g⟩
  | [], _, _ :: _, _, h, _ => h.elim
  | _ :: _, _, [], _, h, _ => h.elim
theorem KList.len {w : World} : ∀ {a : List CK} {x : List Value}, KList w a x → x.length = a.length
  | [], [], _ => rfl
  | k :: a, c :: x, h => by simp [KList.len h.2]
  | [], _ :: _, h => h.elim
  | _ :: _, [], h => h.elim
/-- The cells of a plain kind are a typed value. -/
theorem klist_cons {w : World} {k : CK} {ks : List CK} {cs : List Value} (h : KList w (k :: ks) cs) : ∃ c r, cs = c :: r ∧ KOK w k c ∧ KList w ks r := by
  cases cs with
  | nil => exact h.elim
  | cons c r => exact ⟨c, r, rfl, h.1, h.2⟩
theorem klist_nil {w : World} {cs : List Value} (h : KList w [] cs) : cs = [] := by
  cases cs with
  | nil => rfl
  | cons c r => exact h.elim
theorem kinds_den {w : World} (τ : Ty) {cs : List Value} (h : KList w τ.kinds cs) : ∃ d : τ.den, cs = (τ.cells d).map sv ∧ Wf τ d := by
  cases τ with
  | int =>
    simp only [Ty.kinds] at h
    have h0 := h
    clear h
    obtain ⟨c0, r0, e0, hc0, h1⟩ := klist_cons h0
    subst e0
    obtain ⟨x0, rfl, w0⟩ := hc0
    cases klist_nil h1
    refine ⟨x0, rfl, fun v hv => ?_⟩
    simp only [Ty.cells, List.mem_cons, List.not_mem_nil, or_false] at hv
    subst hv; exact w0
  | u8 =>
    simp only [Ty.kinds] at h
    have h0 := h
    clear h
    obtain ⟨c0, r0, e0, hc0, h1⟩ := klist_cons h0
    subst e0
    obtain ⟨x0, rfl, w0⟩ := hc0
    cases klist_nil h1
    refine ⟨x0, rfl, fun v hv => ?_⟩
    simp only [Ty.cells, List.mem_cons, List.not_mem_nil, or_false] at hv
    subst hv; exact w0
  | bool =>
    simp only [Ty.kinds] at h
    have h0 := h
    clear h
    obtain ⟨c0, r0, e0, hc0, h1⟩ := klist_cons h0
    subst e0
    obtain ⟨x0, rfl⟩ := hc0
    cases klist_nil h1
    refine ⟨x0, rfl, fun v hv => ?_⟩
    simp only [Ty.cells, List.mem_cons, List.not_mem_nil, or_false] at hv
    subst hv; exact trivial
  | str =>
    simp only [Ty.kinds] at h
    have h0 := h
    clear h
    obtain ⟨c0, r0, e0, hc0, h1⟩ := klist_cons h0
    subst e0
    obtain ⟨x0, rfl, w0⟩ := hc0
    cases klist_nil h1
    refine ⟨x0, rfl, fun v hv => ?_⟩
    simp only [Ty.cells, List.mem_cons, List.not_mem_nil, or_false] at hv
    subst hv; exact w0
  | place =>
    simp only [Ty.kinds] at h
    have h0 := h
    clear h
    obtain ⟨c0, r0, e0, hc0, h1⟩ := klist_cons h0
    subst e0
    obtain ⟨x0, rfl, w0⟩ := hc0
    obtain ⟨c1, r1, e1, hc1, h2⟩ := klist_cons h1
    subst e1
    obtain ⟨x1, rfl, w1⟩ := hc1
    cases klist_nil h2
    refine ⟨⟨x0, x1⟩, rfl, fun v hv => ?_⟩
    simp only [Ty.cells, List.mem_cons, List.not_mem_nil, or_false] at hv
    rcases hv with rfl | rfl <;> assumption
  | box =>
    simp only [Ty.kinds] at h
    have h0 := h
    clear h
    obtain ⟨c0, r0, e0, hc0, h1⟩ := klist_cons h0
    subst e0
    obtain ⟨x0, rfl, w0⟩ := hc0
    obtain ⟨c1, r1, e1, hc1, h2⟩ := klist_cons h1
    subst e1
    obtain ⟨x1, rfl, w1⟩ := hc1
    obtain ⟨c2, r2, e2, hc2, h3⟩ := klist_cons h2
    subst e2
    obtain ⟨x2, rfl, w2⟩ := hc2
    obtain ⟨c3, r3, e3, hc3, h4⟩ := klist_cons h3
    subst e3
    obtain ⟨x3, rfl, w3⟩ := hc3
    cases klist_nil h4
    refine ⟨⟨⟨x0, x1⟩, ⟨x2, x3⟩⟩, rfl, fun v hv => ?_⟩
    simp only [Ty.cells, List.mem_cons, List.not_mem_nil, or_false] at hv
    rcases hv with rfl | rfl | rfl | rfl <;> assumption
  | jet =>
    simp only [Ty.kinds] at h
    have h0 := h
    clear h
    obtain ⟨c0, r0, e0, hc0, h1⟩ := klist_cons h0
    subst e0
    obtain ⟨x0, rfl, w0⟩ := hc0
    obtain ⟨c1, r1, e1, hc1, h2⟩ := klist_cons h1
    subst e1
    obtain ⟨x1, rfl, w1⟩ := hc1
    obtain ⟨c2, r2, e2, hc2, h3⟩ := klist_cons h2
    subst e2
    obtain ⟨x2, rfl, w2⟩ := hc2
    obtain ⟨c3, r3, e3, hc3, h4⟩ := klist_cons h3
    subst e3
    obtain ⟨x3, rfl, w3⟩ := hc3
    obtain ⟨c4, r4, e4, hc4, h5⟩ := klist_cons h4
    subst e4
    obtain ⟨x4, rfl, w4⟩ := hc4
    cases klist_nil h5
    refine ⟨⟨⟨x0, x1⟩, x2, x3, x4⟩, rfl, fun v hv => ?_⟩
    simp only [Ty.cells, List.mem_cons, List.not_mem_nil, or_false] at hv
    rcases hv with rfl | rfl | rfl | rfl | rfl <;> assumption
  | gust =>
    simp only [Ty.kinds] at h
    have h0 := h
    clear h
    obtain ⟨c0, r0, e0, hc0, h1⟩ := klist_cons h0
    subst e0
    obtain ⟨x0, rfl, w0⟩ := hc0
    obtain ⟨c1, r1, e1, hc1, h2⟩ := klist_cons h1
    subst e1
    obtain ⟨x1, rfl, w1⟩ := hc1
    obtain ⟨c2, r2, e2, hc2, h3⟩ := klist_cons h2
    subst e2
    obtain ⟨x2, rfl, w2⟩ := hc2
    cases klist_nil h3
    refine ⟨⟨x0, ⟨x1, x2⟩⟩, rfl, fun v hv => ?_⟩
    simp only [Ty.cells, List.mem_cons, List.not_mem_nil, or_false] at hv
    rcases hv with rfl | rfl | rfl <;> assumption
  | device =>
    simp only [Ty.kinds] at h
    have h0 := h
    clear h
    obtain ⟨c0, r0, e0, hc0, h1⟩ := klist_cons h0
    subst e0
    obtain ⟨x0, rfl, w0⟩ := hc0
    obtain ⟨c1, r1, e1, hc1, h2⟩ := klist_cons h1
    subst e1
    obtain ⟨x1, rfl, w1⟩ := hc1
    obtain ⟨c2, r2, e2, hc2, h3⟩ := klist_cons h2
    subst e2
    obtain ⟨x2, rfl, w2⟩ := hc2
    obtain ⟨c3, r3, e3, hc3, h4⟩ := klist_cons h3
    subst e3
    obtain ⟨x3, rfl, w3⟩ := hc3
    obtain ⟨c4, r4, e4, hc4, h5⟩ := klist_cons h4
    subst e4
    obtain ⟨x4, rfl, w4⟩ := hc4
    obtain ⟨c5, r5, e5, hc5, h6⟩ := klist_cons h5
    subst e5
    obtain ⟨x5, rfl, w5⟩ := hc5
    obtain ⟨c6, r6, e6, hc6, h7⟩ := klist_cons h6
    subst e6
    obtain ⟨x6, rfl, w6⟩ := hc6
    obtain ⟨c7, r7, e7, hc7, h8⟩ := klist_cons h7
    subst e7
    obtain ⟨x7, rfl, w7⟩ := hc7
    cases klist_nil h8
    refine ⟨⟨x0, x1, x2, ⟨x3, x4⟩, x5, x6, x7⟩, rfl, fun v hv => ?_⟩
    simp only [Ty.cells, List.mem_cons, List.not_mem_nil, or_false] at hv
    rcases hv with rfl | rfl | rfl | rfl | rfl | rfl | rfl | rfl <;> assumption
  | cue =>
    simp only [Ty.kinds] at h
    have h0 := h
    clear h
    obtain ⟨c0, r0, e0, hc0, h1⟩ := klist_cons h0
    subst e0
    obtain ⟨x0, rfl, w0⟩ := hc0
    obtain ⟨c1, r1, e1, hc1, h2⟩ := klist_cons h1
    subst e1
    obtain ⟨x1, rfl, w1⟩ := hc1
    obtain ⟨c2, r2, e2, hc2, h3⟩ := klist_cons h2
    subst e2
    obtain ⟨x2, rfl, w2⟩ := hc2
    obtain ⟨c3, r3, e3, hc3, h4⟩ := klist_cons h3
    subst e3
    obtain ⟨x3, rfl, w3⟩ := hc3
    cases klist_nil h4
    refine ⟨⟨x0, x1, x2, x3⟩, rfl, fun v hv => ?_⟩
    simp only [Ty.cells, List.mem_cons, List.not_mem_nil, or_false] at hv
    rcases hv with rfl | rfl | rfl | rfl <;> assumption
  | run =>
    simp only [Ty.kinds] at h
    have h0 := h
    clear h
    obtain ⟨c0, r0, e0, hc0, h1⟩ := klist_cons h0
    subst e0
    obtain ⟨x0, rfl, w0⟩ := hc0
    obtain ⟨c1, r1, e1, hc1, h2⟩ := klist_cons h1
    subst e1
    obtain ⟨x1, rfl, w1⟩ := hc1
    cases klist_nil h2
    refine ⟨⟨x0, x1⟩, rfl, fun v hv => ?_⟩
    simp only [Ty.cells, List.mem_cons, List.not_mem_nil, or_false] at hv
    rcases hv with rfl | rfl <;> assumption
  | block =>
    simp only [Ty.kinds] at h
    have h0 := h
    clear h
    obtain ⟨c0, r0, e0, hc0, h1⟩ := klist_cons h0
    subst e0
    obtain ⟨x0, rfl, w0⟩ := hc0
    obtain ⟨c1, r1, e1, hc1, h2⟩ := klist_cons h1
    subst e1
    obtain ⟨x1, rfl, w1⟩ := hc1
    obtain ⟨c2, r2, e2, hc2, h3⟩ := klist_cons h2
    subst e2
    obtain ⟨x2, rfl, w2⟩ := hc2
    obtain ⟨c3, r3, e3, hc3, h4⟩ := klist_cons h3
    subst e3
    obtain ⟨x3, rfl, w3⟩ := hc3
    obtain ⟨c4, r4, e4, hc4, h5⟩ := klist_cons h4
    subst e4
    obtain ⟨x4, rfl, w4⟩ := hc4
    obtain ⟨c5, r5, e5, hc5, h6⟩ := klist_cons h5
    subst e5
    obtain ⟨x5, rfl, w5⟩ := hc5
    obtain ⟨c6, r6, e6, hc6, h7⟩ := klist_cons h6
    subst e6
    obtain ⟨x6, rfl, w6⟩ := hc6
    obtain ⟨c7, r7, e7, hc7, h8⟩ := klist_cons h7
    subst e7
    obtain ⟨x7, rfl, w7⟩ := hc7
    cases klist_nil h8
    refine ⟨⟨x0, x1, x2, x3, x4, x5, x6, x7⟩, rfl, fun v hv => ?_⟩
    simp only [Ty.cells, List.mem_cons, List.not_mem_nil, or_false] at hv
    rcases hv with rfl | rfl | rfl | rfl | rfl | rfl | rfl | rfl <;> assumption
  | drop =>
    simp only [Ty.kinds] at h
    have h0 := h
    clear h
    obtain ⟨c0, r0, e0, hc0, h1⟩ := klist_cons h0
    subst e0
    obtain ⟨x0, rfl, w0⟩ := hc0
    obtain ⟨c1, r1, e1, hc1, h2⟩ := klist_cons h1
    subst e1
    obtain ⟨x1, rfl, w1⟩ := hc1
    obtain ⟨c2, r2, e2, hc2, h3⟩ := klist_cons h2
    subst e2
    obtain ⟨x2, rfl, w2⟩ := hc2
    obtain ⟨c3, r3, e3, hc3, h4⟩ := klist_cons h3
    subst e3
    obtain ⟨x3, rfl, w3⟩ := hc3
    obtain ⟨c4, r4, e4, hc4, h5⟩ := klist_cons h4
    subst e4
    obtain ⟨x4, rfl, w4⟩ := hc4
    cases klist_nil h5
    refine ⟨⟨x0, x1, ⟨x2, x3⟩, x4⟩, rfl, fun v hv => ?_⟩
    simp only [Ty.cells, List.mem_cons, List.not_mem_nil, or_false] at hv
    rcases hv with rfl | rfl | rfl | rfl | rfl <;> assumption
  | throw =>
    simp only [Ty.kinds] at h
    have h0 := h
    clear h
    obtain ⟨c0, r0, e0, hc0, h1⟩ := klist_cons h0
    subst e0
    obtain ⟨x0, rfl, w0⟩ := hc0
    obtain ⟨c1, r1, e1, hc1, h2⟩ := klist_cons h1
    subst e1
    obtain ⟨x1, rfl, w1⟩ := hc1
    obtain ⟨c2, r2, e2, hc2, h3⟩ := klist_cons h2
    subst e2
    obtain ⟨x2, rfl, w2⟩ := hc2
    obtain ⟨c3, r3, e3, hc3, h4⟩ := klist_cons h3
    subst e3
    obtain ⟨x3, rfl, w3⟩ := hc3
    obtain ⟨c4, r4, e4, hc4, h5⟩ := klist_cons h4
    subst e4
    obtain ⟨x4, rfl, w4⟩ := hc4
    obtain ⟨c5, r5, e5, hc5, h6⟩ := klist_cons h5
    subst e5
    obtain ⟨x5, rfl, w5⟩ := hc5
    obtain ⟨c6, r6, e6, hc6, h7⟩ := klist_cons h6
    subst e6
    obtain ⟨x6, rfl, w6⟩ := hc6
    cases klist_nil h7
    refine ⟨⟨x0, x1, ⟨⟨x2, x3⟩, x4, x5, x6⟩⟩, rfl, fun v hv => ?_⟩
    simp only [Ty.cells, List.mem_cons, List.not_mem_nil, or_false] at hv
    rcases hv with rfl | rfl | rfl | rfl | rfl | rfl | rfl <;> assumption
/-- Of each number something: a list of them. -/
theorem pick {α : Type} {p : Nat → α → Prop} : ∀ (len : Nat), (∀ i, i < len → ∃ d, p i d) → ∃ ds : List α, ds.length = len ∧ ∀ (i : Nat) d, ds[i]? = some d → p i d
  | 0, _ => ⟨[], rfl, fun i d h => by simp at h⟩
  | k + 1, each => by
    obtain ⟨ds, h1, h2⟩ := pick k fun i hi => each i (by omega)
    obtain ⟨d, h3⟩ := each k (by omega)
    refine ⟨ds ++ [d], by simp [h1], fun i d' hd => ?_⟩
    by_cases hi : i < ds.length
    · rw [List.getElem?_append_left hi] at hd; exact h2 i d' hd
    · have hi' : i = ds.length := by
        have := (List.getElem?_eq_some_iff.mp hd).1
        simp at this; omega
      subst hi'
      simp at hd; subst hd
      rw [h1]; exact h3
/-! ### Types of the program -/
def fieldsK (P : Program) (rec : TypeId → Option (List CK)) : Nat → List Field → Option (List CK)
  | _, [] => some []
  | off, f :: fs => cond (Nat.beq f.offset off) ((rec f.type).bind fun ks => cond (Nat.beq (P.cellsOf f.type) ks.length) ((fieldsK P rec (off + ks.length) fs).map fun r => ks ++ r) none) none
def copiesK : Nat → List CK → List CK
  | 0, _ => []
  | n + 1, ks => ks ++ copiesK n ks
/-- The kinds of a type's cells; 'se': what the elements of its slices are. -/
def kindsOf (P : Program) (se : TypeId → Option Ty) : Nat → TypeId → Option (List CK)
  | 0, _ => none
  | n + 1, t => match P.underlying t with
    | some (.int k) => some [.int k]
    | some .bool => some [.bool]
    | some .string => some [.str]
    | some (.slice e) => (se e).map fun τ => [.sl τ]
    | some (.struct fs) => (fieldsK P (kindsOf P se n) 0 fs.toList).bind fun ks => cond (Nat.beq (P.cellsOf t) ks.length) (some ks) none
    | some (.array m e) => (kindsOf P se n e).bind fun ks => cond (Nat.beq (P.cellsOf e) ks.length && Nat.beq (P.cellsOf t) (copiesK m ks).length) (some (copiesK m ks)) none
    | _ => none
section
variable {H : Type} {enc : TypeId × Value → H} {P : Program} {w : World} {base : Nat} {spare : Nat → Bool} {held : Bool}
theorem kinds_struct {se : TypeId → Option Ty} {n : Nat} (ih : ∀ (t : TypeId) (ks : List CK) (fuel : Nat) (cs : List Value) (x : DataW H × List MemPlace), kindsOf P se n t = some ks → DataW.trod enc P w base spare held fuel t cs = some x → KList w ks cs) :
    ∀ (fs : List Field) (off : Nat) (ks : List CK) (cs : List Value) (fuel : Nat), fieldsK P (kindsOf P se n) off fs = some ks → cs.length = off + ks.length →
      (∀ f ∈ fs, ∃ x, DataW.trod enc P w base spare held fuel f.type ((cs.drop f.offset).take (P.cellsOf f.type)) = some x) → KList w ks (cs.drop off)
  | [], off, ks, cs, fuel, h, hl, _ => by
    simp [fieldsK] at h; subst h
    simp at hl
    rw [List.drop_eq_nil_of_le (by omega)]; trivial
  | f :: fs, off, ks, cs, fuel, h, hl, hf => by
    simp only [fieldsK] at h
    cases hb : Nat.beq f.offset off <;> simp only [hb, cond_true, cond_false] at h
    · cases h
    have ho := Nat.eq_of_beq_eq_true hb
    simp only [Option.bind_eq_some_iff] at h
    obtain ⟨k1, h1, h⟩ := h
    cases hb2 : Nat.beq (P.cellsOf f.type) k1.length <;> simp only [hb2, cond_true, cond_false] at h
    · cases h
    have hc := Nat.eq_of_beq_eq_true hb2
    simp only [Option.map_eq_some_iff] at h
    obtain ⟨k2, h2, h⟩ := h
    subst h
    simp only [List.length_append] at hl
    obtain ⟨x, hx⟩ := hf f (by simp)
    have a := ih f.type k1 fuel _ x h1 hx
    have b := kinds_struct ih fs (off + k1.length) k2 cs fuel h2 (by omega) fun g hg => hf g (by simp [hg])
    rw [ho, hc] at a
    have e : cs.drop off = (cs.drop off).take k1.length ++ cs.drop (off + k1.length) := by
      rw [← List.drop_drop, List.take_append_drop]
    rw [e]
    exact a.append b
theorem kinds_array {w : World} {ks : List CK} {c : Nat} (hc : c = ks.length) : ∀ (m : Nat) (cs : List Value), cs.length = (copiesK m ks).length → (∀ i, i < m → KList w ks ((cs.drop (i * c)).take c)) → KList w (copiesK m ks) cs
  | 0, cs, hl, _ => by simp [copiesK] at hl; subst hl; trivial
  | m + 1, cs, hl, h => by
    simp only [copiesK, List.length_append] at hl ⊢
    have a := h 0 (by omega)
    rw [Nat.zero_mul, List.drop_zero] at a
    have b := kinds_array hc m (cs.drop c) (by simp; omega) fun i hi => by
      have := h (i + 1) (by omega)
      rw [List.drop_drop, show c + i * c = (i + 1) * c by rw [Nat.add_mul, Nat.one_mul, Nat.add_comm]]
      exact this
    have := a.append b
    rwa [List.take_append_drop] at this
/-- The elements of the slices are what they are taken for. -/
def SeOK (P : Program) (se : TypeId → Option Ty) : Prop := ∀ e τ, se e = some τ → kindsOf P (fun _ => none) 6 e = some τ.kinds ∧ P.cellsOf e = τ.width
theorem kinds_len (τ : Ty) : τ.kinds.length = τ.width := by cases τ <;> rfl
theorem flat_at (τ : Ty) : ∀ (ds : List τ.den) (i : Nat) (v : Value), (flat τ ds)[i]? = some v → ∃ d, ds[i / τ.width]? = some d ∧ ((τ.cells d).map sv)[i % τ.width]? = some v
  | [], i, v, h => by simp [flat_nil] at h
  | d :: ds, i, v, h => by
    rw [flat_cons] at h
    have hw := width_pos τ
    by_cases hi : i < τ.width
    · rw [List.getElem?_append_left (by simp [cells_length, hi])] at h
      rw [Nat.div_eq_of_lt hi, Nat.mod_eq_of_lt hi]
      exact ⟨d, rfl, h⟩
    · rw [List.getElem?_append_right (by simp [cells_length]; omega)] at h
      obtain ⟨d', h1, h2⟩ := flat_at τ ds (i - τ.width) v (by simpa [cells_length] using h)
      have e : i = i - τ.width + τ.width := by omega
      refine ⟨d', ?_, ?_⟩
      · rw [e, Nat.add_div_right _ hw]; exact h1
      · rw [e, Nat.add_mod_right]; exact h2
theorem kinds_slice {e : TypeId} {τ : Ty} (hk : ∀ (fuel : Nat) (cs : List Value) (x : DataW H × List MemPlace), DataW.trod enc P w base spare held fuel e cs = some x → KList w τ.kinds cs) (hc : P.cellsOf e = τ.width)
    {t : TypeId} (ht : P.underlying t = some (.slice e)) {fuel : Nat} {cs : List Value} {x : DataW H × List MemPlace} (h : DataW.trod enc P w base spare held fuel t cs = some x) : KList w [.sl τ] cs := by
  rcases DataW.trod_slice ht h with ⟨rfl, _⟩ | ⟨a, len, cap, elems, rest, n, _, rfl, _, _, hl, hm, hlen, hel, _⟩
  · exact ⟨⟨[], ⟨none, 0, rfl, Nat.le_refl _, .inl rfl⟩, fun d hd => by simp at hd, by simp⟩, trivial⟩
  · refine ⟨?_, trivial⟩
    have each : ∀ i, i < len → ∃ d : τ.den, Wf τ d ∧ ∀ j v, ((τ.cells d).map sv)[j]? = some v → w.cell? ((a.add (i * τ.width)).add j) = some v := by
      intro i hi
      have := hel i hi
      rw [List.getElem?_eq_getElem (by omega)] at this
      simp only [Option.bind_eq_some_iff] at this
      obtain ⟨cs', h1, h2⟩ := this
      rw [hc] at h1
      obtain ⟨d, hd, hw⟩ := kinds_den τ (hk _ _ _ h2)
      refine ⟨d, hw, fun j v hv => ?_⟩
      obtain ⟨_, g2, g3⟩ := World.cells?_some h1
      have hj : j < cs'.length := by rw [hd]; exact (List.getElem?_eq_some_iff.mp hv).1
      have := g3 j (by omega)
      rw [this, hd, hv]
    obtain ⟨ds, hdl, hds⟩ := pick len each
    refine ⟨ds, ⟨some a, cap, by rw [hdl], by omega, ?_⟩, fun d hd => ?_, by omega⟩
    · by_cases h0 : ds = []
      · exact .inl h0
      · right
        have hpos : 0 < ds.length := List.length_pos_iff.mpr h0
        have hw := width_pos τ
        obtain ⟨_, g⟩ := hds 0 ds[0] (by simp)
        have hcl : 0 < ((τ.cells ds[0]).map sv).length := by simp [cells_length]; exact hw
        have h1 := g 0 _ (List.getElem?_eq_getElem hcl)
        have h1' : w.cell? a = some ((τ.cells ds[0]).map sv)[0] := by simpa [Addr.add] using h1
        have hsp : a.spot = none := by
          unfold World.cell? at h1'
          cases hs : a.spot with
          | none => rfl
          | some k => simp [hs] at h1'; split at h1' <;> simp at h1'
        have hb : a.block < w.heap.size := by
          unfold World.cell? at h1'
          rcases Nat.lt_or_ge a.block w.heap.size with h | h
          · exact h
          · simp [Array.getElem?_eq_none h] at h1'
        obtain ⟨b, s, sp⟩ := a
        simp only at hsp hb; subst hsp
        refine ⟨b, s, rfl, hb, fun i v hv => ?_⟩
        obtain ⟨d, hd, hv'⟩ := flat_at τ ds i v hv
        have := (hds _ _ hd).2 _ _ hv'
        rw [addr_add, addr_add] at this
        rw [← this, show s + i / τ.width * τ.width + i % τ.width = s + i by
          have := Nat.div_add_mod i τ.width
          rw [Nat.mul_comm] at this
          omega]
    · obtain ⟨i, hi⟩ := List.mem_iff_getElem?.mp hd
      exact (hds i d hi).1
theorem kinds_sound {se : TypeId → Option Ty} (hse : ∀ e τ, se e = some τ → P.cellsOf e = τ.width ∧ ∀ (fuel : Nat) (cs : List Value) (x : DataW H × List MemPlace), DataW.trod enc P w base spare held fuel e cs = some x → KList w τ.kinds cs) :
    ∀ (n : Nat) (t : TypeId) (ks : List CK) (fuel : Nat) (cs : List Value) (x : DataW H × List MemPlace), kindsOf P se n t = some ks → DataW.trod enc P w base spare held fuel t cs = some x → KList w ks cs
  | 0, t, ks, fuel, cs, x, h, _ => by simp [kindsOf] at h
  | n + 1, t, ks, fuel, cs, x, h, ht => by
    have ih := kinds_sound hse n
    unfold kindsOf at h
    split at h
    · rename_i k hu
      cases h
      obtain ⟨m, rfl, _, hw⟩ := DataW.trod_int hu ht
      simp [Lit.wf] at hw
      exact ⟨⟨m, rfl, hw⟩, trivial⟩
    · rename_i hu
      cases h
      obtain ⟨b, rfl, _⟩ := DataW.trod_bool hu ht
      exact ⟨⟨b, rfl⟩, trivial⟩
    · rename_i hu
      cases h
      obtain ⟨s, rfl, _, hs⟩ := DataW.trod_string hu ht
      exact ⟨⟨s.data.toList, rfl, hs⟩, trivial⟩
    · rename_i e hu
      simp only [Option.map_eq_some_iff] at h
      obtain ⟨τ, hτ, rfl⟩ := h
      obtain ⟨h1, h2⟩ := hse e τ hτ
      exact kinds_slice h2 h1 hu ht
    · rename_i fs hu
      simp only [Option.bind_eq_some_iff] at h
      obtain ⟨k1, h1, h⟩ := h
      cases hb : Nat.beq (P.cellsOf t) k1.length <;> simp only [hb, cond_true, cond_false] at h
      · cases h
      cases h
      obtain ⟨xs, m, _, _, hl, hxl, hx⟩ := DataW.trod_struct hu ht
      have := kinds_struct (enc := enc) (base := base) (spare := spare) (held := held) ih fs.toList 0 ks cs m h1 (by rw [hl, Nat.eq_of_beq_eq_true hb]; omega) fun f hf => by
        obtain ⟨i, hi⟩ := List.mem_iff_getElem?.mp hf
        have hi' : fs[i]? = some f := by simpa using hi
        have := hx i f hi'
        rw [List.getElem?_eq_getElem (by rw [hxl]; exact (Array.getElem?_eq_some_iff.mp hi').1)] at this
        exact ⟨_, this⟩
      simpa using this
    · rename_i m e hu
      simp only [Option.bind_eq_some_iff] at h
      obtain ⟨k1, h1, h⟩ := h
      cases hb : (Nat.beq (P.cellsOf e) k1.length && Nat.beq (P.cellsOf t) (copiesK m k1).length) <;> simp only [hb, cond_true, cond_false] at h
      · cases h
      cases h
      rw [Bool.and_eq_true] at hb
      obtain ⟨xs, f, _, _, hl, hxl, hx⟩ := DataW.trod_array hu ht
      refine kinds_array (Nat.eq_of_beq_eq_true hb.1) m cs (by rw [hl, Nat.eq_of_beq_eq_true hb.2]) fun i hi => ?_
      have := hx i hi
      rw [List.getElem?_eq_getElem (by omega)] at this
      exact ih e k1 f _ _ h1 this
    · cases h
theorem kinds_open {se : TypeId → Option Ty} (hse : SeOK P se) {n : Nat} {t : TypeId} {ks : List CK} {fuel : Nat} {cs : List Value} {x : DataW H × List MemPlace} (h : kindsOf P se n t = some ks) (ht : DataW.trod enc P w base spare held fuel t cs = some x) : KList w ks cs :=
  kinds_sound (fun e τ he => ⟨(hse e τ he).2, fun fuel cs x hx => kinds_sound (se := fun _ => none) (fun _ _ h => by cases h) 6 e τ.kinds fuel cs x (hse e τ he).1 hx⟩) n t ks fuel cs x h ht
def seL : List (Nat × Ty) → TypeId → Option Ty
  | [], _ => none
  | (i, τ) :: r, n => cond (Nat.beq i n) (some τ) (seL r n)
def seB (P : Program) : List (Nat × Ty) → Bool
  | [] => true
  | (e, τ) :: r => decide (kindsOf P (fun _ => none) 6 e = some τ.kinds) && Nat.beq (P.cellsOf e) τ.width && seB P r
theorem seB_ok : ∀ {l : List (Nat × Ty)}, seB P l = true → SeOK P (seL l)
  | [], _, e, τ, h => by simp [seL] at h
  | (i, t) :: r, hb, e, τ, h => by
    simp only [seB, Bool.and_eq_true, decide_eq_true_eq] at hb
    simp only [seL] at h
    cases hi : Nat.beq i e <;> simp only [hi, cond_true, cond_false] at h
    · exact seB_ok hb.2 e τ h
    · cases h
      have := Nat.eq_of_beq_eq_true hi
      subst this
      exact ⟨hb.1.1, Nat.eq_of_beq_eq_true hb.1.2⟩
/-- A slice that is handed in. -/
theorem open_rows {l : List (Nat × Ty)} (hse : seB P l = true) {t : TypeId} {τ : Ty} {fuel : Nat} {c : Value} {x : DataW H × List MemPlace} (h : kindsOf P (seL l) 4 t = some [.sl τ])
    (ht : DataW.trod enc P w base spare held fuel t [c] = some x) : ∃ ds : List τ.den, RelA (fun _ => none) (fun b => b < w.heap.size) w (.lst τ ds) c ∧ (∀ d ∈ ds, Wf τ d) ∧ ds.length ≤ maxLen := by
  obtain ⟨⟨ds, h1, h2, h3⟩, _⟩ := kinds_open (seB_ok hse) h ht
  exact ⟨ds, h1, h2, h3⟩
/-- A struct of plain cells that is handed in. -/
theorem open_struct {l : List (Nat × Ty)} (hse : seB P l = true) {t : TypeId} (τ : Ty) {fuel : Nat} {cs : List Value} {x : DataW H × List MemPlace} (h : kindsOf P (seL l) 4 t = some τ.kinds)
    (ht : DataW.trod enc P w base spare held fuel t cs = some x) : ∃ d : τ.den, cs = (τ.cells d).map sv ∧ Wf τ d := kinds_den τ (kinds_open (seB_ok hse) h ht)
theorem relA_agg {ρ : Rho} {F : Nat → Prop} (τ : Ty) (d : τ.den) {ca : Array Value} (h : ca.toList = (τ.cells d).map sv) : RelA ρ F w (.agg (τ.cells d)) (.agg ca) := by
  have hs : ca.size = (τ.cells d).length := by
    have := congrArg List.length h
    simpa using this
  refine ⟨ca, rfl, hs, fun i v hv => ⟨sv v, ?_, ?_⟩⟩
  · have : ca.toList[i]? = some (sv v) := by rw [h, List.getElem?_map, hv]; rfl
    simpa using this
  · have hp := cells_plain τ d v (List.mem_of_getElem? hv)
    rcases plain_not hp with ⟨k, n, rfl⟩ | ⟨b, rfl⟩ | ⟨s, rfl⟩ <;> rfl
/-- Cell by cell. -/
def RelL (w : World) : List V → List Value → Prop
  | [], [] => True
  | v :: vs, c :: cs => RelC (fun _ => none) (fun b => b < w.heap.size) w v c ∧ RelL w vs cs
  | _, _ => False
theorem relL_at : ∀ {vs : List V} {cs : List Value}, RelL w vs cs → cs.length = vs.length ∧ ∀ (i : Nat) v, vs[i]? = some v → ∃ c, cs[i]? = some c ∧ RelC (fun _ => none) (fun b => b < w.heap.size) w v c
  | [], [], _ => ⟨rfl, fun i v h => by simp at h⟩
  | v :: vs, c :: cs, h => by
    obtain ⟨a, b⟩ := relL_at h.2
    refine ⟨by simp [a], fun i u hu => ?_⟩
    cases i with
    | zero => simp at hu; subst hu; exact ⟨c, rfl, h.1⟩
    | succ i => simpa using b i u (by simpa using hu)
  | [], _ :: _, h => h.elim
  | _ :: _, [], h => h.elim
theorem relA_list {vs : List V} {ca : Array Value} (h : RelL w vs ca.toList) : RelA (fun _ => none) (fun b => b < w.heap.size) w (.agg vs) (.agg ca) := by
  obtain ⟨a, b⟩ := relL_at h
  refine ⟨ca, rfl, by simpa using a, fun i v hv => ?_⟩
  obtain ⟨c, hc, r⟩ := b i v hv
  exact ⟨c, by simpa using hc, r⟩
end
end Ev
end
