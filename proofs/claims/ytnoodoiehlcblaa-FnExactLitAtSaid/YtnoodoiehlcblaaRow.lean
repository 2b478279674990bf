/- From what a law's function computes to what the machine does with what is handed in. -/
import Derived.Test.YtnoodoiehlcblaaGen
import Derived.Below
set_option linter.unusedVariables false
set_option linter.unusedSimpArgs false
namespace Ev
open Go Go.RowKit

theorem calls_of_sem {P : Program} {f : Nat} {e : Entry} (ok : OK P f e) {av : List V} {res : V} {out : List Blk} (h : e.sem (V × List Blk) av [] (fun v b => some (v, b)) = some (res, out)) {w : World} {ca : Array Value}
    (hs : ca.size = av.length) (hv : ∀ (i : Nat) v, av[i]? = some v → ∃ c, ca[i]? = some c ∧ RelA (fun _ => none) (fun b => b < w.heap.size) w v c) :
    Calls P f ca w fun en w' => ∃ c ρ F, en = .returned c ∧ RelT ρ F w' res c ∧ Below w.heap.size w w' := by
  obtain ⟨res', out', hk, hE⟩ := ok.ent _ av [] _ _ h
  cases hk
  have no : ∀ b, ¬ Rho.M (fun _ => none) b := fun b ⟨_, _, h, _⟩ => by cases h
  refine (hE w _ (fun _ => none) ca ⟨fun id loc blk h => (by cases h), fun i j li lj b h => (by cases h), fun b hb => ⟨hb, no b⟩⟩ (fun id l h => (by cases h)) hs hv).mono fun en w' ⟨c, ρ1, F1, he, _, _, _, hr, hc, _, _⟩ => ?_
  exact ⟨c, ρ1, F1, he, hr, hc.os, hc.tape, hc.output, hc.size, fun k hk => hc.block k hk (no k)⟩
theorem calls_true {P : Program} {f : Nat} {e : Entry} (ok : OK P f e) {av : List V} {out : List Blk} (h : e.sem (V × List Blk) av [] (fun v b => some (v, b)) = some (.bool true, out)) {w : World} {ca : Array Value}
    (hs : ca.size = av.length) (hv : ∀ (i : Nat) v, av[i]? = some v → ∃ c, ca[i]? = some c ∧ RelA (fun _ => none) (fun b => b < w.heap.size) w v c) :
    Calls P f ca w fun en w' => en = .returned (.bool true) ∧ Below w.heap.size w w' :=
  (calls_of_sem ok h hs hv).mono fun en w' ⟨c, ρ, F, he, hr, hb⟩ => ⟨by rw [he]; exact congrArg _ hr, hb⟩
theorem args1 {w : World} {v : V} {c : Value} (h : RelA (fun _ => none) (fun b => b < w.heap.size) w v c) :
    ∀ (i : Nat) u, [v][i]? = some u → ∃ c', #[c][i]? = some c' ∧ RelA (fun _ => none) (fun b => b < w.heap.size) w u c' := by
  intro i u hu
  cases i with
  | zero => simp at hu; subst hu; exact ⟨c, rfl, h⟩
  | succ i => simp at hu
theorem rel_ints {w : World} {a : Option Addr} {len cap : Nat} {zs : List Int} (hl : len ≤ cap) (hz : len ≤ zs.length) (hn : a = none → len = 0)
    (h : ∀ x, a = some x → ∀ i, i < zs.length → w.cell? (x.add i) = some (.int .i64 (zs.getD i 0))) :
    RelA (fun _ => none) (fun b => b < w.heap.size) w (.lst .int (zs.take len)) (.slice a len cap) := by
  have hlen : (zs.take len).length = len := by simp; omega
  refine ⟨a, cap, by rw [hlen], by omega, ?_⟩
  by_cases h0 : len = 0
  · left; subst h0; simp
  · right
    cases a with
    | none => exact absurd (hn rfl) h0
    | some x =>
      have h1 := h x rfl 0 (by omega)
      have hsp : x.spot = none := by
        simp only [Addr.add, if_true] at h1
        unfold World.cell? at h1
        cases hs : x.spot with
        | none => rfl
        | some k => simp [hs] at h1; split at h1 <;> simp at h1
      have hb : x.block < w.heap.size := by
        simp only [Addr.add, if_true] at h1
        unfold World.cell? at h1
        rcases Nat.lt_or_ge x.block w.heap.size with h | h
        · exact h
        · simp [Array.getElem?_eq_none h] at h1
      obtain ⟨b, s, sp⟩ := x
      simp only at hsp hb; subst hsp
      refine ⟨b, s, rfl, hb, fun i v hv => ?_⟩
      have hf : flat .int (zs.take len) = (zs.take len).map fun n => Value.int .i64 n := by
        unfold flat
        induction zs.take len with
        | nil => rfl
        | cons x r ih => rw [List.flatMap_cons, ih]; rfl
      rw [hf] at hv
      have hi : i < len := by
        have := (List.getElem?_eq_some_iff.mp hv).1
        simp at this; omega
      have := h _ rfl i (by omega)
      rw [addr_add] at this
      rw [this]
      rw [List.getElem?_map, List.getElem?_take_of_lt hi] at hv
      have hz' : zs[i]? = some zs[i] := by simp
      rw [hz'] at hv
      simp at hv
      simp [hv, show i < zs.length by omega]
theorem sem_of {ps rs : List SP} {sh : Bool} {f : densS ps → Option (densS (muts ps ++ rs))} {av : List V} {a : densS ps} {x : densS (muts ps ++ rs)} (hd : decE ps av 0 [] = some a) (hf : f a = some x) :
    (mkE ps rs sh f).sem (V × List Blk) av [] (fun v b => some (v, b)) = some (pack ((encF (muts ps ++ rs) x).drop (muts ps).length), (encB (muts ps ++ rs) x).map Prod.snd) := by
  simp [mkE, hd, hf]
/-- What is handed in, value by value. -/
def ArgsR (w : World) (vs : List V) (cs : List Value) : Prop := ∀ (i : Nat) u, vs[i]? = some u → ∃ c', cs[i]? = some c' ∧ RelA (fun _ => none) (fun b => b < w.heap.size) w u c'
theorem args0 {w : World} : ArgsR w [] [] := fun i u h => by simp at h
theorem argsS {w : World} {v : V} {c : Value} {vs : List V} {cs : List Value} (h : RelA (fun _ => none) (fun b => b < w.heap.size) w v c) (k : ArgsR w vs cs) : ArgsR w (v :: vs) (c :: cs) := by
  intro i u hu
  cases i with
  | zero => simp at hu; subst hu; exact ⟨c, rfl, h⟩
  | succ i => simpa using k i u (by simpa using hu)
theorem args_arr {w : World} {vs : List V} {cs : List Value} (h : ArgsR w vs cs) : ∀ (i : Nat) u, vs[i]? = some u → ∃ c', cs.toArray[i]? = some c' ∧ RelA (fun _ => none) (fun b => b < w.heap.size) w u c' := by
  intro i u hu
  obtain ⟨c, hc, r⟩ := h i u hu
  exact ⟨c, by simpa using hc, r⟩
theorem wf_i64 {n : Int} (h : (Lit.int .i64 n).wf = true) : -9223372036854775808 ≤ n ∧ n < 9223372036854775808 := by
  simp [Lit.wf, IntKind.min, IntKind.max, IntKind.signed, IntKind.bits] at h
  omega
end Ev
