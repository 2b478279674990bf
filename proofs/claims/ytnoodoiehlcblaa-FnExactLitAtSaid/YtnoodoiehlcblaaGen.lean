/- What the printed texts of the functions lean on. -/
import Derived.Test.YtnoodoiehlcblaaFun2
set_option linter.unusedVariables false
set_option linter.unusedSimpArgs false
namespace Ev
open Go

structure OK (P : Program) (f : Nat) (e : Entry) : Prop where
  ent : EntOK P f e
  fn : ∃ fn, P.funcs[f]? = some fn ∧ fn.body.isNone = false ∧ fn.name ≠ "runtime.NumGoroutine"
def envL : List (Nat × Entry) → Env
  | [], _ => none
  | (i, e) :: r, n => cond (Nat.beq i n) (some e) (envL r n)
def OKs (P : Program) : List (Nat × Entry) → Prop
  | [] => True
  | (i, e) :: r => OK P i e ∧ OKs P r
theorem OKs.nil {P : Program} : OKs P [] := trivial
theorem OKs.cons {P : Program} {i : Nat} {e : Entry} {r : List (Nat × Entry)} (h : OK P i e) (k : OKs P r) : OKs P ((i, e) :: r) := ⟨h, k⟩
theorem envL_at {P : Program} : ∀ {l : List (Nat × Entry)}, OKs P l → ∀ f e, envL l f = some e → OK P f e
  | [], _, f, e, h => by simp [envL] at h
  | (i, x) :: r, h, f, e, he => by
    simp only [envL] at he
    cases hb : Nat.beq i f <;> simp only [hb, cond_true, cond_false] at he
    · exact envL_at h.2 f e he
    · cases he; have := Nat.eq_of_beq_eq_true hb; subst this; exact h.1
theorem envL_ok {P : Program} {l : List (Nat × Entry)} (h : OKs P l) : EnvOK P (envL l) := ⟨fun f e he => (envL_at h f e he).ent, fun f e he => (envL_at h f e he).fn⟩
def lenv {R : Type} : List (Nat × (St → (St → Option R) → Option R)) → LEnv R
  | [], _ => none
  | (i, l) :: r, n => cond (Nat.beq i n) (some l) (lenv r n)
def loopsOf : Code → List (Nat × Code)
  | .block id (.loop c) => (id, c) :: loopsOf c
  | .block _ c => loopsOf c
  | .seq a b => loopsOf a ++ loopsOf b
  | .cond _ a b => loopsOf a ++ loopsOf b
  | _ => []
def loopC (fn : Func) (k : Nat) : Code := match fn.body with
  | some c => match (loopsOf c)[k]? with
    | some p => p.2
    | none => .skip
  | none => .skip
def LoopP {R : Type} (E : Env) (T : Tab) (ann : Nat → Bool) (L : LEnv R) (kr : St → Option R) (id : Nat) (c : Code) : Prop :=
  ∃ (ps : List SP) (f : densS ps → (densS ps → Option R) → (densS ps → Option R) → Option R), L id = some (loopL ps f) ∧
    ∀ (X : Nat → St → Option R) (rec K : densS ps → Option R) (t : densS ps), ev E T ann L kr c (fun i s => cond (Nat.beq i id) (decK 100 ps s K) (X i s)) (fun s => decK 100 ps s rec) (enc ps t) = f t rec K
def LoopsP {R : Type} (E : Env) (T : Tab) (ann : Nat → Bool) (L : LEnv R) (kr : St → Option R) : List (Nat × Code) → Prop
  | [] => True
  | (id, c) :: r => LoopP E T ann L kr id c ∧ LoopsP E T ann L kr r
section
variable {R : Type} {E : Env} {T : Tab} {ann : Nat → Bool} {L : LEnv R} {kr : St → Option R}
theorem LoopsP.nil : LoopsP E T ann L kr [] := trivial
theorem LoopsP.cons {id : Nat} {c : Code} {r : List (Nat × Code)} (ps : List SP) (f : densS ps → (densS ps → Option R) → (densS ps → Option R) → Option R) (h : L id = some (loopL ps f))
    (k : ∀ (X : Nat → St → Option R) (rec K : densS ps → Option R) (t : densS ps), ev E T ann L kr c (fun i s => cond (Nat.beq i id) (decK 100 ps s K) (X i s)) (fun s => decK 100 ps s rec) (enc ps t) = f t rec K)
    (m : LoopsP E T ann L kr r) : LoopsP E T ann L kr ((id, c) :: r) := ⟨⟨ps, f, h, k⟩, m⟩
theorem loopsP_app {a b : List (Nat × Code)} (h : LoopsP E T ann L kr (a ++ b)) : LoopsP E T ann L kr a ∧ LoopsP E T ann L kr b := by
  induction a with
  | nil => exact ⟨trivial, h⟩
  | cons p a ih => obtain ⟨i, c⟩ := p; exact ⟨⟨h.1, (ih h.2).1⟩, (ih h.2).2⟩
theorem lok_of : (c : Code) → LoopsP E T ann L kr (loopsOf c) → LOK E T ann L kr c
  | .skip, _ => trivial
  | .region .., _ => trivial
  | .seq a b, h => ⟨lok_of a (loopsP_app h).1, lok_of b (loopsP_app h).2⟩
  | .cond _ a b, h => ⟨lok_of a (loopsP_app h).1, lok_of b (loopsP_app h).2⟩
  | .exit _, _ => trivial
  | .ret, _ => trivial
  | .block id c, h => by
    by_cases hc : ∃ b, c = .loop b
    · obtain ⟨b, rfl⟩ := hc
      exact ⟨h.1, lok_of b h.2⟩
    · have e : loopsOf (.block id c) = loopsOf c := by cases c <;> first | rfl | exact absurd ⟨_, rfl⟩ hc
      have e2 : LOK E T ann L kr (.block id c) = LOK E T ann L kr c := by cases c <;> first | rfl | exact absurd ⟨_, rfl⟩ hc
      rw [e] at h
      rw [e2]
      exact lok_of c h
  | .loop _, _ => trivial
  | .rangeFunc _ _ _ _, _ => trivial
  | .scope _, _ => trivial
  | .label _, _ => trivial
  | .goto _, _ => trivial
  | .refuse _, _ => trivial
end
theorem fn_ok {P : Program} {E : Env} {T : Tab} (hT : TabOK P T) (hE : EnvOK P E) (hm : P.follows .mixedOrders = true) {ann : Nat → Bool} {f : Nat} {fn : Func} {c : Code} {ps rs : List SP} {sh : Bool}
    {L : LEnv (densS (muts ps ++ rs))} {G : densS ps → Option (densS (muts ps ++ rs))} (hf : P.funcs[f]? = some fn) (hb : fn.body = some c)
    (hq : (seqN 0 (cids (muts ps ++ rs)) && Nat.ble (cids ps).length (cids (muts ps ++ rs)).length && Nat.ble (cids ps).length 100) = true)
    (hn : decide (fn.name = "runtime.NumGoroutine") = false)
    {ls : List (Nat × Code)} (hl : loopsOf c = ls) (hL : LoopsP E T ann L (retK T ps rs fn.results.toList) ls) (h : ∀ a, runF E T ann ps rs fn L a = G a) : OK P f (mkE ps rs sh G) :=
  ⟨run_ok hT hE hm hf hb hq (lok_of c (by rw [hl]; exact hL)) h, fn, hf, by rw [hb]; rfl, of_decide_eq_false hn⟩
def bodyC (fn : Func) : Code := match fn.body with
  | some c => c
  | none => .skip
def w64 (n : Int) : Int := IntKind.wrap .i64 n
def noFlat : Tab → Bool
  | [] => true
  | (_, ti) :: r => cond ti.flat false (noFlat r)
theorem noFlat_at : ∀ {T : Tab}, noFlat T = true → ∀ t ti, T.get t = some ti → ti.flat = false
  | [], _, t, ti, h => by simp [Tab.get] at h
  | (i, x) :: r, hb, t, ti, h => by
    simp only [noFlat] at hb
    cases hx : x.flat <;> simp [hx] at hb
    simp only [Tab.get] at h
    cases he : Nat.beq i t <;> simp [he] at h
    · exact noFlat_at hb t ti h
    · subst h; exact hx
theorem tab_of {P : Program} {T : Tab} (h : tabB P T = true) (k : noFlat T = true) : TabOK P T := fun t ti ht => ⟨tabB_ok h t ti ht, fun hf => by rw [noFlat_at k t ti ht] at hf; cases hf⟩
end Ev
