/- Code: what the evaluator computes is what the machine does. -/
import Derived.Test.YtnoodoiehlcblaaPat2
import Derived.LoopN
set_option linter.unusedVariables false
set_option linter.unusedSimpArgs false
set_option linter.unnecessarySimpa false
namespace Ev
open Go

/-- The loops of a code are what they are taken for. -/
def LOK {R : Type} (E : Env) (T : Tab) (ann : Nat → Bool) (L : LEnv R) (kr : St → Option R) : Code → Prop
  | .block id (.loop c) => (∃ (ps : List SP) (f : densS ps → (densS ps → Option R) → (densS ps → Option R) → Option R), L id = some (loopL ps f) ∧ ∀ (X : Nat → St → Option R) (rec K : densS ps → Option R) (t : densS ps), ev E T ann L kr c (fun i s => cond (Nat.beq i id) (decK 100 ps s K) (X i s)) (fun s => decK 100 ps s rec) (enc ps t) = f t rec K) ∧ LOK E T ann L kr c
  | .block _ c => LOK E T ann L kr c
  | .seq a b => LOK E T ann L kr a ∧ LOK E T ann L kr b
  | .cond _ a b => LOK E T ann L kr a ∧ LOK E T ann L kr b
  | _ => True

/-- What holds behind a code, of each way out of it. -/
structure Outs {R : Type} (C : Ctx) (r : R) (X : Nat → St → Option R) (K kr : St → Option R) (Q : Exit → Act → World → Prop) : Prop where
  nrm : ∀ s a w, K s = some r → SR C s a w → Q .normal a w
  ex : ∀ i s a w, X i s = some r → SR C s a w → Q (.exit i) a w
  rt : ∀ s a w, kr s = some r → SR C s a w → Q .ret a w
theorem opd_bool {s : St} {a : Act} {w : World} {ρ : Rho} {F : Nat → Prop} {c : Operand} {t : Bool} (h : opd s.fr c = .bool t) (hf : ∀ t, RelT ρ F w (get s.fr t) (a.tmps.getD t undef)) : a.eval c = .bool t := by
  have r := opd_rel (ρ := ρ) (F := F) (w := w) (fr := s.fr) (a := a) c fun t _ => hf t
  rw [h] at r
  exact r
theorem ev_block {R : Type} {E : Env} {T : Tab} {ann : Nat → Bool} {L : LEnv R} {kr : St → Option R} {id : Nat} {c : Code} (hc : ¬ ∃ b, c = .loop b) {X : Nat → St → Option R} {K : St → Option R} {s : St} :
    ev E T ann L kr (.block id c) X K s = ev E T ann L kr c (fun i s => cond (Nat.beq i id) (K s) (X i s)) K s := by
  cases c <;> first | rfl | exact absurd ⟨_, rfl⟩ hc
theorem lok_block {R : Type} {E : Env} {T : Tab} {ann : Nat → Bool} {L : LEnv R} {kr : St → Option R} {id : Nat} {c : Code} (hc : ¬ ∃ b, c = .loop b) (h : LOK E T ann L kr (.block id c)) : LOK E T ann L kr c := by
  cases c <;> first | exact h | exact absurd ⟨_, rfl⟩ hc
theorem ev_sound {R : Type} {P : Program} {E : Env} {T : Tab} (hT : TabOK P T) (hE : EnvOK P E) (hm : P.follows .mixedOrders = true) {ann : Nat → Bool} {L : LEnv R} {kr : St → Option R} {r : R} {C : Ctx} :
    (c : Code) → (X : Nat → St → Option R) → (K : St → Option R) → (s : St) → LOK E T ann L kr c → ev E T ann L kr c X K s = some r → (Q : Exit → Act → World → Prop) → Outs C r X K kr Q → (a : Act) → (w : World) → SR C s a w → c.wp P Q a w
  | .skip, X, K, s, hL, h, Q, O, a, w, hs => wp_skip (O.nrm s a w (by simpa [ev] using h) hs)
  | .region id ops d, X, K, s, hL, h, Q, O, a, w, hs => region_sound hT hE hm h (fun s' a w hk h => O.nrm s' a w hk h) hs
  | .seq c d, X, K, s, hL, h, Q, O, a, w, hs => by
    simp only [ev] at h
    simp only [LOK] at hL
    refine wp_seq (ev_sound hT hE hm c X _ s hL.1 h (Exit.then (d.wp P Q) Q) ⟨fun s' a w hk hs' => ?_, O.ex, O.rt⟩ a w hs)
    exact ev_sound hT hE hm d X K s' hL.2 hk Q O a w hs'
  | .cond c x y, X, K, s, hL, h, Q, O, a, w, hs => by
    simp only [ev] at h
    simp only [LOK] at hL
    split at h <;> try (cases h; done)
    rename_i t ht
    obtain ⟨ρ, F, HC, DM, B, hf⟩ := hs.ex
    refine wp_cond (t := t) (opd_bool ht hf) ?_
    cases t with
    | true => exact ev_sound hT hE hm x X K s hL.1 h Q O a w hs
    | false => exact ev_sound hT hE hm y X K s hL.2 h Q O a w hs
  | .exit id, X, K, s, hL, h, Q, O, a, w, hs => wp_exit (O.ex id s a w (by simpa [ev] using h) hs)
  | .ret, X, K, s, hL, h, Q, O, a, w, hs => wp_ret (O.rt s a w (by simpa [ev] using h) hs)
  | .block id d, X, K, s, hL, h, Q, O, a, w, hs => by
    by_cases hd : ∃ c, d = .loop c
    · obtain ⟨c, rfl⟩ := hd
      simp only [LOK] at hL
      obtain ⟨⟨ps, f, hl, hf⟩, hL⟩ := hL
      simp only [ev, hl, loopL] at h
      obtain ⟨t, h, hsr⟩ := decK_sound h
      replace hs := hsr C a w hs
      refine wp_block (wp_loop_rounds fuel ?_)
      clear hl
      generalize fuel = n at h ⊢
      clear hsr
      induction n generalizing t a w with
      | zero => simp [iterF] at h
      | succ n ih =>
        simp only [iterF] at h
        rw [← hf X] at h
        rw [rounds_succ]
        refine ev_sound hT hE hm c _ _ _ hL h (Exit.then (Code.rounds P c (Exit.inBlock id Q) n) (Exit.inBlock id Q)) ⟨fun s' a' w' hk hs' => ?_, fun i s' a' w' hx hs' => ?_, fun s' a' w' hk hs' => O.rt s' a' w' hk hs'⟩ a w hs
        · obtain ⟨t', hk, hsr'⟩ := decK_sound hk
          exact ih a' w' t' (hsr' C a' w' hs') hk
        · cases hb : Nat.beq i id
          · rw [hb, cond_false] at hx
            have : i ≠ id := fun e => by subst e; simp at hb
            show (if i = id then _ else _)
            rw [if_neg this]
            exact O.ex i s' a' w' hx hs'
          · rw [hb, cond_true] at hx
            obtain ⟨t', hk, hsr'⟩ := decK_sound hx
            have := Nat.eq_of_beq_eq_true hb
            show (if i = id then _ else _)
            rw [if_pos this]
            exact O.nrm _ a' w' hk (hsr' C a' w' hs')
    · rw [ev_block hd] at h
      refine wp_block (ev_sound hT hE hm d _ K s (lok_block hd hL) h (Exit.inBlock id Q) ⟨fun s' a' w' hk hs' => O.nrm s' a' w' hk hs', fun i s' a' w' hx hs' => ?_, fun s' a' w' hk hs' => O.rt s' a' w' hk hs'⟩ a w hs)
      show (if i = id then _ else _)
      cases hb : Nat.beq i id
      · rw [hb, cond_false] at hx
        have : i ≠ id := fun e => by subst e; simp at hb
        rw [if_neg this]
        exact O.ex i s' a' w' hx hs'
      · rw [hb, cond_true] at hx
        have := Nat.eq_of_beq_eq_true hb
        rw [if_pos this]
        exact O.nrm _ a' w' hx hs'
  | .loop _, X, K, s, hL, h, Q, O, a, w, hs => by simp [ev] at h
  | .rangeFunc _ _ _ _, X, K, s, hL, h, Q, O, a, w, hs => by simp [ev] at h
  | .scope _, X, K, s, hL, h, Q, O, a, w, hs => by simp [ev] at h
  | .label _, X, K, s, hL, h, Q, O, a, w, hs => by simp [ev] at h
  | .goto _, X, K, s, hL, h, Q, O, a, w, hs => by simp [ev] at h
  | .refuse _, X, K, s, hL, h, Q, O, a, w, hs => by simp [ev] at h
end Ev
