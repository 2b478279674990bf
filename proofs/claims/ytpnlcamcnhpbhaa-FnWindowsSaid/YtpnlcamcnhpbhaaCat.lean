/- Two lists laid one behind the other by the library. -/
import Derived.Test.YtpnlcamcnhpbhaaAbbC
import Derived.Test.YtpnlcamcnhpbhaaPureA
import Derived.Test.YtpnlcamcnhpbhaaShelf
import Derived.WalkKit
import Derived.ProofKit
import Derived.LoopN
import Derived.Shelf.Spec.SlicesGrow
set_option linter.unusedVariables false
set_option linter.unusedSimpArgs false
set_option maxRecDepth 100000
namespace Ev
open Go Go.Proofs Go.RowKit
/-- Rows of the call's own, appended to. -/
theorem append_fresh {P : Program} {t u e : Nat} {τ : Ty} (A : AppTys P t u e τ) {w0 w : World} {l m : List τ.den} {cy : Value} {a : Option Addr} {cap : Nat} (H : Fresh τ w0 w l a cap) (hm : Src τ w m cy) (hlim : l.length + m.length ≤ lim) (h0 : w0.heap.size ≤ w.heap.size) :
    ∃ w' a' cap', (∀ ty, (Builtin.append_ #[t, u] ty #[.slice a l.length cap, cy]).run P w = .ok (.slice a' (l.length + m.length) cap') w') ∧ Fresh τ w0 w' (l ++ m) a' cap' ∧ Chg (fun b => w0.heap.size ≤ b) w w' := by
  have hsl : Src τ w l (.slice a l.length cap) := by
    refine ⟨a, cap, rfl, H.len, ?_⟩
    by_cases hl : l = []
    · exact .inl hl
    · rcases H.at_ with h | ⟨b, s, arr, rfl, _, _, _, h⟩
      · have := H.len
        exact .inl (List.length_eq_zero_iff.mp (by omega))
      · exact .inr ⟨b, s, rfl, h⟩
  by_cases hroom : l.length + m.length ≤ cap
  · by_cases hm0 : m = []
    · subst hm0
      refine ⟨w, a, cap, fun ty => ?_, by rw [List.append_nil]; exact H, Chg.refl _ _⟩
      rw [run_append_in (ty := ty) A (base := a) (len := l.length) hm hroom]
      cases a <;> simp [flat_nil, storeCells]
    · have hpos : 0 < m.length := List.length_pos_iff.mpr hm0
      rcases H.at_ with h4 | ⟨b, s, arr, rfl, hge, hrow, hfit, hatl⟩
      · omega
      · obtain ⟨w', arr', g1, g2, g3, g4, g5, g6⟩ := run_storeCells_row (P := P) (flat τ m) w arr (s + l.length * τ.width) 0 hrow (by
          rw [flat_length, Nat.add_zero, Nat.add_assoc, ← Nat.add_mul]
          exact Nat.le_trans (Nat.add_le_add_left (Nat.mul_le_mul_right _ hroom) _) hfit) (flat_one τ m)
        refine ⟨w', some ⟨b, s, none⟩, cap, fun ty => ?_, ⟨by simpa using hroom, .inr ⟨b, s, arr', rfl, hge, g4, by rw [g5]; exact hfit, ?_⟩⟩, g2.mono fun x hx => by rw [hx]; exact hge⟩
        · rw [run_append_in (ty := ty) A (base := some ⟨b, s, none⟩) (len := l.length) hm hroom]
          simp [addr_add, g1]
        · rw [flat_append]
          refine At.join (fun i v hv => ?_) (fun i v hv => ?_)
          · have hi := (List.getElem?_eq_some_iff.mp hv).1
            rw [flat_length] at hi
            have := hatl i v hv
            rw [cell_row hrow] at this
            rw [cell_row g4, g6, if_neg (by omega)]; exact this
          · have hi := (List.getElem?_eq_some_iff.mp hv).1
            rw [flat_length] at hi
            rw [cell_row g4, g6, flat_length, flat_length, if_pos (by omega), show s + l.length * τ.width + i - (s + l.length * τ.width + 0) = i by omega]; exact hv
  · have hz : ∃ (z : Array Value) (nc : Nat), l.length + m.length ≤ nc ∧ z.size = (nc - (l.length + m.length)) * τ.width ∧ ∀ ty, (Builtin.append_ #[t, u] ty #[.slice a l.length cap, cy]).run P w =
        .ok (.slice (some ⟨w.heap.size, 0, none⟩) (l.length + m.length) nc) (w.drew.alloc (.cells ((flat τ l).toArray ++ (flat τ m).toArray ++ z) e)) := by
      obtain ⟨z, nc, hnc, hz, hout⟩ := run_append_out (ty := 0) A hsl hm hroom hlim
      refine ⟨z, nc, hnc, hz, fun ty => ?_⟩
      rw [← hout]
      unfold Builtin.append_
      rfl
    obtain ⟨z, nc, hnc, hz, hout⟩ := hz
    refine ⟨_, _, nc, hout, ⟨by simpa using hnc, .inr ⟨w.heap.size, 0, _, rfl, h0, rowB_drew_alloc w _ e, ?_, ?_⟩⟩, (chg_drew_alloc w _).mono fun _ h => h.elim⟩
    · have h1 : (flat τ l).length = l.length * τ.width := flat_length τ l
      have h2 : (flat τ m).length = m.length * τ.width := flat_length τ m
      simp only [Array.size_append, List.size_toArray, h1, h2, hz, Nat.zero_add]
      rw [← Nat.add_mul, ← Nat.add_mul]
      exact Nat.mul_le_mul_right _ (by omega)
    · intro i v hv
      have hi := (List.getElem?_eq_some_iff.mp hv).1
      rw [cell_row (rowB_drew_alloc w _ e), Nat.zero_add]
      rw [flat_append] at hv hi
      rw [Array.getElem?_append_left (by simpa using hi)]
      simpa using hv
theorem int_app : AppTys Proofs.Try.prog 22 22 3 .int := by
  obtain ⟨d, hd, hk, _⟩ := (tab_ok 22 _ rfl).1.kind
  have hu := Proofs.Try.underlying22
  rw [hu] at hd; cases hd
  exact ⟨hu, ⟨_, hu⟩, hk⟩
theorem grow_spec (n : Nat) (w : World) (hn : n ≤ 1099511627776) : Calls Proofs.Try.prog 30 #[.slice none 0 0, .int .i64 n] w fun e w' => ∃ base cap, e = .returned (.slice base 0 cap) ∧ Fresh .int w w' [] base cap ∧ Chg (fun _ => False) w w' := by
  by_cases h0 : n = 0
  · subst h0
    refine (Any8.slices_Grow_room Proofs.Try.laysGrow none 0 0 0 w (by omega) (by omega) (by omega) (by omega)).mono ?_
    rintro e w' ⟨rfl, rfl⟩
    exact ⟨none, 0, rfl, ⟨Nat.le_refl _, .inl rfl⟩, Chg.refl _ _⟩
  · obtain ⟨_, ⟨i, z, hi, hz, hzc⟩, _, ⟨i', hi', hb⟩, _⟩ := int_app.he
    rw [hi] at hi'; cases hi'
    have hs : i.size = 1 := by
      obtain ⟨⟨j, hj, hs⟩, _⟩ := int_app.he
      rw [hi] at hj; cases hj; exact hs
    refine (Any8.slices_Grow_grow Proofs.Try.laysGrow i z hi hz (by omega) none 0 0 n [] w (by omega) (by omega) (by
      have := Nat.mul_le_mul hn hb; rw [Nat.zero_add]; omega) (by omega) (by rw [Nat.zero_mul]; rfl) (fun _ => rfl) (fun a h => by cases h)).mono ?_
    rintro e w' ⟨rfl, rfl⟩
    have hzs : z.cells.size = 1 := by rw [← Array.length_toList, hzc]; rfl
    have hg := grownCap_ge w (0 + n) 0 (Proofs.Try.laysGrow_ren.t 25)
    refine ⟨_, _, rfl, ⟨Nat.zero_le _, .inr ⟨w.heap.size, 0, _, rfl, Nat.le_refl _, rowB_drew_alloc w _ _, ?_, fun i v hv => (by rw [flat_nil] at hv; cases hv)⟩⟩, chg_drew_alloc w _⟩
    simp only [Array.size_append, size_zeroCells, hzs]
    show 0 + grownCap w (0 + n) 0 (Proofs.Try.laysGrow_ren.t 25) * 1 ≤ _
    simp only [List.size_toArray, List.length_nil, Nat.mul_one]
    omega
/-- A list that lay there before. -/
theorem src_old {w0 w : World} {l : List Int} {c : Value} (r : RelB (fun _ => none) (fun b => b < w0.heap.size) w0 (.lst .int l) c) (k : Chg (fun b => w0.heap.size ≤ b) w0 w) : Src .int w l c := by
  obtain ⟨a, cap, rfl, hl, h⟩ := r
  refine ⟨a, cap, rfl, hl, h.imp id ?_⟩
  rintro ⟨b, s, rfl, hb, hat⟩
  exact ⟨b, s, rfl, hat.of_block (k.block b hb (by omega))⟩
theorem cell_old {w0 w : World} {B o : Nat} {c : Value} (h : w0.cell? ⟨B, o, none⟩ = some c) (k : Chg (fun b => w0.heap.size ≤ b) w0 w) : w.cell? ⟨B, o, none⟩ = some c := by
  have hb : B < w0.heap.size := by
    unfold World.cell? at h
    rcases Nat.lt_or_ge B w0.heap.size with hb | hb
    · exact hb
    · rw [Array.getElem?_eq_none hb] at h; cases h
  rw [← h]
  unfold World.cell?
  rw [k.block B hb (by omega)]
theorem chg_old {w w' : World} (k : Chg (fun b => w.heap.size ≤ b) w w') : Chg (fun _ => False) w w' := ⟨k.os, k.tape, k.output, k.size, fun b hb _ => k.block b hb (by omega), k.drew⟩
theorem cat_calls (w : World) (c1 c2 : Value) (l1 l2 : List Int) (B : Nat) (r1 : RelB (fun _ => none) (fun b => b < w.heap.size) w (.lst .int l1) c1) (r2 : RelB (fun _ => none) (fun b => b < w.heap.size) w (.lst .int l2) c2)
    (hB1 : w.cell? ⟨B, 0, none⟩ = some c1) (hB2 : w.cell? ⟨B, 1, none⟩ = some c2) (h1 : l1.length ≤ 274877906944) (h2 : l2.length ≤ 274877906944) :
    Calls Proofs.Try.prog 20 #[.slice (some ⟨B, 0, none⟩) 2 2] w fun e w' => ∃ a cap, e = .returned (.slice a (l1 ++ l2).length cap) ∧ Fresh .int w w' (l1 ++ l2) a cap ∧ Chg (fun _ => False) w w' := by
  obtain ⟨a1, k1, e1, hk1, _⟩ := id r1
  obtain ⟨a2, k2, e2, hk2, _⟩ := id r2
  have r1' := r1
  have r2' := r2
  have hB1' := hB1
  have hB2' := hB2
  rw [e1] at hB1
  rw [e2] at hB2
  have hlen : (l1 ++ l2).length = l1.length + l2.length := List.length_append
  rw [hlen]
  go_enter Proofs.Try.func20, Proofs.Try.ntmps20
  go_wp2
  refine wp_loop_rounds 3 ?_
  rw [rounds_succ]
  go_wp2
  rw [rounds_succ]
  go_wp2
  rw [rounds_succ]
  go_wp2_with (go_at_call 30; refine (grow_spec (l1.length + l2.length) w (by omega)).mono ?_; rintro e w1 ⟨base, cap, rfl, hF, hk⟩; have k1' : Chg (fun b => w.heap.size ≤ b) w w1 := hk.mono fun _ h => h.elim; have g1 := cell_old hB1 k1'; obtain ⟨w2, b2, cap2, hr1, hF2, hk2'⟩ := append_fresh int_app hF (src_old r1' k1') (by simp only [List.length_nil]; unfold lim; omega) hk.size; simp only [List.length_nil, Nat.zero_add, e1, List.nil_append] at hr1 hF2; have k2' : Chg (fun b => w.heap.size ≤ b) w w2 := k1'.trans hk2' (fun _ h => h) (fun _ _ h => h); have g2 := cell_old hB2 k2'; obtain ⟨w3, b3, cap3, hr2, hF3, hk3'⟩ := append_fresh int_app hF2 (src_old r2' k2') (by unfold lim; omega) k2'.size; simp only [e2] at hr2; have k3' : Chg (fun b => w.heap.size ≤ b) w w3 := k2'.trans hk3' (fun _ h => h) (fun _ _ h => h))
  refine wp_loop_rounds 3 ?_
  rw [rounds_succ]
  go_wp2_with (at_builtin; refine Lib.wpList_append_run _ rfl _ _ _ _ rfl _ _ rfl rfl _ _ (hr1 _) ?_)
  rw [rounds_succ]
  go_wp2_with (at_builtin; refine Lib.wpList_append_run _ rfl _ _ _ _ rfl _ _ rfl rfl _ _ (hr2 _) ?_)
  rw [rounds_succ]
  go_wp2
  go_ret
  exact ⟨b3, cap3, rfl, hF3, chg_old k3'⟩
theorem isT_calls (w : World) (c : Value) (l : List Int) (r : RelB (fun _ => none) (fun b => b < w.heap.size) w (.lst .int l) c) {x : Bool} (hx : G15 (l, ()) = some (x, ())) :
    Calls Proofs.Try.prog 15 #[c] w fun e w' => e = .returned (.bool x) ∧ Chg (fun _ => False) w w' := by
  have ok : OK Proofs.Try.prog 15 (mkE p15 r15 false G15) := okG15
  obtain ⟨res, out, hk, hE⟩ := ok.ent (V × List Blk) [.lst .int l] [] (fun v b => some (v, b)) (.bool x, []) (by
    exact sem_of (ps := p15) (rs := r15) (a := (l, ())) rfl hx)
  cases hk
  have no : ∀ b, ¬ Rho.M (fun _ => none) b := fun b ⟨_, _, h, _⟩ => by cases h
  refine (hE w (fun b => b < w.heap.size) (fun _ => none) #[c] ⟨fun id loc blk h => (by cases h), fun i j li lj b h => (by cases h), fun b hb => ⟨hb, no b⟩, fun x hx => absurd (show x ∈ ([] : List (Nat × (Array Value → Prop))) from hx) (by simp)⟩ (fun id l h => (by cases h)) rfl (args1 r)).mono ?_
  rintro e w' ⟨c, ρ1, F1, rfl, _, _, _, hr, hc, _, _⟩
  exact ⟨congrArg _ hr, hc.mono fun x hx => (no x hx).elim⟩
theorem rel_more {w w' : World} {l : List Int} {c : Value} (r : RelB (fun _ => none) (fun b => b < w.heap.size) w (.lst .int l) c) (k : Chg (fun _ => False) w w') : RelB (fun _ => none) (fun b => b < w'.heap.size) w' (.lst .int l) c := by
  obtain ⟨a, cap, e, hl, h⟩ := r
  refine ⟨a, cap, e, hl, h.imp id ?_⟩
  rintro ⟨b, s, ha, hb, hat⟩
  exact ⟨b, s, ha, Nat.lt_of_lt_of_le hb k.size, hat.of_block (k.block b hb (fun e => e))⟩
theorem rel_fresh {w w' : World} {l : List Int} {a : Option Addr} {cap : Nat} (H : Fresh .int w w' l a cap) : RelB (fun _ => none) (fun b => b < w'.heap.size) w' (.lst .int l) (.slice a l.length cap) := by
  refine ⟨a, cap, rfl, H.len, ?_⟩
  rcases H.at_ with h | ⟨b, s, arr, rfl, _, hr, _, hat⟩
  · have := H.len
    exact .inl (List.length_eq_zero_iff.mp (by omega))
  · exact .inr ⟨b, s, rfl, hr.lt, hat⟩
theorem fresh_more {w w' w'' : World} {l : List Int} {a : Option Addr} {cap : Nat} (H : Fresh .int w w' l a cap) (k : Chg (fun _ => False) w' w'') : Fresh .int w w'' l a cap := by
  refine ⟨H.len, H.at_.imp id ?_⟩
  rintro ⟨b, s, arr, rfl, hb, hr, hsz, hat⟩
  have e := k.block b hr.lt (fun e => e)
  exact ⟨b, s, arr, rfl, hb, hr.of_block e, hsz, hat.of_block e⟩
theorem fresh_from {w0 w w' : World} {l : List Int} {a : Option Addr} {cap : Nat} (H : Fresh .int w w' l a cap) (h : w0.heap.size ≤ w.heap.size) : Fresh .int w0 w' l a cap := by
  refine ⟨H.len, H.at_.imp id ?_⟩
  rintro ⟨b, s, arr, rfl, hb, hr⟩
  exact ⟨b, s, arr, rfl, Nat.le_trans h hb, hr⟩
theorem join_calls (w : World) (c1 c2 : Value) (l1 l2 : List Int) (r1 : RelB (fun _ => none) (fun b => b < w.heap.size) w (.lst .int l1) c1) (r2 : RelB (fun _ => none) (fun b => b < w.heap.size) w (.lst .int l2) c2)
    (h1 : l1.length ≤ 274877906944) (h2 : l2.length ≤ 274877906944) {x1 x2 x3 : Bool} (e1 : G15 (l1, ()) = some (x1, ())) (e2 : G15 (l2, ()) = some (x2, ())) (e3 : G15 (l1 ++ l2, ()) = some (x3, ())) :
    Calls Proofs.Try.prog 7 #[c1, c2] w fun e w' => ∃ a cap l, l = (if (x1 && x2 && x3) = true then l1 ++ l2 else []) ∧ e = .returned (.tuple #[.slice a l.length cap, .bool (x1 && x2 && x3)]) ∧ Fresh .int w w' l a cap ∧ Chg (fun _ => False) w w' := by
  have r1' := r1
  have r2' := r2
  obtain ⟨a1, k1, rfl, _, _⟩ := r1
  obtain ⟨a2, k2, rfl, _, _⟩ := r2
  go_enter Proofs.Try.func7, Proofs.Try.ntmps7
  go_wp2_with fail
  have kA := chg_alloc w (.cells #[.slice a1 l1.length k1, .slice a2 l2.length k2] 22)
  have hr := rowB_alloc w #[.slice a1 l1.length k1, .slice a2 l2.length k2] 22
  have g1 := cell_row hr 0
  have g2 := cell_row hr 1
  have hsz := kA.size
  generalize w.alloc (.cells #[.slice a1 l1.length k1, .slice a2 l2.length k2] 22) = w1 at kA g1 g2 hr hsz ⊢
  refine (cat_calls w1 _ _ l1 l2 w.heap.size (rel_more r1' kA) (rel_more r2' kA) g1 g2 h1 h2).mono ?_
  rintro e w2 ⟨a, cap, rfl, hF, hk⟩
  have k2' := kA.trans hk (fun _ h => h) (fun _ _ h => h)
  simp only
  go_wp2_with fail
  refine (isT_calls w2 _ l1 (rel_more r1' k2') e1).mono ?_
  rintro e w3 ⟨rfl, k3⟩
  have k3' := k2'.trans k3 (fun _ h => h) (fun _ _ h => h)
  simp only
  have em : ∀ W W' : World, Fresh .int W W' [] (some ⟨W'.heap.size, 0, none⟩) 0 := fun W W' => ⟨Nat.le_refl _, .inl rfl⟩
  have em' : ∀ (W W' : World) (a : Option Addr), Fresh .int W W' [] a 0 := fun W W' a => ⟨Nat.le_refl _, .inl rfl⟩
  cases x1
  · go_wp2
    go_ret2
    exact ⟨_, _, rfl, em' _ _ _, k3'.trans (chg_alloc w3 _) (fun _ h => h) (fun _ _ h => h)⟩
  · go_wp2_with fail
    refine (isT_calls w3 _ l2 (rel_more r2' k3') e2).mono ?_
    rintro e w4 ⟨rfl, k4⟩
    have k4' := k3'.trans k4 (fun _ h => h) (fun _ _ h => h)
    simp only
    cases x2
    · go_wp2
      go_ret2
      exact ⟨_, _, rfl, em' _ _ _, k4'.trans (chg_alloc w4 _) (fun _ h => h) (fun _ _ h => h)⟩
    · go_wp2_with fail
      have k24 := k3.trans k4 (fun _ h => h) (fun _ _ h => h)
      have hrel : RelB (fun _ => none) (fun b => b < w4.heap.size) w4 (.lst .int (l1 ++ l2)) (.slice a (l1.length + l2.length) cap) := by
        rw [← List.length_append]; exact rel_more (rel_fresh hF) k24
      refine (isT_calls w4 _ (l1 ++ l2) hrel e3).mono ?_
      rintro e w5 ⟨rfl, k5⟩
      have k5' := k4'.trans k5 (fun _ h => h) (fun _ _ h => h)
      simp only
      cases x3
      · go_wp2
        go_ret2
        exact ⟨_, _, rfl, em' _ _ _, k5'.trans (chg_alloc w5 _) (fun _ h => h) (fun _ _ h => h)⟩
      · go_wp2
        go_ret2
        exact ⟨_, _, rfl, fresh_from (fresh_more hF (k24.trans k5 (fun _ h => h) (fun _ _ h => h))) kA.size, k5'⟩
noncomputable def G7 : T7 := fun a => (G15 (a.1, ())).bind fun x1 => (G15 (a.2.1, ())).bind fun x2 => (G15 (a.1 ++ a.2.1, ())).bind fun x3 =>
  if a.1.length ≤ 274877906944 ∧ a.2.1.length ≤ 274877906944 then some ((if (x1.1 && x2.1 && x3.1) = true then a.1 ++ a.2.1 else []), (x1.1 && x2.1 && x3.1), ()) else none
theorem okG7 : OK Proofs.Try.prog 7 (N7 G7) := by
  refine ok_hand (fn := Proofs.Try.f7) Proofs.Try.func7 (by kernel_rfl) (of_decide_eq_false (by kernel_rfl)) (fun a => rfl) fun a x hx w F hg hs ca hsz hv => ?_
  obtain ⟨l1, l2, u⟩ := a
  unfold G7 at hx
  obtain ⟨⟨x1, _⟩, e1, hx⟩ := Option.bind_eq_some_iff.mp hx
  obtain ⟨⟨x2, _⟩, e2, hx⟩ := Option.bind_eq_some_iff.mp hx
  obtain ⟨⟨x3, _⟩, e3, hx⟩ := Option.bind_eq_some_iff.mp hx
  simp only at hx
  split at hx
  · rename_i hlen
    cases hx
    obtain ⟨c1, hc1, r1⟩ := hv 0 _ rfl
    obtain ⟨c2, hc2, r2⟩ := hv 1 _ rfl
    have hsz2 : ca.size = 2 := hsz
    obtain rfl : ca = #[c1, c2] := by
      apply Array.ext_getElem?
      intro i
      match i with
      | 0 => simpa using hc1
      | 1 => simpa using hc2
      | i + 2 => rw [Array.getElem?_eq_none (by omega), Array.getElem?_eq_none (by simp)]
    have up : ∀ {l : List Int} {c : Value}, RelB (fun _ => none) F w (.lst .int l) c → RelB (fun _ => none) (fun b => b < w.heap.size) w (.lst .int l) c := by
      rintro l c ⟨a, cap, e, hl, h⟩
      exact ⟨a, cap, e, hl, h.imp id fun ⟨b, s, ha, hb, hat⟩ => ⟨b, s, ha, hs b hb, hat⟩⟩
    refine (join_calls w c1 c2 l1 l2 (up r1) (up r2) hlen.1 hlen.2 e1 e2 e3).mono ?_
    rintro e w' ⟨a, cap, l, hl, rfl, hF, k⟩
    obtain ⟨q1, q2, q3, q4, q5⟩ := hF.core hs hg k
    refine ⟨_, _, rfl, ?_, ?_, ?_, k, q5⟩
    · rw [← hl]; exact q1
    · intro id x h; exact q2 id x h
    · refine ⟨_, rfl, rfl, fun i v hv => ?_⟩
      match i, hv with
      | 0, hv => cases hv; exact ⟨_, rfl, q4⟩
      | 1, hv => cases hv; exact ⟨_, rfl, rfl⟩
  · cases hx
end Ev
