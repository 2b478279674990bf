/- Places in order: the library's sort at places, by its contract. -/
import Derived.Test.YtpnlcamcnhpbhaaGreatAbbC
import Derived.Test.YtpnlcamcnhpbhaaGreatLib
import Derived.Test.YtpnlcamcnhpbhaaGreatShelf
import Derived.Test.YtpnlcamcnhpbhaaGreatPureA
import Derived.Shelf.SlSortCmp.NoneTotal
set_option linter.unusedVariables false
set_option linter.unusedSimpArgs false
set_option maxRecDepth 100000
namespace Ev
open Go Go.Sort Go.Proofs
instance : Inhabited Place := ⟨⟨0, 0⟩⟩
def cmpIZ (a b : Int) : Int := if a < b then -1 else if a > b then 1 else 0
def cmpZ (p q : Place) : Int := if cmpIZ p.X q.X = 0 then cmpIZ p.Y q.Y else cmpIZ p.X q.X
theorem cmpIZ_is (a b : Int) : G115 (a, b, ()) = some (cmpIZ a b, ()) := by
  unfold G115 F115 G161 F161 cmpIZ
  simp only [decide_true, Bool.not_true, Option.bind_some, cond_false]
  by_cases h1 : a < b
  · simp [h1]
  · by_cases h2 : a > b <;> simp [h1, h2]
theorem orZ_0 (a b : Int) (n : Nat) (K) : iterF s114_0 (n + 5) (0, [a, b], 2, 0, ()) K = cond (!(decide (a = 0))) (some (a, ())) (iterF s114_0 (n + 4) (0, [a, b], 2, 1, ()) K) := by kernel_rfl
theorem orZ_1 (a b : Int) (n : Nat) (K) : iterF s114_0 (n + 4) (0, [a, b], 2, 1, ()) K = cond (!(decide (b = 0))) (some (b, ())) (iterF s114_0 (n + 3) (0, [a, b], 2, 2, ()) K) := by kernel_rfl
theorem orZ_2 (a b : Int) (n : Nat) (K) : iterF s114_0 (n + 3) (0, [a, b], 2, 2, ()) K = K (0, [a, b], 2, 2, ()) := by kernel_rfl
theorem fuelZ (m : Nat) (hm : m ≤ 1000) : ∃ n, fuel = n + m := ⟨fuel - m, by rw [fuel_eq]; omega⟩
theorem orZ_is (a b : Int) : G114 ([a, b], ()) = some (if a = 0 then b else a, ()) := by
  unfold G114 F114
  obtain ⟨n, hn⟩ := fuelZ 5 (by omega)
  rw [hn]
  have l : Int.ofNat [a, b].length = 2 := rfl
  simp only [l]
  rw [orZ_0]
  by_cases ha : a = 0
  · rw [decide_eq_true ha, if_pos ha, orZ_1]
    by_cases hb : b = 0
    · rw [decide_eq_true hb, orZ_2, hb]; rfl
    · rw [decide_eq_false hb]; rfl
  · rw [decide_eq_false ha, if_neg ha]; rfl
theorem cmpZ_is (p q : Place) : G65 (p, q, ()) = some (cmpZ p q, ()) := by
  unfold G65 F65 cmpZ
  simp only [cmpIZ_is, orZ_is, Option.bind_some]
def encP (p : Place) : List Value := [.int .i64 p.X, .int .i64 p.Y]
/-- Ahead of another place. -/
def ltZ (x y : Place) : Bool := decide (x.X < y.X ∨ x.X = y.X ∧ x.Y < y.Y)
theorem ltZ_is (x y : Place) : ltOf cmpZ x y = ltZ x y := by
  unfold ltOf ltZ cmpZ cmpIZ
  rw [Bool.eq_iff_iff, decide_eq_true_eq, decide_eq_true_eq]
  by_cases h1 : x.X < y.X
  · simp [h1]
  · by_cases h2 : x.X > y.X
    · simp [h1, h2]; omega
    · have h3 : x.X = y.X := by omega
      by_cases h4 : x.Y < y.Y
      · simp [h3, h4]
      · by_cases h5 : x.Y > y.Y <;> simp [h3, h4, h5]
theorem swoZ : SWO (ltOf cmpZ) where
  irrefl x := by rw [ltZ_is]; unfold ltZ; simp
  trans x y z h1 h2 := by rw [ltZ_is] at *; unfold ltZ at *; simp at *; omega
  ntrans x y z h1 h2 := by rw [ltZ_is] at *; unfold ltZ at *; simp at *; omega
theorem totZ (x y : Place) (h1 : ltOf cmpZ x y = false) (h2 : ltOf cmpZ y x = false) : x = y := by
  rw [ltZ_is] at *
  unfold ltZ at *
  simp at h1 h2
  obtain ⟨a, b⟩ := x; obtain ⟨c, d⟩ := y
  simp only at h1 h2
  have e1 : a = c := by omega
  subst e1
  have e2 : b = d := by have := h1.2; have := h2.2; omega
  rw [e2]
/-- What is only added is growth. -/
theorem grown_of {w w' : World} (k : Chg (fun _ => False) w w') : ∃ q os, w' = grow (w.drewN q) os := by
  refine ⟨w'.drawn - w.drawn, w'.heap.extract w.heap.size w'.heap.size, ?_⟩
  have h1 : w'.heap = w.heap ++ w'.heap.extract w.heap.size w'.heap.size := by
    apply Array.ext_getElem?
    intro i
    by_cases hi : i < w.heap.size
    · rw [Array.getElem?_append_left hi]; exact k.block i hi (fun e => e)
    · rw [Array.getElem?_append_right (by omega), Array.getElem?_extract]
      by_cases h2 : i < w'.heap.size
      · rw [if_pos (by have := k.size; omega)]; congr 1; omega
      · rw [if_neg (by have := k.size; omega), Array.getElem?_eq_none (by omega)]
  have h2 : w'.drawn = w.drawn + (w'.drawn - w.drawn) := by have := k.drew; omega
  cases w' with
  | mk heap tape drawn os output =>
    cases w with
    | mk heap0 tape0 drawn0 os0 output0 =>
      obtain ⟨e1, e2, e3, _, _, _⟩ := k
      simp only at e1 e2 e3 h1 h2
      subst e1 e2 e3
      unfold grow World.drewN
      simp only
      congr 1
theorem flat_K (l : List Place) : (flatK encP 2 l.toArray).toList = flat .place l := by
  apply List.ext_getElem?
  intro i
  have hs : (flatK encP 2 l.toArray).size = l.length * 2 := by simp
  by_cases hi : i < l.length * 2
  · have h1 := get_flatK encP 2 l.toArray i (by simpa using hi)
    rw [Array.getElem?_toList, Array.getElem?_eq_getElem (by omega)]
    rw [getElem!_pos _ i (by omega)] at h1
    rw [h1, flat_get]
    have hj : i / 2 < l.length := by omega
    have e : l.toArray[i / 2]! = l[i / 2] := by rw [getElem!_pos _ _ (by simpa using hj)]; simp
    rw [e]
    show _ = ((l[i / 2]?).bind fun d => ((Ty.place.cells d).map sv)[i % 2]?)
    rw [List.getElem?_eq_getElem hj, Option.bind_some]
    have h2 : i % 2 = 0 ∨ i % 2 = 1 := by omega
    rcases h2 with h2 | h2 <;> rw [h2] <;> rfl
  · rw [List.getElem?_eq_none (by rw [Array.length_toList]; omega), List.getElem?_eq_none (by rw [flat_length]; show l.length * 2 ≤ i; omega)]
theorem holds_K {w : World} {b s : Nat} {arr : Array Value} {l : List Place} (hr : RowB w b arr) (hle : s + l.length * 2 ≤ arr.size) (hat : At w b s (flat .place l)) : HoldsK encP 2 w b s l.toArray := by
  intro j hj
  have hj' : j < l.length * 2 := by simpa using hj
  have h1 : (flat .place l)[j]? = some (flatK encP 2 l.toArray)[j]! := by
    rw [← flat_K, Array.getElem?_toList, Array.getElem?_eq_getElem hj, getElem!_pos _ j hj]
  refine ⟨hat j _ h1, ?_⟩
  obtain ⟨e, lo, hi, h, hf⟩ := hr
  have := hf (s + j) (by omega)
  simp only [World.frozen?, h]
  rw [Bool.eq_false_iff]
  intro hc
  rw [Bool.and_eq_true, decide_eq_true_eq, decide_eq_true_eq] at hc
  exact this hc
/-- What the sort leaves of the row's block, and of the others. -/
theorem sort_row {w : World} {b s : Nat} {arr : Array Value} {l l' : List Place} (hr : RowB w b arr) (hle : s + l.length * 2 ≤ arr.size) (hat : At w b s (flat .place l)) (hl : l'.length = l.length) (n : Nat) (os : Array Obj) :
    (∃ arr', RowB (sortWorldK encP 2 w b s n l'.toArray os) b arr' ∧ arr'.size = arr.size) ∧ At (sortWorldK encP 2 w b s n l'.toArray os) b s (flat .place l') ∧ Chg (fun x => x = b) w (sortWorldK encP 2 w b s n l'.toArray os) := by
  have hb := hr.lt
  have hH := holds_K hr hle hat
  have hH' := holdsK_sortWorldK_c encP 2 w b s l.toArray l'.toArray n os hH hb (by simpa using hl)
  have hblk : ∀ x, x < w.heap.size → (sortWorldK encP 2 w b s n l'.toArray os).heap[x]? = (w.heap.modify b (onCells (putCells id s (flatK encP 2 l'.toArray))))[x]? := by
    intro x hx
    unfold sortWorldK putRowK Go.Sort.putRow Go.Sort.mapBlock Go.Sort.ahead grow
    simp only
    rw [Array.getElem?_append_left (by simpa using hx)]
  refine ⟨?_, ?_, rfl, rfl, rfl, ?_, ?_, ?_⟩
  · obtain ⟨e, lo, hi, h, hf⟩ := hr
    refine ⟨putCells id s (flatK encP 2 l'.toArray) arr, ⟨e, lo, hi, ?_, fun i hi' => hf i (by simpa [putCells] using hi')⟩, by simp [putCells]⟩
    rw [hblk b hb, Array.getElem?_modify, if_pos rfl, h]
    rfl
  · intro i v hv
    rw [← flat_K, Array.getElem?_toList] at hv
    obtain ⟨hi, e⟩ := Array.getElem?_eq_some_iff.mp hv
    rw [(hH' i hi).1, getElem!_pos _ i hi, e]
    rfl
  · exact size_sortWorldK_c encP 2 w b s n l'.toArray os
  · intro x hx hne
    rw [hblk x hx, Array.getElem?_modify, if_neg (fun h => hne h.symm)]
  · show w.drawn ≤ (sortWorldK encP 2 w b s n l'.toArray os).drawn
    unfold sortWorldK putRowK Go.Sort.putRow Go.Sort.mapBlock Go.Sort.ahead grow
    exact Nat.le_add_right _ _
theorem cmpLaysZ (b s size : Nat) (w : World) : CmpLays Proofs.Tryz.prog 65 #[] encP 2 cmpZ b s size w := by
  intro m os dk _ x y
  have ok : OK Proofs.Tryz.prog 65 (mkE p65 r65 false G65) := okG65
  generalize sortWorldK encP 2 w b s m dk os = W
  obtain ⟨res, out, hk, hE⟩ := ok.ent (V × List Blk) [.agg (Ty.place.cells x), .agg (Ty.place.cells y)] [] (fun v b => some (v, b)) (.int .i64 (cmpZ x y), []) (by
    exact sem_of (ps := p65) (rs := r65) (a := (x, y, ())) rfl (cmpZ_is x y))
  cases hk
  have no : ∀ b, ¬ Rho.M (fun _ => none) b := fun b ⟨_, _, h, _⟩ => by cases h
  have ha : ∀ z : Place, RelA (fun _ => none) (fun _ => False) W (.agg (Ty.place.cells z)) (.agg (encP z).toArray) := fun z => by
    refine ⟨_, rfl, rfl, fun i v hv => ?_⟩
    match i, hv with
    | 0, hv => cases hv; exact ⟨_, rfl, rfl⟩
    | 1, hv => cases hv; exact ⟨_, rfl, rfl⟩
  refine (hE W (fun _ => False) (fun _ => none) #[.agg (encP x).toArray, .agg (encP y).toArray] ⟨fun id loc blk h => (by cases h), fun i j li lj b h => (by cases h), fun b hb => hb.elim, fun x hx => absurd (show x ∈ ([] : List (Nat × (Array Value → Prop))) from hx) (by simp)⟩ (fun id l h => (by cases h)) rfl (fun i v hv => ?_)).mono ?_
  · match i, hv with
    | 0, hv => cases hv; exact ⟨_, rfl, ha x⟩
    | 1, hv => cases hv; exact ⟨_, rfl, ha y⟩
  · rintro e w' ⟨c, ρ1, F1, rfl, _, _, _, hr, hc, _, _⟩
    exact ⟨congrArg _ hr, grown_of (hc.mono fun x hx => (no x hx).elim)⟩
/-- The places in order. -/
noncomputable def G64 : T64 := fun a => if a.1.length < 4611686018427387904 then some (a.1.mergeSort fun x y => !(ltOf cmpZ) y x, ()) else none
theorem okG64 : OK Proofs.Tryz.prog 64 (N64 G64) := by
  refine ⟨fun R av bs K r hs => ?_, Proofs.Tryz.f64, Proofs.Tryz.func64, by kernel_rfl, of_decide_eq_false (by kernel_rfl)⟩
  simp only [N64] at hs
  split at hs
  · rename_i av bs g l
    cases hg : Nat.beq g 65 <;> simp only [hg, cond_true, cond_false] at hs
    · cases hs
    · have := Nat.eq_of_beq_eq_true hg
      subst this
      unfold G64 at hs
      simp only at hs
      split at hs
      · rename_i hlen
        simp only [Option.bind_some] at hs
        refine ⟨_, _, hs, ?_⟩
        intro w F0 ρ0 ca HC hid hsz hv
        obtain ⟨c0, hc0, rel0⟩ := hv 0 _ rfl
        obtain ⟨c1, hc1, rel1⟩ := hv 1 _ rfl
        obtain ⟨t, a, len, cap, hρ, rfl⟩ := rel0
        obtain ⟨cf, rfl, hcf, _⟩ := rel1
        obtain rfl : cf = #[] := by
          apply Array.eq_empty_of_size_eq_zero
          simpa using hcf
        obtain rfl : ca = #[.slice a len cap, .func (.func 65) #[] #[]] := by
          apply Array.ext_getElem?
          intro i
          match i with
          | 0 => simpa using hc0
          | 1 => simpa using hc1
          | i + 2 => rw [Array.getElem?_eq_none (by rw [hsz]; simp)]; simp
        have hH := HC.heap 0 _ (.rows .place l) hρ (by rw [look_enter0]; rfl)
        obtain ⟨ht, hl, hle, hat⟩ := hH
        subst ht
        subst hl
        by_cases h0 : cap = 0
        · obtain rfl : l = [] := List.length_eq_zero_iff.mp (by omega)
          refine (AnyF.slices_SortFunc_none Proofs.Tryz.laysSort a cap (.func (.func 65) #[] #[]) w).mono ?_
          rintro e w' ⟨rfl, rfl⟩
          exact ⟨_, ρ0, F0, rfl, by simpa using HC, fun _ _ h => h, hid, ⟨#[], rfl, rfl, fun i v hv => by simp at hv⟩, Chg.refl _ _, fun _ h => .inl h, fun _ h => .inl h⟩
        · rcases hat with h | ⟨b, s, arr, rfl, hr, hsz', hat⟩
          · exact absurd h h0
          · have hsz' : s + cap * 2 ≤ arr.size := hsz'
            have hle2 : s + l.length * 2 ≤ arr.size := by omega
            have eg : ∀ args w, (callFunc 65 args).run Proofs.Tryz.prog w = .ok (.enter 65 args) w := enters_of Proofs.Tryz.func65 (by kernel_rfl) rfl
            have hcon := AnyQ.slices_SortFunc_total Proofs.Tryz.laysSort 2 Proofs.Tryz.isAgg38 Proofs.Tryz.sizeOf38 encP (fun _ => rfl) (fun x v hv => by simp [encP] at hv; rcases hv with rfl | rfl <;> rfl) cmpZ swoZ 65 #[] b s cap l.toArray w eg (cmpLaysZ b s _ w) (holds_K hr hle2 hat) hr.lt (by simpa using hlen) totZ
            refine (show Calls Proofs.Tryz.prog 64 #[.slice (some ⟨b, s, none⟩) l.length cap, .func (.func 65) #[] #[]] w _ from hcon).mono ?_
            rintro e w' ⟨rfl, n, os, rfl⟩
            have hlen' : (l.mergeSort fun x y => !(ltOf cmpZ) y x).length = l.length := List.length_mergeSort _
            simp only [List.toList_toArray]
            generalize (l.mergeSort fun x y => !(ltOf cmpZ) y x) = l' at hlen'
            obtain ⟨⟨arr', r1, r2⟩, r3, r4⟩ := sort_row hr hle2 hat hlen' n os
            have hMb : ρ0.M b := ⟨0, _, hρ, by simp [Loc.block, h0]⟩
            have hid0 : ∀ id x, ρ0 id = some x → id = 0 := fun id x hx => by have := hid id x hx; simp at this; exact this
            have hk : Chg ρ0.M w (sortWorldK encP 2 w b s n l'.toArray os) := r4.mono fun x hx => by rw [hx]; exact hMb
            refine ⟨_, ρ0, F0, rfl, ⟨fun id loc blk h1 h2 => ?_, HC.inj, fun x hx => ⟨Nat.lt_of_lt_of_le (HC.stable x hx).1 r4.size, (HC.stable x hx).2⟩, HC.glob.keep (fun _ h => h) fun x hx => hk.block x (HC.stable x hx).1 (HC.stable x hx).2⟩, fun _ _ h => h, hid, ⟨#[], rfl, rfl, fun i v hv => by simp at hv⟩, hk, fun _ h => .inl h, fun _ h => .inl h⟩
            obtain rfl := hid0 id loc h1
            rw [hρ] at h1; cases h1
            rw [look_enter0] at h2
            cases h2
            exact ⟨rfl, hlen', hle, .inr ⟨b, s, arr', rfl, r1, by rw [r2]; exact hsz', r3⟩⟩
      · cases hs
  · cases hs
end Ev
