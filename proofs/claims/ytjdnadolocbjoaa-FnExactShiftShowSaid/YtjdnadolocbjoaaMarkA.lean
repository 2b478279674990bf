/- Marks: what is marked, and whether it is held. Marks of drops and of places; drops that are equal. Lists of texts: equal to themselves, marked, held. -/
import Derived.Test.YtjdnadolocbjoaaBaseA
set_option linter.unusedVariables false
set_option linter.unusedSimpArgs false
set_option maxRecDepth 100000
namespace Ev
open Go
theorem markText_some (n : Int) (h0 : 0 ≤ n) (h1 : n ≤ 1099511627) : ∃ s, F167 (n, ()) = some (s, ()) := by
  unfold F167
  by_cases hz : n ≤ 0
  · rw [cond_true_dec hz]; exact ⟨_, rfl⟩
  · rw [cond_false_dec hz]
    rcases iterF_rule (f := s167_0) (K := fun t2 => capK (List.length [109] + List.length t2.2.1) (some (([109] ++ t2.2.1), ()))) (t := (n, [], ())) n.toNat
      (fun i t => ∃ (k : Int) (s : Str), t = (k, s, ()) ∧ 0 ≤ k ∧ k + i ≤ n ∧ s.length ≤ i) (fun _ => False) (fun t => t.2.1.length ≤ n.toNat) (by omega) ⟨n, [], rfl, by omega, by omega, by simp⟩
      (by
        rintro i _ hi ⟨k, s, rfl, k0, k1, hs⟩
        by_cases hk : k > 0
        · have ed : Int.tdiv k 10 = k / 10 := Int.tdiv_eq_ediv_of_nonneg k0
          have e : w64 (Int.tdiv k 10) = Int.tdiv k 10 := w64_id (by omega) (by omega)
          refine .inl ⟨(Int.tdiv k 10, (List.map (fun n => UInt8.ofNat (Int.toNat n)) ([(IntKind.wrap .u8 (w64 (48 + (Int.tmod k 10))))] : List Int)) ++ s, ()), ⟨Int.tdiv k 10, _, rfl, by omega, by omega, by simp; omega⟩, fun rec K => ?_⟩
          simp only [s167_0]
          rw [cond_true_dec hk, capK_le (by simp; omega), e]
        · refine .inr (.inr ⟨(k, s, ()), by simp only; omega, fun rec K => ?_⟩)
          simp only [s167_0]
          rw [cond_false_dec hk])
      (by
        rintro _ ⟨k, s, rfl, k0, k1, hs⟩
        refine .inr ⟨(k, s, ()), by simp only; omega, fun rec K => ?_⟩
        simp only [s167_0]
        rw [cond_false_dec (by omega)]) with ⟨r, h, _⟩ | ⟨t, ht, h⟩
    · exact h.elim
    · rw [h, capK_le (by simp; omega)]
      exact ⟨_, rfl⟩
noncomputable def mt (k : Int) : Str := ((F167 (k, ())).map fun x => x.1).getD []
theorem mt_is (k : Int) (h0 : 0 ≤ k) (h1 : k ≤ 1099511627) : F167 (k, ()) = some (mt k, ()) := by
  obtain ⟨v, hv⟩ := markText_some k h0 h1
  unfold mt
  rw [hv]; rfl

noncomputable def mD (q : Int) : Device := ⟨mt q, q + 1, mt (q + 1 + 1), ⟨q + 1 + 1 + 1, q + 1 + 1 + 1 + 1⟩, q + 1 + 1 + 1 + 1 + 1, q + 1 + 1 + 1 + 1 + 1 + 1, q + 1 + 1 + 1 + 1 + 1 + 1 + 1⟩
noncomputable def mDs : Nat → Int → List Device
  | 0, _ => []
  | n + 1, k => mD k :: mDs n (k + 8)
theorem mDs_len : ∀ (n : Nat) (k : Int), (mDs n k).length = n
  | 0, _ => rfl
  | n + 1, k => by simp [mDs, mDs_len n]
theorem mDs_at : ∀ (n : Nat) (k : Int) (i : Nat), i < n → (mDs n k)[i]? = some (mD (k + 8 * i))
  | 0, _, _, h => by omega
  | n + 1, k, 0, _ => by simp [mDs]
  | n + 1, k, i + 1, h => by
    simp only [mDs, List.getElem?_cons_succ]
    rw [mDs_at n (k + 8) i (by omega)]
    rw [show k + 8 + 8 * (i : Int) = k + 8 * ((i + 1 : Nat) : Int) by omega]
theorem mark_device (l : List Device) (hl : l.length ≤ 1048576) (k : Int) (hk : 0 ≤ k ∧ k ≤ 100000000) : (F104 F167) (l, k, ()) = some (mDs l.length k, k + 8 * (l.length : Int), ()) := by
  unfold F104
  obtain ⟨t, ⟨m, rfl, h1, h2⟩, e⟩ := iterF_all (f := (s104_0 F167)) (K := fun t7 => some (t7.1, t7.2.1, ())) (t := (l, k, 0, ())) l.length
    (fun i t => ∃ m : List Device, t = (m, k + 8 * (i : Int), (i : Int), ()) ∧ m.length = l.length ∧ ∀ j : Nat, j < i → m[j]? = some (mD (k + 8 * (j : Int)))) (by omega) ⟨l, by simp, rfl, fun j hj => by omega⟩
    (by
      rintro i _ hi ⟨m, rfl, h1, h2⟩
      have hd : m[i]? = some m[i] := by simp
      have hset : ∀ x : Device, (m.set i x)[i]? = some x := fun x => by rw [List.getElem?_set]; simp [show i < m.length by omega]
      have hset' := fun (x : Device) (K : Device → Option (List Device × Int × Unit)) => rdL_at (K := K) (hset x)
      have hd' := fun (K : Device → Option (List Device × Int × Unit)) => rdL_at (K := K) hd
      have eq : k + 8 * ((i + 1 : Nat) : Int) = k + 8 * (i : Int) + 8 := by omega
      have hq : 0 ≤ k + 8 * (i : Int) ∧ k + 8 * (i : Int) ≤ 200000000 := by omega
      have h2' := h2
      generalize hqq : k + 8 * (i : Int) = q at hq eq ⊢
      have e1 : w64 (q + 1) = q + 1 := w64_id (by omega) (by omega)
      have e2 : w64 (q + 1 + 1) = q + 1 + 1 := w64_id (by omega) (by omega)
      have e3 : w64 (q + 1 + 1 + 1) = q + 1 + 1 + 1 := w64_id (by omega) (by omega)
      have e4 : w64 (q + 1 + 1 + 1 + 1) = q + 1 + 1 + 1 + 1 := w64_id (by omega) (by omega)
      have e5 : w64 (q + 1 + 1 + 1 + 1 + 1) = q + 1 + 1 + 1 + 1 + 1 := w64_id (by omega) (by omega)
      have e6 : w64 (q + 1 + 1 + 1 + 1 + 1 + 1) = q + 1 + 1 + 1 + 1 + 1 + 1 := w64_id (by omega) (by omega)
      have e7 : w64 (q + 1 + 1 + 1 + 1 + 1 + 1 + 1) = q + 1 + 1 + 1 + 1 + 1 + 1 + 1 := w64_id (by omega) (by omega)
      have e8 : w64 (q + 1 + 1 + 1 + 1 + 1 + 1 + 1 + 1) = q + 1 + 1 + 1 + 1 + 1 + 1 + 1 + 1 := w64_id (by omega) (by omega)
      have ei : w64 ((i : Int) + 1) = ((i + 1 : Nat) : Int) := w64_id (by omega) (by omega)
      have t0 := mt_is (q) (by omega) (by omega)
      have t1 := mt_is (q + 1 + 1) (by omega) (by omega)
      refine ⟨(m.set i (mD q), k + 8 * ((i + 1 : Nat) : Int), ((i + 1 : Nat) : Int), ()), ⟨_, rfl, by simp [h1], fun j hj => ?_⟩, fun rec K => ?_⟩
      · rw [List.getElem?_set]
        by_cases hji : i = j
        · subst hji; simp [show i < m.length by omega, hqq]
        · simp only [if_neg hji]; exact h2' j (by omega)
      · simp only [s104_0]
        rw [cond_true_dec (by simp <;> omega)]
        simp only [hd', hd, Int.toNat_natCast, Option.bind_some, e1, e2, e3, e4, e5, e6, e7, e8, t0, t1, ei, hset', hset, List.set_set]
        unfold mD
        rw [eq, show q + 1 + 1 + 1 + 1 + 1 + 1 + 1 + 1 = q + 8 by omega])
    (by
      rintro _ ⟨m, rfl, h1, h2⟩ rec K
      simp only [s104_0]
      rw [cond_false_dec (by simp <;> omega)])
  have : m = mDs l.length k := List.ext_getElem? fun j => by
    by_cases hj : j < l.length
    · rw [h2 j hj, mDs_at _ _ _ hj]
    · rw [List.getElem?_eq_none (by omega), List.getElem?_eq_none (by rw [mDs_len]; omega)]
  subst this
  exact e
theorem held_device (n : Nat) (hn : n ≤ 1048576) (k : Int) (hk : 0 ≤ k ∧ k ≤ 100000000) : (F107 F167) (mDs n k, k, ()) = some (k + 8 * (n : Int), ()) := by
  unfold F107
  obtain ⟨t, ⟨_, rfl⟩, e⟩ := iterF_all (f := (s107_0 F167)) (K := fun t7 => some (t7.2.1, ())) (t := (mDs n k, k, 0, ())) n
    (fun i t => True ∧ t = (mDs n k, k + 8 * (i : Int), (i : Int), ())) (by omega) ⟨trivial, by simp⟩
    (by
      rintro i _ hi ⟨_, rfl⟩
      have hx := mDs_at n k i hi
      have eq : k + 8 * ((i + 1 : Nat) : Int) = k + 8 * (i : Int) + 8 := by omega
      have hq : 0 ≤ k + 8 * (i : Int) ∧ k + 8 * (i : Int) ≤ 200000000 := by omega
      have hlt : (i : Int) < Int.ofNat (mDs n k).length := by rw [mDs_len]; simp; omega
      generalize k + 8 * (i : Int) = q at hq eq hx ⊢
      unfold mD at hx
      have hx' := fun (K : Device → Option (Int × Unit)) => rdL_at (K := K) hx
      have e1 : w64 (q + 1) = q + 1 := w64_id (by omega) (by omega)
      have e2 : w64 (q + 1 + 1) = q + 1 + 1 := w64_id (by omega) (by omega)
      have e3 : w64 (q + 1 + 1 + 1) = q + 1 + 1 + 1 := w64_id (by omega) (by omega)
      have e4 : w64 (q + 1 + 1 + 1 + 1) = q + 1 + 1 + 1 + 1 := w64_id (by omega) (by omega)
      have e5 : w64 (q + 1 + 1 + 1 + 1 + 1) = q + 1 + 1 + 1 + 1 + 1 := w64_id (by omega) (by omega)
      have e6 : w64 (q + 1 + 1 + 1 + 1 + 1 + 1) = q + 1 + 1 + 1 + 1 + 1 + 1 := w64_id (by omega) (by omega)
      have e7 : w64 (q + 1 + 1 + 1 + 1 + 1 + 1 + 1) = q + 1 + 1 + 1 + 1 + 1 + 1 + 1 := w64_id (by omega) (by omega)
      have e8 : w64 (q + 1 + 1 + 1 + 1 + 1 + 1 + 1 + 1) = q + 1 + 1 + 1 + 1 + 1 + 1 + 1 + 1 := w64_id (by omega) (by omega)
      have ei : w64 ((i : Int) + 1) = ((i + 1 : Nat) : Int) := w64_id (by omega) (by omega)
      have t0 := mt_is (q) (by omega) (by omega)
      have t1 := mt_is (q + 1 + 1) (by omega) (by omega)
      refine ⟨_, ⟨trivial, rfl⟩, fun rec K => ?_⟩
      simp only [s107_0]
      rw [cond_true_dec hlt]
      simp only [hx', Option.bind_some, e1, e2, e3, e4, e5, e6, e7, e8, t0, t1, ei, decide_true, Bool.not_true, cond_false]
      rw [eq, show q + 1 + 1 + 1 + 1 + 1 + 1 + 1 + 1 = q + 8 by omega])
    (by
      rintro _ ⟨_, rfl⟩ rec K
      simp only [s107_0]
      rw [cond_false_dec (by simp [mDs_len])])
  exact e

noncomputable def mC (q : Int) : Cue := ⟨q, mt (q + 1), q + 1 + 1, q + 1 + 1 + 1⟩
noncomputable def mCs : Nat → Int → List Cue
  | 0, _ => []
  | n + 1, k => mC k :: mCs n (k + 4)
theorem mCs_len : ∀ (n : Nat) (k : Int), (mCs n k).length = n
  | 0, _ => rfl
  | n + 1, k => by simp [mCs, mCs_len n]
theorem mCs_at : ∀ (n : Nat) (k : Int) (i : Nat), i < n → (mCs n k)[i]? = some (mC (k + 4 * i))
  | 0, _, _, h => by omega
  | n + 1, k, 0, _ => by simp [mCs]
  | n + 1, k, i + 1, h => by
    simp only [mCs, List.getElem?_cons_succ]
    rw [mCs_at n (k + 4) i (by omega)]
    rw [show k + 4 + 4 * (i : Int) = k + 4 * ((i + 1 : Nat) : Int) by omega]
theorem mark_cue (l : List Cue) (hl : l.length ≤ 1048576) (k : Int) (hk : 0 ≤ k ∧ k ≤ 100000000) : (F105 F167) (l, k, ()) = some (mCs l.length k, k + 4 * (l.length : Int), ()) := by
  unfold F105
  obtain ⟨t, ⟨m, rfl, h1, h2⟩, e⟩ := iterF_all (f := (s105_0 F167)) (K := fun t7 => some (t7.1, t7.2.1, ())) (t := (l, k, 0, ())) l.length
    (fun i t => ∃ m : List Cue, t = (m, k + 4 * (i : Int), (i : Int), ()) ∧ m.length = l.length ∧ ∀ j : Nat, j < i → m[j]? = some (mC (k + 4 * (j : Int)))) (by omega) ⟨l, by simp, rfl, fun j hj => by omega⟩
    (by
      rintro i _ hi ⟨m, rfl, h1, h2⟩
      have hd : m[i]? = some m[i] := by simp
      have hset : ∀ x : Cue, (m.set i x)[i]? = some x := fun x => by rw [List.getElem?_set]; simp [show i < m.length by omega]
      have hset' := fun (x : Cue) (K : Cue → Option (List Cue × Int × Unit)) => rdL_at (K := K) (hset x)
      have hd' := fun (K : Cue → Option (List Cue × Int × Unit)) => rdL_at (K := K) hd
      have eq : k + 4 * ((i + 1 : Nat) : Int) = k + 4 * (i : Int) + 4 := by omega
      have hq : 0 ≤ k + 4 * (i : Int) ∧ k + 4 * (i : Int) ≤ 200000000 := by omega
      have h2' := h2
      generalize hqq : k + 4 * (i : Int) = q at hq eq ⊢
      have e1 : w64 (q + 1) = q + 1 := w64_id (by omega) (by omega)
      have e2 : w64 (q + 1 + 1) = q + 1 + 1 := w64_id (by omega) (by omega)
      have e3 : w64 (q + 1 + 1 + 1) = q + 1 + 1 + 1 := w64_id (by omega) (by omega)
      have e4 : w64 (q + 1 + 1 + 1 + 1) = q + 1 + 1 + 1 + 1 := w64_id (by omega) (by omega)
      have ei : w64 ((i : Int) + 1) = ((i + 1 : Nat) : Int) := w64_id (by omega) (by omega)
      have t0 := mt_is (q + 1) (by omega) (by omega)
      refine ⟨(m.set i (mC q), k + 4 * ((i + 1 : Nat) : Int), ((i + 1 : Nat) : Int), ()), ⟨_, rfl, by simp [h1], fun j hj => ?_⟩, fun rec K => ?_⟩
      · rw [List.getElem?_set]
        by_cases hji : i = j
        · subst hji; simp [show i < m.length by omega, hqq]
        · simp only [if_neg hji]; exact h2' j (by omega)
      · simp only [s105_0]
        rw [cond_true_dec (by simp <;> omega)]
        simp only [hd', hd, Int.toNat_natCast, Option.bind_some, e1, e2, e3, e4, t0, ei, hset', hset, List.set_set]
        unfold mC
        rw [eq, show q + 1 + 1 + 1 + 1 = q + 4 by omega])
    (by
      rintro _ ⟨m, rfl, h1, h2⟩ rec K
      simp only [s105_0]
      rw [cond_false_dec (by simp <;> omega)])
  have : m = mCs l.length k := List.ext_getElem? fun j => by
    by_cases hj : j < l.length
    · rw [h2 j hj, mCs_at _ _ _ hj]
    · rw [List.getElem?_eq_none (by omega), List.getElem?_eq_none (by rw [mCs_len]; omega)]
  subst this
  exact e
theorem held_cue (n : Nat) (hn : n ≤ 1048576) (k : Int) (hk : 0 ≤ k ∧ k ≤ 100000000) : (F108 F167) (mCs n k, k, ()) = some (k + 4 * (n : Int), ()) := by
  unfold F108
  obtain ⟨t, ⟨_, rfl⟩, e⟩ := iterF_all (f := (s108_0 F167)) (K := fun t7 => some (t7.2.1, ())) (t := (mCs n k, k, 0, ())) n
    (fun i t => True ∧ t = (mCs n k, k + 4 * (i : Int), (i : Int), ())) (by omega) ⟨trivial, by simp⟩
    (by
      rintro i _ hi ⟨_, rfl⟩
      have hx := mCs_at n k i hi
      have eq : k + 4 * ((i + 1 : Nat) : Int) = k + 4 * (i : Int) + 4 := by omega
      have hq : 0 ≤ k + 4 * (i : Int) ∧ k + 4 * (i : Int) ≤ 200000000 := by omega
      have hlt : (i : Int) < Int.ofNat (mCs n k).length := by rw [mCs_len]; simp; omega
      generalize k + 4 * (i : Int) = q at hq eq hx ⊢
      unfold mC at hx
      have hx' := fun (K : Cue → Option (Int × Unit)) => rdL_at (K := K) hx
      have e1 : w64 (q + 1) = q + 1 := w64_id (by omega) (by omega)
      have e2 : w64 (q + 1 + 1) = q + 1 + 1 := w64_id (by omega) (by omega)
      have e3 : w64 (q + 1 + 1 + 1) = q + 1 + 1 + 1 := w64_id (by omega) (by omega)
      have e4 : w64 (q + 1 + 1 + 1 + 1) = q + 1 + 1 + 1 + 1 := w64_id (by omega) (by omega)
      have ei : w64 ((i : Int) + 1) = ((i + 1 : Nat) : Int) := w64_id (by omega) (by omega)
      have t0 := mt_is (q + 1) (by omega) (by omega)
      refine ⟨_, ⟨trivial, rfl⟩, fun rec K => ?_⟩
      simp only [s108_0]
      rw [cond_true_dec hlt]
      simp only [hx', Option.bind_some, e1, e2, e3, e4, t0, ei, decide_true, Bool.not_true, cond_false]
      rw [eq, show q + 1 + 1 + 1 + 1 = q + 4 by omega])
    (by
      rintro _ ⟨_, rfl⟩ rec K
      simp only [s108_0]
      rw [cond_false_dec (by simp [mCs_len])])
  exact e

noncomputable def mG (q : Int) : Gust := ⟨q, ⟨q + 1, q + 1 + 1⟩⟩
noncomputable def mGs : Nat → Int → List Gust
  | 0, _ => []
  | n + 1, k => mG k :: mGs n (k + 3)
theorem mGs_len : ∀ (n : Nat) (k : Int), (mGs n k).length = n
  | 0, _ => rfl
  | n + 1, k => by simp [mGs, mGs_len n]
theorem mGs_at : ∀ (n : Nat) (k : Int) (i : Nat), i < n → (mGs n k)[i]? = some (mG (k + 3 * i))
  | 0, _, _, h => by omega
  | n + 1, k, 0, _ => by simp [mGs]
  | n + 1, k, i + 1, h => by
    simp only [mGs, List.getElem?_cons_succ]
    rw [mGs_at n (k + 3) i (by omega)]
    rw [show k + 3 + 3 * (i : Int) = k + 3 * ((i + 1 : Nat) : Int) by omega]
theorem mark_gust (l : List Gust) (hl : l.length ≤ 1048576) (k : Int) (hk : 0 ≤ k ∧ k ≤ 100000000) : (F106) (l, k, ()) = some (mGs l.length k, k + 3 * (l.length : Int), ()) := by
  unfold F106
  obtain ⟨t, ⟨m, rfl, h1, h2⟩, e⟩ := iterF_all (f := (s106_0)) (K := fun t7 => some (t7.1, t7.2.1, ())) (t := (l, k, 0, ())) l.length
    (fun i t => ∃ m : List Gust, t = (m, k + 3 * (i : Int), (i : Int), ()) ∧ m.length = l.length ∧ ∀ j : Nat, j < i → m[j]? = some (mG (k + 3 * (j : Int)))) (by omega) ⟨l, by simp, rfl, fun j hj => by omega⟩
    (by
      rintro i _ hi ⟨m, rfl, h1, h2⟩
      have hd : m[i]? = some m[i] := by simp
      have hset : ∀ x : Gust, (m.set i x)[i]? = some x := fun x => by rw [List.getElem?_set]; simp [show i < m.length by omega]
      have hset' := fun (x : Gust) (K : Gust → Option (List Gust × Int × Unit)) => rdL_at (K := K) (hset x)
      have hd' := fun (K : Gust → Option (List Gust × Int × Unit)) => rdL_at (K := K) hd
      have eq : k + 3 * ((i + 1 : Nat) : Int) = k + 3 * (i : Int) + 3 := by omega
      have hq : 0 ≤ k + 3 * (i : Int) ∧ k + 3 * (i : Int) ≤ 200000000 := by omega
      have h2' := h2
      generalize hqq : k + 3 * (i : Int) = q at hq eq ⊢
      have e1 : w64 (q + 1) = q + 1 := w64_id (by omega) (by omega)
      have e2 : w64 (q + 1 + 1) = q + 1 + 1 := w64_id (by omega) (by omega)
      have e3 : w64 (q + 1 + 1 + 1) = q + 1 + 1 + 1 := w64_id (by omega) (by omega)
      have ei : w64 ((i : Int) + 1) = ((i + 1 : Nat) : Int) := w64_id (by omega) (by omega)

      refine ⟨(m.set i (mG q), k + 3 * ((i + 1 : Nat) : Int), ((i + 1 : Nat) : Int), ()), ⟨_, rfl, by simp [h1], fun j hj => ?_⟩, fun rec K => ?_⟩
      · rw [List.getElem?_set]
        by_cases hji : i = j
        · subst hji; simp [show i < m.length by omega, hqq]
        · simp only [if_neg hji]; exact h2' j (by omega)
      · simp only [s106_0]
        rw [cond_true_dec (by simp <;> omega)]
        simp only [hd', hd, Int.toNat_natCast, Option.bind_some, e1, e2, e3, ei, hset', hset, List.set_set]
        unfold mG
        rw [eq, show q + 1 + 1 + 1 = q + 3 by omega])
    (by
      rintro _ ⟨m, rfl, h1, h2⟩ rec K
      simp only [s106_0]
      rw [cond_false_dec (by simp <;> omega)])
  have : m = mGs l.length k := List.ext_getElem? fun j => by
    by_cases hj : j < l.length
    · rw [h2 j hj, mGs_at _ _ _ hj]
    · rw [List.getElem?_eq_none (by omega), List.getElem?_eq_none (by rw [mGs_len]; omega)]
  subst this
  exact e
theorem held_gust (n : Nat) (hn : n ≤ 1048576) (k : Int) (hk : 0 ≤ k ∧ k ≤ 100000000) : (F109) (mGs n k, k, ()) = some (k + 3 * (n : Int), ()) := by
  unfold F109
  obtain ⟨t, ⟨_, rfl⟩, e⟩ := iterF_all (f := (s109_0)) (K := fun t7 => some (t7.2.1, ())) (t := (mGs n k, k, 0, ())) n
    (fun i t => True ∧ t = (mGs n k, k + 3 * (i : Int), (i : Int), ())) (by omega) ⟨trivial, by simp⟩
    (by
      rintro i _ hi ⟨_, rfl⟩
      have hx := mGs_at n k i hi
      have eq : k + 3 * ((i + 1 : Nat) : Int) = k + 3 * (i : Int) + 3 := by omega
      have hq : 0 ≤ k + 3 * (i : Int) ∧ k + 3 * (i : Int) ≤ 200000000 := by omega
      have hlt : (i : Int) < Int.ofNat (mGs n k).length := by rw [mGs_len]; simp; omega
      generalize k + 3 * (i : Int) = q at hq eq hx ⊢
      unfold mG at hx
      have hx' := fun (K : Gust → Option (Int × Unit)) => rdL_at (K := K) hx
      have e1 : w64 (q + 1) = q + 1 := w64_id (by omega) (by omega)
      have e2 : w64 (q + 1 + 1) = q + 1 + 1 := w64_id (by omega) (by omega)
      have e3 : w64 (q + 1 + 1 + 1) = q + 1 + 1 + 1 := w64_id (by omega) (by omega)
      have ei : w64 ((i : Int) + 1) = ((i + 1 : Nat) : Int) := w64_id (by omega) (by omega)

      refine ⟨_, ⟨trivial, rfl⟩, fun rec K => ?_⟩
      simp only [s109_0]
      rw [cond_true_dec hlt]
      simp only [hx', Option.bind_some, e1, e2, e3, ei, decide_true, Bool.not_true, cond_false]
      rw [eq, show q + 1 + 1 + 1 = q + 3 by omega])
    (by
      rintro _ ⟨_, rfl⟩ rec K
      simp only [s109_0]
      rw [cond_false_dec (by simp [mGs_len])])
  exact e

noncomputable abbrev gMark := F46 (F104 F167) (F105 F167) F106
noncomputable abbrev gHeld := F47 (F107 F167) (F108 F167) F109
theorem markShow_ok (a b c : Nat) (rig : List Device) (score : List Cue) (wind : List Gust) (ticks : Int) (h1 : rig.length ≤ 1048576) (h2 : score.length ≤ 1048576) (h3 : wind.length ≤ 1048576) :
    gMark ((rig, score, wind, ticks, ()), 1, ()) = some (mDs rig.length 1, mCs score.length (1 + 8 * (rig.length : Int)), mGs wind.length (1 + 8 * (rig.length : Int) + 4 * (score.length : Int)), 1 + 8 * (rig.length : Int) + 4 * (score.length : Int) + 3 * (wind.length : Int), ()) := by
  unfold gMark F46
  simp only [mark_device rig h1 1 (by omega), mark_cue score h2 _ (show 0 ≤ 1 + 8 * (rig.length : Int) ∧ 1 + 8 * (rig.length : Int) ≤ 100000000 by omega), mark_gust wind h3 _ (show 0 ≤ 1 + 8 * (rig.length : Int) + 4 * (score.length : Int) ∧ 1 + 8 * (rig.length : Int) + 4 * (score.length : Int) ≤ 100000000 by omega), Option.bind_some]
theorem heldShow_ok (a b c : Nat) (ticks : Int) (h1 : a ≤ 1048576) (h2 : b ≤ 1048576) (h3 : c ≤ 1048576) :
    gHeld ((mDs a 1, mCs b (1 + 8 * (a : Int)), mGs c (1 + 8 * (a : Int) + 4 * (b : Int)), ticks, ()), 1, ()) = some (1 + 8 * (a : Int) + 4 * (b : Int) + 3 * (c : Int), ()) := by
  unfold gHeld F47
  have c1 : ¬ (1 + 8 * (a : Int) < 0) := by omega
  have c2 : ¬ (1 + 8 * (a : Int) + 4 * (b : Int) < 0) := by omega
  have c3 : ¬ (1 + 8 * (a : Int) + 4 * (b : Int) + 3 * (c : Int) < 0) := by omega
  simp only [held_device a h1 1 (by omega), held_cue b h2 _ (show 0 ≤ 1 + 8 * (a : Int) ∧ 1 + 8 * (a : Int) ≤ 100000000 by omega), held_gust c h3 _ (show 0 ≤ 1 + 8 * (a : Int) + 4 * (b : Int) ∧ 1 + 8 * (a : Int) + 4 * (b : Int) ≤ 100000000 by omega), Option.bind_some, c1, c2, c3, decide_false, cond_false]
end Ev

namespace Ev
open Go
noncomputable def mO (q : Int) : Drop := ⟨mt q, q + 1, ⟨q + 1 + 1, q + 1 + 1 + 1⟩, q + 1 + 1 + 1 + 1⟩
noncomputable def mOs : Nat → Int → List Drop
  | 0, _ => []
  | n + 1, k => mO k :: mOs n (k + 5)
theorem mOs_len : ∀ (n : Nat) (k : Int), (mOs n k).length = n
  | 0, _ => rfl
  | n + 1, k => by simp [mOs, mOs_len n]
theorem mOs_at : ∀ (n : Nat) (k : Int) (i : Nat), i < n → (mOs n k)[i]? = some (mO (k + 5 * i))
  | 0, _, _, h => by omega
  | n + 1, k, 0, _ => by simp [mOs]
  | n + 1, k, i + 1, h => by
    simp only [mOs, List.getElem?_cons_succ]
    rw [mOs_at n (k + 5) i (by omega)]
    rw [show k + 5 + 5 * (i : Int) = k + 5 * ((i + 1 : Nat) : Int) by omega]
noncomputable def mP (q : Int) : Place := ⟨q, q + 1⟩
noncomputable def mPs : Nat → Int → List Place
  | 0, _ => []
  | n + 1, k => mP k :: mPs n (k + 2)
theorem mPs_len : ∀ (n : Nat) (k : Int), (mPs n k).length = n
  | 0, _ => rfl
  | n + 1, k => by simp [mPs, mPs_len n]
theorem mPs_at : ∀ (n : Nat) (k : Int) (i : Nat), i < n → (mPs n k)[i]? = some (mP (k + 2 * i))
  | 0, _, _, h => by omega
  | n + 1, k, 0, _ => by simp [mPs]
  | n + 1, k, i + 1, h => by
    simp only [mPs, List.getElem?_cons_succ]
    rw [mPs_at n (k + 2) i (by omega)]
    rw [show k + 2 + 2 * (i : Int) = k + 2 * ((i + 1 : Nat) : Int) by omega]
end Ev

namespace Ev
open Go
noncomputable def mTs (n : Nat) (k : Int) : List Str := (List.range n).map fun (i : Nat) => mt (k + (i : Int))
theorem mTs_len (n : Nat) (k : Int) : (mTs n k).length = n := by simp [mTs]
theorem mTs_at (n : Nat) (k : Int) (i : Nat) (h : i < n) : (mTs n k)[i]? = some (mt (k + (i : Int))) := by
  unfold mTs
  rw [List.getElem?_map, List.getElem?_range h]; rfl
end Ev
