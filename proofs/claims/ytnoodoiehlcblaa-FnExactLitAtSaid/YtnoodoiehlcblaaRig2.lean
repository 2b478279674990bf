/- Rigs: what it is that a valid rig is. -/
import Derived.Test.YtnoodoiehlcblaaMoved
import Derived.Test.YtnoodoiehlcblaaWp
set_option linter.unusedVariables false
set_option linter.unusedSimpArgs false
set_option maxRecDepth 100000
namespace Ev
open Go
/-! ### The order of texts -/
theorem less_irrefl : ∀ a : Str, Op.bytesLess a a = false
  | [] => rfl
  | x :: a => by simp [Op.bytesLess, less_irrefl a, UInt8.lt_irrefl]
theorem less_trans : ∀ a b c : Str, Op.bytesLess a b = true → Op.bytesLess b c = true → Op.bytesLess a c = true
  | [], [], _, h, _ => by simp [Op.bytesLess] at h
  | [], _ :: _, [], _, h => by simp [Op.bytesLess] at h
  | [], _ :: _, _ :: _, _, _ => rfl
  | _ :: _, [], _, h, _ => by simp [Op.bytesLess] at h
  | _ :: _, _ :: _, [], _, h => by simp [Op.bytesLess] at h
  | x :: a, y :: b, z :: c, h1, h2 => by
    simp only [Op.bytesLess, Bool.or_eq_true, Bool.and_eq_true, decide_eq_true_eq, beq_iff_eq] at h1 h2 ⊢
    rcases h1 with h1 | ⟨rfl, h1⟩
    · rcases h2 with h2 | ⟨rfl, h2⟩
      · exact .inl (UInt8.lt_trans h1 h2)
      · exact .inl h1
    · rcases h2 with h2 | ⟨rfl, h2⟩
      · exact .inl h2
      · exact .inr ⟨rfl, less_trans a b c h1 h2⟩
theorem less_ne {a b : Str} (h : Op.bytesLess a b = true) : a ≠ b := fun e => by subst e; rw [less_irrefl] at h; cases h
/-! ### Searches -/
def fndFrom (s : Str) : Nat → List Device → Int
  | _, [] => -1
  | i, d :: ds => if d.Name = s then (i : Int) else fndFrom s (i + 1) ds
def fnd (l : List Device) (s : Str) : Int := fndFrom s 0 l
theorem fndFrom_at (s : Str) : ∀ (l : List Device) (i : Nat), (fndFrom s i l = -1 ∧ ∀ d ∈ l, d.Name ≠ s) ∨ ∃ (k : Nat) (d : Device), fndFrom s i l = ((i + k : Nat) : Int) ∧ l[k]? = some d ∧ d.Name = s
  | [], i => .inl ⟨rfl, by simp⟩
  | x :: l, i => by
    unfold fndFrom
    by_cases h : x.Name = s
    · rw [if_pos h]; exact .inr ⟨0, x, by simp, rfl, h⟩
    · rw [if_neg h]
      rcases fndFrom_at s l (i + 1) with ⟨e, k⟩ | ⟨k, d, e, k1, k2⟩
      · refine .inl ⟨e, fun d hd => ?_⟩
        rcases List.mem_cons.mp hd with rfl | hd
        · exact h
        · exact k d hd
      · exact .inr ⟨k + 1, d, by rw [e]; congr 1; omega, by simpa using k1, k2⟩
theorem fnd_spec (l : List Device) (s : Str) : (fnd l s = -1 ∧ ∀ d ∈ l, d.Name ≠ s) ∨ ∃ (k : Nat) (d : Device), fnd l s = (k : Int) ∧ l[k]? = some d ∧ d.Name = s := by
  rcases fndFrom_at s l 0 with h | ⟨k, d, e, h⟩
  · exact .inl h
  · exact .inr ⟨k, d, by simpa [fnd] using e, h⟩
theorem findS_is (l : List Device) (hl : l.length ≤ 1048576) (s : Str) : G53 (l, s, ()) = some (fnd l s, ()) := by
  have key : ∀ (d i n : Nat), i + d = l.length → d < n → iterF s53_0 n (s, l, Int.ofNat l.length, (i : Int), ()) (fun t3 => some ((-1), ())) = some (fndFrom s i (l.drop i), ()) := by
    intro d
    induction d with
    | zero =>
      intro i n hd hn
      obtain ⟨n, rfl⟩ : ∃ k, n = k + 1 := ⟨n - 1, by omega⟩
      rw [iterF_succ]; simp only [s53_0]; rw [cond_false_dec (by simp; omega), List.drop_of_length_le (by omega)]; rfl
    | succ d ih =>
      intro i n hd hn
      obtain ⟨n, rfl⟩ : ∃ k, n = k + 1 := ⟨n - 1, by omega⟩
      have hi : i < l.length := by omega
      have hx : l[i]? = some l[i] := by simp
      have e1 : w64 ((i : Int) + 1) = ((i + 1 : Nat) : Int) := w64_id (by omega) (by omega)
      rw [drop_cons' l i hi]
      unfold fndFrom
      rw [iterF_succ]; simp only [s53_0]
      rw [cond_true_dec (by simp; omega), rdL_at hx]
      by_cases hc : l[i].Name = s
      · rw [cond_true_dec hc, if_pos hc]
      · rw [cond_false_dec hc, if_neg hc, e1]; exact ih (i + 1) n (by omega) (by omega)
  have := key l.length 0 fuel (by omega) (by rw [fuel_eq]; omega)
  rw [List.drop_zero] at this
  exact this
theorem findI_is (l : List Device) (hl : l.length ≤ 1048576) (s : Str) : G55 (l, s, ()) = some (fnd l s, ()) := by
  obtain ⟨v, h1, h2, _⟩ := find_ok l hl s
  have h3 := findS_is l hl s
  have : v = fnd l s := by
    have : some (v, ()) = some (fnd l s, ()) := h1.symm.trans h3
    injection this with this
    injection this
  subst this
  exact h2
/-! ### What hangs -/
def kindAt (l : List Device) (i : Nat) : Int := ((l[i]?).map fun d => d.Kind).getD 0
def nameAt (l : List Device) (i : Nat) : Str := ((l[i]?).map fun d => d.Name).getD []
def hungB (l : List Device) (d : Device) : Bool := decide (d.Kind = 1) || (decide (0 ≤ fnd l d.Line) && decide (kindAt l (fnd l d.Line).toNat = d.Kind - 1))
theorem hungI_is (l : List Device) (hl : l.length ≤ 1048576) (d : Device) (hk : d.Kind = 1 ∨ d.Kind = 2 ∨ d.Kind = 3) : G108 (l, d, ()) = some (hungB l d, ()) := by
  unfold G108 F108 hungB
  dsimp only
  by_cases k1 : d.Kind = 1
  · rw [cond_true_dec k1, decide_eq_true k1]; rfl
  · rw [cond_false_dec k1, decide_eq_false k1, Bool.false_or, findI_is l hl]
    simp only [Option.bind_some, ge_iff_le]
    rcases fnd_spec l d.Line with ⟨e, _⟩ | ⟨k, x, e, h1, _⟩
    · rw [e]; rfl
    · rw [e, cond_true_dec (by omega), rdL_at h1, decide_eq_true (show (0 : Int) ≤ (k : Int) by omega), Bool.true_and]
      unfold kindAt
      rw [Int.toNat_natCast, h1, w64_id (by omega) (by omega)]; rfl
theorem hungS_is (l : List Device) (hl : l.length ≤ 1048576) (d : Device) (hk : d.Kind = 1 ∨ d.Kind = 2 ∨ d.Kind = 3) : G96 (l, d, ()) = some (hungB l d, ()) := by
  obtain ⟨b, h1, h2⟩ := hung_ok l hl d hk
  have h3 := hungI_is l hl d hk
  have e : some (b, ()) = some (hungB l d, ()) := h2.symm.trans h3
  exact h1.trans e
/-! ### Rigs -/
def rigAt (l : List Device) (i : Nat) : Bool := match l[i]? with
  | some d => devB d && ((decide (i = 0) || Op.bytesLess (nameAt l (i - 1)) d.Name) && hungB l d)
  | none => true
def rigB (l : List Device) : Bool := decide (l.length ≤ 8) && (List.range l.length).all (rigAt l)
theorem dev_kind {d : Device} (h : devB d = true) : d.Kind = 1 ∨ d.Kind = 2 ∨ d.Kind = 3 := by
  unfold devB at h
  by_cases k1 : d.Kind = 1
  · exact .inl k1
  · by_cases k2 : d.Kind = 2
    · exact .inr (.inl k2)
    · by_cases k3 : d.Kind = 3
      · exact .inr (.inr k3)
      · rw [if_neg k1, if_neg k2, if_neg k3] at h; simp at h
theorem rigI_is (l : List Device) (hl : l.length ≤ 1048576) (hn : DevsOK l) : G77 (l, ()) = some (rigB l, ()) := by
  unfold G77 F77 rigB
  dsimp only
  by_cases h8 : Int.ofNat l.length > 8
  · rw [cond_true_dec h8, decide_eq_false (by simp at h8; omega)]; rfl
  · rw [cond_false_dec h8, decide_eq_true (by simp at h8; omega), Bool.true_and]
    have := iterF_chk (f := s77_0 G107 G108) (K := fun t7 => some (true, ())) (fun i => (l, l, Int.ofNat l.length, (i : Int), ())) (rigAt l) (some (false, ())) l.length (by omega)
      (by
        intro i hi rec K
        have hx : l[i]? = some l[i] := by simp
        have e1 : w64 ((i : Int) + 1) = ((i + 1 : Nat) : Int) := w64_id (by omega) (by omega)
        obtain ⟨q1, q2⟩ := hn l[i] (by simp)
        have hd : G107 (l[i], ()) = some (devB l[i], ()) := (devB_is l[i] q1 q2).2
        unfold rigAt
        rw [hx]
        simp only [s77_0]
        rw [cond_true_dec (by simp; omega), rdL_at hx, hd]
        simp only [Option.bind_some, Bool.not_not]
        cases hb : devB l[i]
        · rfl
        · simp only [cond_true, Bool.true_and]
          rw [hungI_is l hl _ (dev_kind hb), e1]
          simp only [Option.bind_some]
          by_cases hz : i = 0
          · subst hz
            rw [cond_false_dec (by omega)]
            simp only [decide_true, Bool.true_or, Bool.true_and]
            cases hungB l l[0] <;> rfl
          · obtain ⟨j, rfl⟩ : ∃ j, i = j + 1 := ⟨i - 1, by omega⟩
            have hy : l[j]? = some l[j] := by simp
            have e2 : w64 (((j + 1 : Nat) : Int) - 1) = (j : Int) := by rw [w64_id (by omega) (by omega)]; omega
            have ho : (Op.bytesLess l[j + 1].Name l[j].Name || decide (l[j + 1].Name = l[j].Name)) = !Op.bytesLess l[j].Name l[j + 1].Name := (less_total _ _).symm
            rw [cond_true_dec (by omega), e2, rdL_at hy, ho, decide_eq_false hz]
            unfold nameAt
            rw [Nat.add_sub_cancel, hy]
            simp only [Bool.not_not, Bool.false_or, Option.map_some, Option.getD_some]
            cases Op.bytesLess l[j].Name l[j + 1].Name
            · rfl
            · simp only [cond_true, Bool.true_and]
              cases hungB l l[j + 1] <;> rfl)
      (by
        intro rec K
        simp only [s77_0]
        rw [cond_false_dec (by simp)])
    refine this.trans ?_
    cases (List.range l.length).all (rigAt l) <;> rfl
theorem rigS_is (l : List Device) (hl : l.length ≤ 1048576) (hn : DevsOK l) : G67 (l, ()) = some (rigB l, ()) := by
  obtain ⟨b, h1, h2, _⟩ := rig_ok l hl hn
  have h3 := rigI_is l hl hn
  have e : some (b, ()) = some (rigB l, ()) := h2.symm.trans h3
  exact h1.trans e
structure RigP (l : List Device) : Prop where
  len : l.length ≤ 8
  dev : ∀ d ∈ l, devB d = true
  lt : ∀ i d e, l[i]? = some d → l[i + 1]? = some e → Op.bytesLess d.Name e.Name = true
  hung : ∀ d ∈ l, hungB l d = true
theorem rigB_iff (l : List Device) : rigB l = true ↔ RigP l := by
  unfold rigB
  rw [Bool.and_eq_true, decide_eq_true_eq, List.all_eq_true]
  constructor
  · rintro ⟨h8, h⟩
    have at' : ∀ (i : Nat) (d : Device), l[i]? = some d → devB d = true ∧ (i = 0 ∨ Op.bytesLess (nameAt l (i - 1)) d.Name = true) ∧ hungB l d = true := fun i d hd => by
      have hi : i < l.length := (List.getElem?_eq_some_iff.mp hd).1
      have := h i (by simpa using hi)
      unfold rigAt at this
      rw [hd] at this
      simpa using this
    refine ⟨h8, fun d hd => ?_, fun i d e hd he => ?_, fun d hd => ?_⟩
    · obtain ⟨i, hi⟩ := List.mem_iff_getElem?.mp hd
      exact (at' i d hi).1
    · rcases (at' (i + 1) e he).2.1 with h | h
      · omega
      · rw [Nat.add_sub_cancel] at h
        unfold nameAt at h
        rw [hd] at h
        exact h
    · obtain ⟨i, hi⟩ := List.mem_iff_getElem?.mp hd
      exact (at' i d hi).2.2
  · rintro ⟨h8, h1, h2, h3⟩
    refine ⟨h8, fun i hi => ?_⟩
    have hi : i < l.length := by simpa using hi
    have hx : l[i]? = some l[i] := by simp
    unfold rigAt
    rw [hx]
    simp only [Bool.and_eq_true, Bool.or_eq_true, decide_eq_true_eq]
    refine ⟨h1 _ (by simp), ?_, h3 _ (by simp)⟩
    by_cases hz : i = 0
    · exact .inl hz
    · right
      obtain ⟨j, rfl⟩ : ∃ j, i = j + 1 := ⟨i - 1, by omega⟩
      have hy : l[j]? = some l[j] := by simp
      unfold nameAt
      rw [Nat.add_sub_cancel, hy]
      exact h2 j _ _ hy hx
theorem rig_lt {l : List Device} (h : RigP l) : ∀ (k i : Nat) (d e : Device), l[i]? = some d → l[i + k + 1]? = some e → Op.bytesLess d.Name e.Name = true := by
  intro k
  induction k with
  | zero => intro i d e hd he; exact h.lt i d e hd he
  | succ k ih =>
    intro i d e hd he
    have hi : i + k + 1 + 1 < l.length := (List.getElem?_eq_some_iff.mp he).1
    have hx : l[i + k + 1]? = some l[i + k + 1] := by simp
    exact less_trans _ _ _ (ih i d _ hd hx) (h.lt (i + k + 1) _ e hx he)
theorem rig_uniq {l : List Device} (h : RigP l) {i j : Nat} {d e : Device} (hd : l[i]? = some d) (he : l[j]? = some e) (hn : d.Name = e.Name) : i = j := by
  rcases Nat.lt_trichotomy i j with hl | hl | hl
  · obtain ⟨k, rfl⟩ : ∃ k, j = i + k + 1 := ⟨j - i - 1, by omega⟩
    exact absurd hn (less_ne (rig_lt h k i d e hd he))
  · exact hl
  · obtain ⟨k, rfl⟩ : ∃ k, i = j + k + 1 := ⟨i - j - 1, by omega⟩
    exact absurd hn.symm (less_ne (rig_lt h k j e d he hd))
/-- What a nozzle hangs on is a pump, and what a lamp hangs on a nozzle. -/
theorem rig_line {l : List Device} (h : RigP l) {d : Device} (hd : d ∈ l) (hk : d.Kind ≠ 1) : ∃ (k : Nat) (x : Device), fnd l d.Line = (k : Int) ∧ l[k]? = some x ∧ x.Name = d.Line ∧ x.Kind = d.Kind - 1 := by
  have := h.hung d hd
  unfold hungB at this
  rw [decide_eq_false hk, Bool.false_or, Bool.and_eq_true, decide_eq_true_eq, decide_eq_true_eq] at this
  rcases fnd_spec l d.Line with ⟨e, _⟩ | ⟨k, x, e, h1, h2⟩
  · omega
  · refine ⟨k, x, e, h1, h2, ?_⟩
    have h3 := this.2
    unfold kindAt at h3
    rw [e, Int.toNat_natCast, h1] at h3
    exact h3
theorem fnd_self {l : List Device} (h : RigP l) {i : Nat} {d : Device} (hd : l[i]? = some d) : fnd l d.Name = (i : Int) := by
  rcases fnd_spec l d.Name with ⟨e, hn⟩ | ⟨k, x, e, h1, h2⟩
  · exact absurd rfl (hn d (List.mem_iff_getElem?.mpr ⟨i, hd⟩))
  · rw [e, rig_uniq h h1 hd h2]
end Ev
