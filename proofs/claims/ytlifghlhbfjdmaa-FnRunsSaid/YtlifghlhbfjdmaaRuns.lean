/- Runs of equal levels: what is drawn together and what is told apart again. -/
import Derived.Test.YtlifghlhbfjdmaaFact
import Derived.Test.YtlifghlhbfjdmaaAny
set_option linter.unusedVariables false
set_option linter.unusedSimpArgs false
namespace Ev
open Go
theorem last_ix {α : Type} (r : List α) (d : α) (h : r.length ≤ 1048576) : w64 (Int.ofNat (r ++ [d]).length - 1) = (r.length : Int) := by
  rw [w64_id (by simp <;> omega) (by simp <;> omega)]; simp
theorem last_at {α : Type} (r : List α) (d : α) : (r ++ [d])[r.length]? = some d := by simp
theorem last_set {α : Type} (r : List α) (d v : α) : List.set (r ++ [d]) r.length v = r ++ [v] := by simp
theorem F73_F39 (l : List Int) (hl : l.length ≤ 1048576) : ∃ m, F73 (F78 F119) (l, ()) = some (m, ()) ∧ F15 (F22 F72) (l, ()) = some (m, ()) ∧ m.length ≤ l.length := by
  obtain ⟨b, h1, h2, h3⟩ := F78_ok l hl
  cases b with
  | false =>
    refine ⟨[], ?_, ?_, by simp⟩
    · unfold F73
      rw [show fuel = (fuel - 1) + 1 by rw [fuel_eq], iterF_succ]
      simp only [s73_0, h1, Option.bind_some]
      cases l with
      | nil => rfl
      | cons x l => rw [cond_true_dec (by simp <;> omega), show (0 : Int) = ((0 : Nat) : Int) from rfl, rdL_at (x := x) rfl]; rfl
    · unfold F15; simp only [h2, Option.bind_some]; rfl
  | true =>
    have key : ∀ (d i n : Nat) (r : List Run), i + d = l.length → d < n → r.length ≤ i → (i = 0 → r = []) → (∀ j, i = j + 1 → ∃ r' e, r = r' ++ [e] ∧ l[j]? = some e.Level ∧ 0 ≤ e.Count ∧ e.Count ≤ (i : Int)) → ∃ m : List Run, m.length ≤ l.length ∧
        iterF (s73_0 (F78 F119)) n (l, r, l, Int.ofNat l.length, (i : Int), ()) (fun t11 => some (t11.2.1, ())) = some (m, ()) ∧
        iterF (s15_0 (F22 F72)) n (r, l, Int.ofNat l.length, (i : Int), ()) (fun t7 => some (t7.1, ())) = some (m, ()) := by
      intro d
      induction d with
      | zero =>
        intro i n r hd hn hr h0 hS
        obtain ⟨n, rfl⟩ : ∃ k, n = k + 1 := ⟨n - 1, by omega⟩
        refine ⟨r, by omega, ?_, ?_⟩
        · rw [iterF_succ]; simp only [s73_0]; rw [cond_false_dec (by simp <;> omega)]
        · rw [iterF_succ]; simp only [s15_0]; rw [cond_false_dec (by simp <;> omega)]
      | succ d ih =>
        intro i n r hd hn hr h0 hS
        obtain ⟨n, rfl⟩ : ∃ k, n = k + 1 := ⟨n - 1, by omega⟩
        have hi : i < l.length := by omega
        have hx : l[i]? = some l[i] := by simp
        -- a new run
        have fresh : ∀ m : List Run, m = r ++ [⟨l[i], 1⟩] → ∃ k : List Run, k.length ≤ l.length ∧
            iterF (s73_0 (F78 F119)) n (l, m, l, Int.ofNat l.length, ((i + 1 : Nat) : Int), ()) (fun t11 => some (t11.2.1, ())) = some (k, ()) ∧
            iterF (s15_0 (F22 F72)) n (m, l, Int.ofNat l.length, ((i + 1 : Nat) : Int), ()) (fun t7 => some (t7.1, ())) = some (k, ()) := fun m hm =>
          ih (i + 1) n m (by omega) (by omega) (by rw [hm]; simp; omega) (fun h => by omega) (fun j hj => by
            have : j = i := by omega
            subst this
            exact ⟨r, _, hm, hx, by simp, by simp; omega⟩)
        have app : ∀ rec : List Int × List Run × List Int × Int × Int × Unit → Option (List Run × Unit), (capK (List.length r + List.length ([(⟨l[i], 0⟩ : Run)] : List Run)) (rdL (r ++ ([(⟨l[i], 0⟩ : Run)] : List Run)) (w64 ((Int.ofNat (List.length (r ++ ([(⟨l[i], 0⟩ : Run)] : List Run)))) - 1)) fun _ => ((r ++ ([(⟨l[i], 0⟩ : Run)] : List Run))[(Int.toNat (w64 ((Int.ofNat (List.length (r ++ ([(⟨l[i], 0⟩ : Run)] : List Run)))) - 1)))]?).bind fun d5 => rdL (r ++ ([(⟨l[i], 0⟩ : Run)] : List Run)) (w64 ((Int.ofNat (List.length (r ++ ([(⟨l[i], 0⟩ : Run)] : List Run)))) - 1)) fun _ => ((r ++ ([(⟨l[i], 0⟩ : Run)] : List Run))[(Int.toNat (w64 ((Int.ofNat (List.length (r ++ ([(⟨l[i], 0⟩ : Run)] : List Run)))) - 1)))]?).bind fun d6 => rec (l, (List.set (r ++ ([(⟨l[i], 0⟩ : Run)] : List Run)) (Int.toNat (w64 ((Int.ofNat (List.length (r ++ ([(⟨l[i], 0⟩ : Run)] : List Run)))) - 1))) (⟨d6.Level, (w64 (d5.Count + 1))⟩ : Run)), l, Int.ofNat l.length, (w64 ((i : Int) + 1)), ()))) = rec (l, r ++ [⟨l[i], 1⟩], l, Int.ofNat l.length, ((i + 1 : Nat) : Int), ()) := by
          intro rec
          rw [capK_le (by simp <;> omega), last_ix r _ (by omega), rdL_at (last_at r _)]
          simp only [Int.toNat_natCast, last_at, Option.bind_some]
          rw [rdL_at (last_at r _), last_set, w64_id (by omega) (by omega), w64_id (by omega) (by omega)]
          rfl
        by_cases hz : i = 0
        · subst hz
          have hr0 := h0 rfl
          subst hr0
          obtain ⟨k, hk, e1, e2⟩ := fresh _ rfl
          refine ⟨k, hk, ?_, ?_⟩
          · rw [iterF_succ]
            simp only [s73_0]
            rw [cond_true_dec (by simp <;> omega), rdL_at hx, h1, Option.bind_some]
            simp only [Bool.not_true, cond_false, show (((0 : Nat) : Int) = 0) = True from by simp, decide_true]
            exact (app (fun t => iterF (s73_0 (F78 F119)) n t _)).trans e1
          · rw [iterF_succ]
            simp only [s15_0]
            rw [cond_true_dec (by simp <;> omega), rdL_at hx, cond_false_dec (by rw [w64_id (by simp) (by simp)]; simp), capK_le (by simp), w64_id (by omega) (by omega)]
            exact e2
        · obtain ⟨j, rfl⟩ : ∃ j, i = j + 1 := ⟨i - 1, by omega⟩
          obtain ⟨r', e, rfl, hlev, hc0, hc1⟩ := hS j rfl
          have e1 : w64 (((j + 1 : Nat) : Int) - 1) = (j : Int) := by rw [w64_id (by omega) (by omega)]; omega
          have hr' : r'.length ≤ 1048576 := by simp at hr; omega
          by_cases hsame : e.Level = l[j + 1]
          · obtain ⟨k, hk, f1, f2⟩ := ih (j + 1 + 1) n (r' ++ [⟨e.Level, e.Count + 1⟩]) (by omega) (by omega) (by simp at hr ⊢ <;> omega) (fun h => by omega) (fun j' hj' => by
              have : j' = j + 1 := by omega
              subst this
              exact ⟨r', _, rfl, by rw [hx, hsame], by simp; omega, by simp; omega⟩)
            refine ⟨k, hk, ?_, ?_⟩
            · rw [iterF_succ]
              simp only [s73_0]
              rw [cond_true_dec (by simp <;> omega), rdL_at hx, h1, Option.bind_some]
              have d1 : ¬ ((j + 1 : Nat) : Int) = 0 := by omega
              simp only [Bool.not_true, Bool.not_false, cond_false, cond_true, d1, decide_false]
              rw [e1, rdL_at hlev]
              simp only [hsame, decide_true, Bool.not_true, cond_false]
              rw [last_ix r' _ hr', rdL_at (last_at r' _)]
              simp only [Int.toNat_natCast, last_at, Option.bind_some]
              rw [rdL_at (last_at r' _), last_set, w64_id (by omega) (by omega), w64_id (by omega) (by omega)]
              rw [hsame] at f1
              simpa [hsame] using f1
            · rw [iterF_succ]
              simp only [s15_0]
              rw [cond_true_dec (by simp <;> omega), rdL_at hx, last_ix r' _ hr', cond_true_dec (by omega), rdL_at (last_at r' _)]
              simp only [Int.toNat_natCast, last_at, Option.bind_some, hsame, decide_true, cond_true]
              rw [rdL_at (last_at r' _), rdL_at (last_at r' _), last_set, w64_id (by omega) (by omega), w64_id (by omega) (by omega)]
              simpa [hsame] using f2
          · obtain ⟨k, hk, f1, f2⟩ := fresh _ rfl
            refine ⟨k, hk, ?_, ?_⟩
            · rw [iterF_succ]
              simp only [s73_0]
              rw [cond_true_dec (by simp <;> omega), rdL_at hx, h1, Option.bind_some]
              have d1 : ¬ ((j + 1 : Nat) : Int) = 0 := by omega
              simp only [Bool.not_true, Bool.not_false, cond_false, cond_true, d1, decide_false]
              rw [e1, rdL_at hlev]
              simp only [hsame, decide_false, Bool.not_false, cond_true]
              exact (app (fun t => iterF (s73_0 (F78 F119)) n t _)).trans f1
            · rw [iterF_succ]
              simp only [s15_0]
              rw [cond_true_dec (by simp <;> omega), rdL_at hx, last_ix r' _ hr', cond_true_dec (by omega), rdL_at (last_at r' _)]
              simp only [Int.toNat_natCast, last_at, Option.bind_some, hsame, decide_false, cond_false]
              rw [capK_le (by simp <;> omega), w64_id (by omega) (by omega)]
              exact f2
    obtain ⟨m, hm, e1, e2⟩ := key l.length 0 fuel [] (by omega) (by rw [fuel_eq]; omega) (by simp) (fun _ => rfl) (fun j hj => by omega)
    refine ⟨m, ?_, ?_, by omega⟩
    · unfold F73; exact e1
    · unfold F15
      simp only [h2, Option.bind_some, Bool.not_true, cond_false]
      exact e2

def addR (r : List Run) (n : Int) : List Run := match r.getLast? with
  | some e => if e.Level = n then r.dropLast ++ [⟨n, e.Count + 1⟩] else r ++ [⟨n, 1⟩]
  | none => [⟨n, 1⟩]
theorem addR_nil (n : Int) : addR [] n = [⟨n, 1⟩] := rfl
theorem addR_same (r : List Run) (e : Run) : addR (r ++ [e]) e.Level = r ++ [⟨e.Level, e.Count + 1⟩] := by
  unfold addR; simp
theorem addR_new (r : List Run) (e : Run) (n : Int) (h : ¬ e.Level = n) : addR (r ++ [e]) n = r ++ [e] ++ [⟨n, 1⟩] := by
  unfold addR; simp [h]
def vrev : List Run → Prop
  | [] => True
  | x :: r => 1 ≤ x.Count ∧ (∀ a, r.head? = some a → ¬ a.Level = x.Level) ∧ vrev r
def Valid (r : List Run) : Prop := vrev r.reverse
def ex (r : List Run) : List Int := r.flatMap fun d => List.replicate d.Count.toNat d.Level
theorem ex_app (a b : List Run) : ex (a ++ b) = ex a ++ ex b := by simp [ex]
theorem ex_one (d : Run) : ex [d] = List.replicate d.Count.toNat d.Level := by simp [ex]
theorem valid_nil : Valid [] := trivial
theorem valid_snoc (r : List Run) (x : Run) : Valid (r ++ [x]) ↔ 1 ≤ x.Count ∧ (∀ a, r.getLast? = some a → ¬ a.Level = x.Level) ∧ Valid r := by
  unfold Valid
  simp [vrev, List.head?_reverse]
theorem snoc_cases (r : List Run) : r = [] ∨ ∃ r' e, r = r' ++ [e] := by
  rcases List.eq_nil_or_concat r with h | ⟨a, b, h⟩
  · exact .inl h
  · exact .inr ⟨a, b, by simpa using h⟩
theorem valid_addR (r : List Run) (n : Int) (h : Valid r) : Valid (addR r n) ∧ ex (addR r n) = ex r ++ [n] := by
  rcases snoc_cases r with rfl | ⟨r', e, rfl⟩
  · rw [addR_nil]
    refine ⟨(valid_snoc [] _).2 ⟨by simp, by simp, trivial⟩, by simp [ex]⟩
  · obtain ⟨h1, h2, h3⟩ := (valid_snoc r' e).1 h
    by_cases he : e.Level = n
    · subst he
      rw [addR_same]
      refine ⟨(valid_snoc r' _).2 ⟨by simp; omega, h2, h3⟩, ?_⟩
      rw [ex_app, ex_app, ex_one, ex_one, List.append_assoc]
      simp only
      rw [show (e.Count + 1).toNat = e.Count.toNat + 1 by omega, List.replicate_succ']
    · rw [addR_new _ _ _ he]
      refine ⟨(valid_snoc _ _).2 ⟨by simp, fun a ha => ?_, h⟩, ?_⟩
      · simp at ha; subst ha; exact he
      · rw [ex_app (r' ++ [e])]; rw [ex_one]; rfl
def runsOf (l : List Int) : List Run := l.foldl addR []
theorem runsOf_snoc (l : List Int) (x : Int) : runsOf (l ++ [x]) = addR (runsOf l) x := by simp [runsOf]
theorem runsOf_ok : ∀ (l : List Int), Valid (runsOf l) ∧ ex (runsOf l) = l := by
  intro l
  have key : ∀ (n : Nat) (l : List Int), l.length = n → Valid (runsOf l) ∧ ex (runsOf l) = l := by
    intro n
    induction n with
    | zero => intro l hl; have : l = [] := List.length_eq_zero_iff.mp hl; subst this; exact ⟨trivial, rfl⟩
    | succ n ih =>
      intro l hl
      rcases List.eq_nil_or_concat l with h | ⟨a, b, h⟩
      · subst h; simp at hl
      · rw [List.concat_eq_append] at h
        subst h
        obtain ⟨h1, h2⟩ := ih a (by simpa using hl)
        rw [runsOf_snoc]
        obtain ⟨h3, h4⟩ := valid_addR _ b h1
        exact ⟨h3, by rw [h4, h2]⟩
  exact key _ l rfl
theorem foldl_same (r : List Run) (L : Int) : ∀ (k : Nat) (c : Int), (List.replicate k L).foldl addR (r ++ [⟨L, c⟩]) = r ++ [⟨L, c + k⟩]
  | 0, c => by simp
  | k + 1, c => by
    rw [List.replicate_succ, List.foldl_cons]
    have := addR_same r ⟨L, c⟩
    simp only at this
    rw [this, foldl_same r L k (c + 1), show c + 1 + (k : Int) = c + ((k + 1 : Nat) : Int) by omega]
theorem runsOf_ex : ∀ (n : Nat) (s : List Run), s.length = n → Valid s → runsOf (ex s) = s := by
  intro n
  induction n with
  | zero => intro s hs _; have : s = [] := List.length_eq_zero_iff.mp hs; subst this; rfl
  | succ n ih =>
    intro s hs hv
    rcases snoc_cases s with rfl | ⟨s', e, rfl⟩
    · simp at hs
    · obtain ⟨h1, h2, h3⟩ := (valid_snoc s' e).1 hv
      have e0 := ih s' (by simpa using hs) h3
      rw [ex_app, ex_one]
      unfold runsOf at e0 ⊢
      rw [List.foldl_append, e0]
      obtain ⟨k, hk⟩ : ∃ k, e.Count.toNat = k + 1 := ⟨e.Count.toNat - 1, by omega⟩
      rw [hk, List.replicate_succ, List.foldl_cons]
      have first : addR s' e.Level = s' ++ [⟨e.Level, 1⟩] := by
        rcases snoc_cases s' with rfl | ⟨s'', d, rfl⟩
        · rfl
        · exact addR_new _ _ _ (h2 d (by simp))
      rw [first, foldl_same]
      congr 1
      have : (1 : Int) + (k : Int) = e.Count := by omega
      rw [this]
theorem valid_take (r : List Run) (h : Valid r) : ∀ (i : Nat), Valid (r.take i) := by
  have key : ∀ (n : Nat) (r : List Run), r.length = n → Valid r → ∀ i, Valid (r.take i) := by
    intro n
    induction n with
    | zero => intro r hr _ i; have : r = [] := List.length_eq_zero_iff.mp hr; subst this; simp; trivial
    | succ n ih =>
      intro r hr hv i
      rcases snoc_cases r with rfl | ⟨r', e, rfl⟩
      · simp at hr
      · by_cases hi : i ≤ r'.length
        · rw [List.take_append_of_le_length hi]
          exact ih r' (by simpa using hr) ((valid_snoc r' e).1 hv).2.2 i
        · rw [List.take_of_length_le (by simp; omega)]; exact hv
  exact key _ r rfl h
theorem take_snoc {α : Type} (r : List α) (i : Nat) (h : i < r.length) : r.take (i + 1) = r.take i ++ [r[i]] := by
  rw [List.take_add_one]; simp [h]
theorem last_app {α : Type} (l : List α) (x : α) : (l ++ [x]).getLast? = some x := by simp
theorem last_take {α : Type} (r : List α) (i : Nat) (h : i < r.length) : (r.take (i + 1)).getLast? = some r[i] := by
  rw [take_snoc r i h, last_app]
/-- What a run at a place is, in a valid list whose levels make a track. -/
theorem valid_runOK (r : List Run) (hv : Valid r) (ht : isTr (ex r) = true) (i : Nat) (hi : i < r.length) : runOK r i (ex (r.take i)) r[i] = true := by
  have h1 := valid_take r hv (i + 1)
  rw [take_snoc r i hi] at h1
  obtain ⟨c1, c2, _⟩ := (valid_snoc _ _).1 h1
  have split : ex r = ex (r.take i) ++ (List.replicate r[i].Count.toNat r[i].Level ++ ex (r.drop (i + 1))) := by
    rw [← ex_one, ← ex_app, ← ex_app]
    congr 1
    rw [show [r[i]] ++ r.drop (i + 1) = r.drop i by rw [List.singleton_append, List.getElem_cons_drop], List.take_append_drop]
  rw [split] at ht
  simp only [isTr, Bool.and_eq_true, decide_eq_true_eq, List.all_append] at ht
  have hl := ht.2
  simp only [List.length_append, List.length_replicate] at hl
  have hin : inR r[i].Level = true := List.all_eq_true.mp ht.1.2.1 _ (by rw [List.mem_replicate]; exact ⟨by omega, rfl⟩)
  unfold runOK
  rw [hin]
  have d1 : decide (1 ≤ r[i].Count) = true := by simpa using c1
  have d2 : decide (r[i].Count ≤ 64 - ((ex (r.take i)).length : Int)) = true := by simp; omega
  rw [d1, d2]
  simp only [Bool.true_and, Bool.not_eq_true', Bool.and_eq_false_iff, decide_eq_false_iff_not]
  by_cases h0 : 0 < i
  · right
    obtain ⟨j, rfl⟩ : ∃ j, i = j + 1 := ⟨i - 1, by omega⟩
    intro he
    have hj : r[j]? = some r[j] := by simp
    rw [show j + 1 - 1 = j by omega, hj] at he
    simp at he
    exact c2 r[j] (last_take r j (by omega)) he
  · exact .inl h0
theorem runsTrack (r : List Run) (hl : r.length ≤ 1048576) : ∃ (y : List Int) (b : Bool), F16 F72 (r, ()) = some (y, b, ()) ∧ (b = true → y = ex r ∧ Valid r ∧ isTr y = true) ∧ (Valid r → isTr (ex r) = true → b = true) := by
  have key : ∀ (d i n : Nat), i + d = r.length → d < n → Valid (r.take i) → isTr (ex (r.take i)) = true → ∃ (y : List Int) (b : Bool),
      iterF (s16_0 F72) n (r, ex (r.take i), r, Int.ofNat r.length, (i : Int), ()) (fun t9 => some (t9.2.1, true, ())) = some (y, b, ()) ∧ (b = true → y = ex r ∧ Valid r ∧ isTr y = true) ∧ (Valid r → isTr (ex r) = true → b = true) := by
    intro d
    induction d with
    | zero =>
      intro i n hd hn hv ht
      obtain ⟨n, rfl⟩ : ∃ k, n = k + 1 := ⟨n - 1, by omega⟩
      have : r.take i = r := List.take_of_length_le (by omega)
      rw [this] at hv ht ⊢
      refine ⟨ex r, true, ?_, fun _ => ⟨rfl, hv, ht⟩, fun _ _ => rfl⟩
      rw [iterF_succ]; simp only [s16_0]; rw [cond_false_dec (by simp; omega)]
    | succ d ih =>
      intro i n hd hn hv ht
      obtain ⟨n, rfl⟩ : ∃ k, n = k + 1 := ⟨n - 1, by omega⟩
      have hi : i < r.length := by omega
      rw [iterF_succ, round16 r hl _ ht i hi]
      cases hr : runOK r i (ex (r.take i)) r[i]
      · refine ⟨[], false, rfl, (fun h => by cases h), fun h1 h2 => ?_⟩
        rw [valid_runOK r h1 h2 i hi] at hr; cases hr
      · have hr' := hr
        unfold runOK at hr'
        simp only [Bool.and_eq_true, decide_eq_true_eq, Bool.not_eq_true', Bool.and_eq_false_iff, decide_eq_false_iff_not] at hr'
        have e1 : ex (r.take i) ++ List.replicate r[i].Count.toNat r[i].Level = ex (r.take (i + 1)) := by rw [take_snoc r i hi, ex_app, ex_one]
        have v1 : Valid (r.take (i + 1)) := by
          rw [take_snoc r i hi, valid_snoc]
          refine ⟨hr'.1.1.1, fun a ha he => ?_, hv⟩
          have h0 : 0 < i := by
            rcases Nat.eq_zero_or_pos i with h | h
            · subst h; simp at ha
            · exact h
          obtain ⟨j, rfl⟩ : ∃ j, i = j + 1 := ⟨i - 1, by omega⟩
          rw [last_take r j (by omega)] at ha
          have ha' := Option.some.inj ha
          rw [← ha'] at he
          rcases hr'.2 with h | h
          · exact h h0
          · refine h ?_
            have hj : r[j]? = some r[j] := by simp
            rw [show j + 1 - 1 = j by omega, hj]
            simp [he]
        have t1 : isTr (ex (r.take (i + 1))) = true := by
          rw [← e1, isTr_app _ _ ht hr'.1.1.1]
          simp [hr'.1.1.2, hr'.1.2]
        obtain ⟨y, b, h1, h2, h3⟩ := ih (i + 1) n (by omega) (by omega) v1 t1
        exact ⟨y, b, by rw [cond_true, e1]; exact h1, h2, h3⟩
  exact key r.length 0 fuel (by omega) (by rw [fuel_eq]; omega) trivial rfl
theorem ex_last (r : List Run) (e : Run) : e.Count.toNat ≤ (ex (r ++ [e])).length := by
  rw [ex_app, ex_one]; simp
theorem runs_len (l : List Int) : (runsOf l).length ≤ l.length := by
  have key : ∀ (n : Nat) (l : List Int), l.length = n → (runsOf l).length ≤ n := by
    intro n
    induction n with
    | zero => intro l hl; have : l = [] := List.length_eq_zero_iff.mp hl; subst this; simp [runsOf]
    | succ n ih =>
      intro l hl
      rcases List.eq_nil_or_concat l with h | ⟨a, b, h⟩
      · subst h; simp at hl
      · rw [List.concat_eq_append] at h
        subst h
        have := ih a (by simpa using hl)
        rw [runsOf_snoc]
        rcases snoc_cases (runsOf a) with h | ⟨r', e, h⟩
        · rw [h, addR_nil]; simp
        · rw [h] at this ⊢
          by_cases he : e.Level = b
          · subst he; rw [addR_same]; simp at this ⊢; omega
          · rw [addR_new _ _ _ he]; simp at this ⊢; omega
  exact key _ l rfl
theorem runsOf_eq (l : List Int) (hl : l.length ≤ 1048576) : F15 (F22 F72) (l, ()) = some (if isTr l = true then runsOf l else [], ()) := by
  unfold F15
  simp only [F22_is l (by omega), Option.bind_some]
  by_cases h : isTr l = true
  · rw [if_pos h, h]
    simp only [Bool.not_true, cond_false]
    obtain ⟨t, ⟨_, rfl⟩, e⟩ := iterF_all (f := s15_0 (F22 F72)) (K := fun t7 => some (t7.1, ())) (t := (([] : List Run), l, Int.ofNat l.length, 0, ())) l.length
      (fun i t => True ∧ t = (runsOf (l.take i), l, Int.ofNat l.length, (i : Int), ())) (by omega) ⟨trivial, rfl⟩
      (by
        rintro i _ hi ⟨_, rfl⟩
        have hx : l[i]? = some l[i] := by simp
        refine ⟨_, ⟨trivial, rfl⟩, fun rec K => ?_⟩
        rw [take_snoc l i hi, runsOf_snoc]
        have hv := runsOf_ok (l.take i)
        have hlen := runs_len (l.take i)
        have htl : (l.take i).length = i := by simp; omega
        rw [htl] at hlen
        simp only [s15_0]
        rw [cond_true_dec (by simp <;> omega), rdL_at hx, w64_id (n := (i : Int) + 1) (by omega) (by omega)]
        rcases snoc_cases (runsOf (l.take i)) with h0 | ⟨r', e, h0⟩
        · rw [h0, addR_nil, cond_false_dec (by rw [w64_id (by simp) (by simp)]; simp), capK_le (by simp)]
          rfl
        · rw [h0] at hv hlen ⊢
          have hc : e.Count.toNat ≤ i := by
            have := ex_last r' e
            rw [hv.2, htl] at this; exact this
          have hc1 := ((valid_snoc r' e).1 hv.1).1
          rw [last_ix r' e (by simp at hlen; omega), cond_true_dec (by omega), rdL_at (last_at r' e)]
          simp only [Int.toNat_natCast, last_at, Option.bind_some]
          by_cases he : e.Level = l[i]
          · rw [cond_true_dec he, rdL_at (last_at r' e), rdL_at (last_at r' e), last_set, w64_id (by omega) (by omega), ← he, addR_same]
            rfl
          · rw [cond_false_dec he, capK_le (by simp at hlen ⊢; omega), addR_new _ _ _ he]
            rfl)
      (by
        rintro _ ⟨_, rfl⟩ rec K
        simp only [s15_0]
        rw [cond_false_dec (by simp)])
    rw [List.take_length] at e
    exact e
  · rw [if_neg h, show isTr l = false by simpa using h]; rfl
end Ev
