/- Turned shows, as the program makes them. -/
import Derived.Test.YtpnlcamcnhpbhaaGreatDrawA
set_option linter.unusedVariables false
set_option linter.unusedSimpArgs false
set_option maxRecDepth 100000
namespace Ev
open Go
theorem showI_true3 {s : ShowT} (h : ShowV s) : G12 (s, ()) = some (true, ()) := by rw [showI_is s h.ok, showB_of h]
theorem turnRigT {l : List Device} (h : RigP l) (n : Int) : G33 (l, n, ()) = some (l.map (mvD n), ()) := by
  have hlen := h.len
  have hR : G39 (l, ()) = some (true, ()) := by rw [rigI_is l (by omega) (rig_devs h), (rigB_iff l).2 h]
  have tI : ∀ p, G44 (p, n, ()) = some (rotN (q4 n) p, ()) := fun p => turnI' p n
  have hI : ∀ x, G79 (x, n, ()) = some (hd4 x n, ()) := fun x => thI x n
  unfold G33 F33
  simp only [hR, Option.bind_some, Bool.not_true, cond_false]
  have run := iterF_for (f := s33_0 G39 G44 G79) (K := fun t6 => some (t6.2.1, ())) (fun i => (n, (l.take i).map (mvD n), l, Int.ofNat l.length, (i : Int), ())) l.length (by omega)
    (by
      intro i hi rec K
      have hx : l[i]? = some l[i] := by simp
      have e1 : w64 ((i : Int) + 1) = ((i + 1 : Nat) : Int) := w64_id (by omega) (by omega)
      have hcap : ((l.take i).map (mvD n)).length + 1 ≤ 1099511627776 := by simp; omega
      rw [← map_take_snoc (mvD n) l i hi]
      simp only [s33_0]
      rw [cond_true_dec (by simp; omega), rdL_at hx]
      simp only [tI, hI, Option.bind_some]
      by_cases k2 : l[i].Kind = 2
      · rw [cond_true_dec k2, capK_le (by simpa using hcap), e1]
        unfold mvD; rw [if_pos k2]
      · rw [cond_false_dec k2, capK_le (by simpa using hcap), e1]
        unfold mvD; rw [if_neg k2])
    (by
      intro rec K
      simp only [s33_0]
      rw [cond_false_dec (by simp)])
  rw [List.take_length] at run
  exact run
theorem turnWindT {l : List Gust} (h : WindP l) (n : Int) : G35 (l, n, ()) = some (l.map (mvG n), ()) := by
  have hlen := h.len
  have hW : G41 (l, ()) = some (true, ()) := by rw [wdI_is l (by omega), (wdB_iff (by omega)).2 h]
  have tI : ∀ p, G44 (p, n, ()) = some (rotN (q4 n) p, ()) := fun p => turnI' p n
  unfold G35 F35
  simp only [hW, Option.bind_some, Bool.not_true, cond_false]
  have run := iterF_for (f := s35_0 G41 G44) (K := fun t5 => some (t5.2.1, ())) (fun i => (n, (l.take i).map (mvG n), l, Int.ofNat l.length, (i : Int), ())) l.length (by omega)
    (by
      intro i hi rec K
      have hx : l[i]? = some l[i] := by simp
      have e1 : w64 ((i : Int) + 1) = ((i + 1 : Nat) : Int) := w64_id (by omega) (by omega)
      have hcap : ((l.take i).map (mvG n)).length + 1 ≤ 1099511627776 := by simp; omega
      rw [← map_take_snoc (mvG n) l i hi]
      simp only [s35_0]
      rw [cond_true_dec (by simp; omega), rdL_at hx]
      simp only [tI, Option.bind_some]
      rw [capK_le (by simpa using hcap), e1]
      rfl)
    (by
      intro rec K
      simp only [s35_0]
      rw [cond_false_dec (by simp)])
  rw [List.take_length] at run
  exact run
theorem turnShowT {s : ShowT} (h : ShowV s) (n : Int) : G9 (s, n, ()) = some (mvS n s, ()) := by
  have c2 : G34 (s.2.1, ()) = some (s.2.1, ()) := cloneCue s.2.1 h.ok.score
  unfold G9 F9
  simp only [es_show, showI_true3 h, turnRigT h.rig n, c2, turnWindT (wind_p h) n, Option.bind_some, Bool.not_true, cond_false]
  rfl
end Ev
