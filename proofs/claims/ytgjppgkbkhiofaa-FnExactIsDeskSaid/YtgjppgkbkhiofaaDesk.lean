/- Desks. -/
import Derived.Test.YtgjppgkbkhiofaaShow
set_option linter.unusedVariables false
set_option linter.unusedSimpArgs false
set_option maxRecDepth 100000
namespace Ev
open Go
abbrev DeskT := List Device × List Cue × List Gust × Int × List Place × Int × Int × Int × Int × Unit
def DeskT.shw (x : DeskT) : ShowT := (x.1, x.2.1, x.2.2.1, x.2.2.2.1, ())
def DeskT.ros (x : DeskT) : List Place := x.2.2.2.2.1
def DeskT.bas (x : DeskT) : Box := ⟨⟨x.2.2.2.2.2.1, x.2.2.2.2.2.2.1⟩, ⟨x.2.2.2.2.2.2.2.1, x.2.2.2.2.2.2.2.2.1⟩⟩
def DeskWf (x : DeskT) : Prop := ShowWf x.shw ∧ (∀ p ∈ x.ros, Wf .place p) ∧ x.ros.length ≤ maxLen
theorem open_desk {w : World} {ca : Array Value} (h : KList w [.sl .device, .sl .cue, .sl .gust, .int .i64, .sl .place, .int .i64, .int .i64, .int .i64, .int .i64] ca.toList) :
    ∃ x : DeskT, RelA (fun _ => none) (fun b => b < w.heap.size) w (.agg [.lst .device x.1, .lst .cue x.2.1, .lst .gust x.2.2.1, .int .i64 x.2.2.2.1, .lst .place x.2.2.2.2.1, .int .i64 x.2.2.2.2.2.1, .int .i64 x.2.2.2.2.2.2.1, .int .i64 x.2.2.2.2.2.2.2.1, .int .i64 x.2.2.2.2.2.2.2.2.1]) (.agg ca) ∧ DeskWf x := by
  obtain ⟨c0, r0, e0, ⟨l0, a0, b0, m0⟩, h1⟩ := klist_cons h
  obtain ⟨c1, r1, e1, ⟨l1, a1, b1, m1⟩, h2⟩ := klist_cons h1
  obtain ⟨c2, r2, e2, ⟨l2, a2, b2, m2⟩, h3⟩ := klist_cons h2
  obtain ⟨c3, r3, e3, ⟨n3, a3, b3⟩, h4⟩ := klist_cons h3
  obtain ⟨c4, r4, e4, ⟨l4, a4, b4, m4⟩, h5⟩ := klist_cons h4
  obtain ⟨c5, r5, e5, ⟨n5, a5, b5⟩, h6⟩ := klist_cons h5
  obtain ⟨c6, r6, e6, ⟨n6, a6, b6⟩, h7⟩ := klist_cons h6
  obtain ⟨c7, r7, e7, ⟨n7, a7, b7⟩, h8⟩ := klist_cons h7
  obtain ⟨c8, r8, e8, ⟨n8, a8, b8⟩, h9⟩ := klist_cons h8
  have e9 := klist_nil h9
  refine ⟨(l0, l1, l2, n3, l4, n5, n6, n7, n8, ()), relA_list ?_, ⟨⟨b0, m0⟩, ⟨b1, m1⟩, ⟨b2, m2⟩⟩, b4, m4⟩
  rw [e0, e1, e2, e3, e4, e5, e6, e7, e8, e9]
  exact ⟨a0, a1, a2, a3, a4, a5, a6, a7, a8, trivial⟩
/-! ### Boxes -/
def isBx (b : Box) : Bool := isPl b.Low && (isPl b.High && (decide (b.Low.X ≤ b.High.X) && decide (b.Low.Y ≤ b.High.Y)))
noncomputable abbrev gBxS := F24 gPlS
noncomputable abbrev gBx := F29 gPl
theorem bxS (b : Box) : gBxS (b, ()) = some (isBx b, ()) := by
  unfold gBxS F24 isBx
  simp only [placeS, Option.bind_some]
  cases isPl b.Low <;> cases isPl b.High <;> cases decide (b.Low.X ≤ b.High.X) <;> rfl
theorem bxI (b : Box) : gBx (b, ()) = some (isBx b, ()) := by
  unfold gBx F29 isBx
  simp only [placeI, Option.bind_some]
  cases isPl b.Low <;> cases isPl b.High <;> cases decide (b.Low.X ≤ b.High.X) <;> rfl
theorem eqBox_self (a : Box) : F31 F71 (a, a, ()) = some (true, ()) := by
  unfold F31
  simp only [eqPlace_self, Option.bind_some]
  rfl
structure DeskOK (x : DeskT) : Prop where
  shw : ShowOK x.shw
  ros : x.ros.length ≤ 1048576
noncomputable abbrev gDeskS := F7 gShowS gRoseS gBxS
noncomputable abbrev gDesk := F9 gShow gRose gBx
theorem isDesk_ok (x : DeskT) (h : DeskOK x) : ∃ b, gDeskS (x, ()) = some (b, ()) ∧ gDesk (x, ()) = some (b, ()) := by
  obtain ⟨rig, score, wind, ticks, rose, a, b, c, d, u⟩ := x
  obtain ⟨b1, s1, s2⟩ := show_ok _ h.shw
  obtain ⟨b2, r2, _⟩ := rose_ok rose h.ros
  have r1 : gRoseS (rose, ()) = some (b2, ()) := by rw [rose_same]; exact r2
  simp only [DeskT.shw] at s1 s2
  unfold gDeskS F7 gDesk F9
  simp only [s1, s2, r1, r2, bxS, bxI, Option.bind_some]
  cases b1 <;> cases b2 <;> exact ⟨_, rfl, rfl⟩
noncomputable abbrev gSzD := F6 gSz F21
theorem szDesk_ok (x : DeskT) (hw : DeskWf x) : ∃ n, gSzD (x, 1048576, ()) = some (n, ()) ∧ (0 ≤ n → DeskOK x) := by
  obtain ⟨rig, score, wind, ticks, rose, a, b, c, d, u⟩ := x
  obtain ⟨w1, w2, w3⟩ := hw
  obtain ⟨n, hn, hn'⟩ := szShow_ok _ w1 1048576 (by omega)
  simp only [DeskT.shw] at hn
  unfold gSzD F6
  simp only [hn, Option.bind_some]
  by_cases h1 : n < 0
  · rw [cond_true_dec h1]; exact ⟨-1, rfl, fun h => by omega⟩
  · rw [cond_false_dec h1]
    obtain ⟨p1, p2⟩ := hn' (by omega)
    have w3' : rose.length ≤ 9223372036854775807 := Nat.le_trans w3 (by decide)
    by_cases hl : rose.length ≤ 1048576
    · rw [szPlaces rose hl n (by omega), Option.bind_some]
      by_cases c2 : n < (rose.length : Int)
      · rw [if_pos c2, cond_true_dec (by decide)]; exact ⟨-1, rfl, fun h => by omega⟩
      · rw [if_neg c2]
        simp only
        rw [cond_false_dec (by omega)]
        exact ⟨_, rfl, fun _ => ⟨p2, hl⟩⟩
    · rw [szPlaces_big rose hl w3' n (by omega), Option.bind_some, cond_true_dec (by decide)]
      exact ⟨-1, rfl, fun h => by omega⟩
noncomputable abbrev gToD := F8 gTo gToPs (F26 F14)
theorem toDesk_ok (x : DeskT) (h : DeskOK x) : gToD (x, ()) = some (x, ()) := by
  obtain ⟨rig, score, wind, ticks, rose, a, b, c, d, u⟩ := x
  have t1 := toShow_ok _ h.shw
  simp only [DeskT.shw] at t1
  have t2 : F26 F14 ((⟨⟨a, b⟩, ⟨c, d⟩⟩ : Box), ()) = some (⟨⟨a, b⟩, ⟨c, d⟩⟩, ()) := rfl
  have t3 := toPlaces rose h.ros
  unfold gToD F8
  simp only [t1, t2, t3, Option.bind_some]
noncomputable abbrev gEqD := F10 gEqSh (F30 F71) (F31 F71)
theorem eqDesk_ok (x : DeskT) (h : DeskOK x) : gEqD (x, x, ()) = some (true, ()) := by
  obtain ⟨rig, score, wind, ticks, rose, a, b, c, d, u⟩ := x
  have t1 := eqShow_ok _ h.shw
  simp only [DeskT.shw] at t1
  have t3 := eqPlaces rose h.ros
  unfold gEqD F10
  simp only [t1, t3, eqBox_self, Option.bind_some, Bool.not_true, cond_false]
end Ev
