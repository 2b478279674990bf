/- Functions of the program, as the evaluator sees them. -/
import Derived.Test.YtpnlcamcnhpbhaaGreatDoorFn
import Derived.Test.YtpnlcamcnhpbhaaGreatDoorLib
set_option linter.unusedVariables false
set_option maxRecDepth 100000
namespace Ev
open Go
def tab2 : Tab := [(3, ⟨1, false, 8, [.int .i64 0], [], .int .i64, false⟩),
  (4, ⟨1, false, 1, [.bool false], [], .bool, false⟩),
  (5, ⟨1, false, 1, [.int .u8 0], [], .int .u8, false⟩),
  (9, ⟨1, false, 16, [.str []], [], .str, false⟩),
  (35, ⟨1, false, 24, [.nils], [], .sl .device, false⟩),
  (36, ⟨1, false, 24, [.nils], [], .sl .cue, false⟩),
  (37, ⟨1, false, 24, [.nils], [], .sl .gust, false⟩),
  (39, ⟨4, true, 80, [.nils, .nils, .nils, .int .i64 0], [(0, 1, false), (1, 1, false), (2, 1, false), (3, 1, false)], .struct, false⟩),
  (41, ⟨1, false, 24, [.nils], [], .sl .place, false⟩),
  (43, ⟨2, true, 16, [.int .i64 0, .int .i64 0], [(0, 1, false), (1, 1, false)], .struct, true⟩),
  (45, ⟨4, true, 32, [.int .i64 0, .int .i64 0, .int .i64 0, .int .i64 0], [(0, 2, true), (2, 2, true)], .struct, false⟩),
  (50, ⟨1, false, 24, [.nils], [], .sl .u8, false⟩),
  (64, ⟨5, true, 40, [.int .i64 0, .int .i64 0, .int .i64 0, .int .i64 0, .int .i64 0], [(0, 2, true), (2, 1, false), (3, 1, false), (4, 1, false)], .struct, false⟩),
  (81, ⟨7, true, 64, [.str [], .int .i64 0, .int .i64 0, .int .i64 0, .int .i64 0, .int .i64 0, .int .i64 0], [(0, 1, false), (1, 1, false), (2, 5, true)], .struct, false⟩),
  (90, ⟨3, true, 24, [.int .i64 0, .int .i64 0, .int .i64 0], [(0, 1, false), (1, 2, true)], .struct, false⟩),
  (114, ⟨8, true, 80, [.str [], .int .i64 0, .str [], .int .i64 0, .int .i64 0, .int .i64 0, .int .i64 0, .int .i64 0], [(0, 1, false), (1, 1, false), (2, 1, false), (3, 2, true), (5, 1, false), (6, 1, false), (7, 1, false)], .struct, true⟩),
  (116, ⟨4, true, 40, [.int .i64 0, .str [], .int .i64 0, .int .i64 0], [(0, 1, false), (1, 1, false), (2, 1, false), (3, 1, false)], .struct, false⟩),
  (121, ⟨1, false, 24, [.nils], [], .sl .throw, false⟩),
  (138, ⟨1, false, 24, [.nils], [], .sl .int, false⟩)]
theorem tab_ok2 : TabOK Proofs.Tryz.prog tab2 := tab_of2 (by kernel_rfl) (by kernel_rfl)
theorem mixed2 : Proofs.Tryz.prog.follows .mixedOrders = true := by kernel_rfl
/-! laws.big -/
def p14 : List SP := [.one (.r .u8)]
def r14 : List SP := [.one (.bool)]
abbrev T14 := List Int × Unit → Option (Bool × Unit)
abbrev N14 (f : T14) : Entry := mkE p14 r14 false f
noncomputable def F14 (a : List Int × Unit) : Option (Bool × Unit) :=
  some ((decide ((Int.ofNat (List.length a.1)) > 4096)), ())
def E14 : Env := envL []
noncomputable def L14 : LEnv (densS (muts p14 ++ r14)) := lenv []
theorem e14 (a : densS p14) : runF (E14) tab2 (fun _ => false) p14 r14 Proofs.Tryz.f14 (L14) a = F14 a := by kernel_rfl
theorem ok14 : OK Proofs.Tryz.prog 14 (mkE p14 r14 false (F14)) :=
  fn_ok (E := E14) tab_ok2 (envL_ok OKs.nil) mixed2 (ann := (fun _ => false)) (L := L14) (fn := Proofs.Tryz.f14) (c := bodyC Proofs.Tryz.f14) (ls := []) Proofs.Tryz.func14 (by kernel_rfl) (by kernel_rfl) (by kernel_rfl) (by kernel_rfl)
    LoopsP.nil (e14)
/-! impl.isWithin -/
def p71 : List SP := [.one (.int .i64), .one (.int .i64), .one (.int .i64)]
def r71 : List SP := [.one (.bool)]
abbrev T71 := Int × Int × Int × Unit → Option (Bool × Unit)
abbrev N71 (f : T71) : Entry := mkE p71 r71 false f
noncomputable def F71 (a : Int × Int × Int × Unit) : Option (Bool × Unit) :=
  cond (decide (a.2.1 ≤ a.1)) (some ((decide (a.1 ≤ a.2.2.1)), ())) (some (false, ()))
def E71 : Env := envL []
noncomputable def L71 : LEnv (densS (muts p71 ++ r71)) := lenv []
theorem e71 (a : densS p71) : runF (E71) tab2 (fun _ => false) p71 r71 Proofs.Tryz.f71 (L71) a = F71 a := by kernel_rfl
theorem ok71 : OK Proofs.Tryz.prog 71 (mkE p71 r71 false (F71)) :=
  fn_ok (E := E71) tab_ok2 (envL_ok OKs.nil) mixed2 (ann := (fun _ => false)) (L := L71) (fn := Proofs.Tryz.f71) (c := bodyC Proofs.Tryz.f71) (ls := []) Proofs.Tryz.func71 (by kernel_rfl) (by kernel_rfl) (by kernel_rfl) (by kernel_rfl)
    LoopsP.nil (e71)
/-! impl.IsName -/
def p135 : List SP := [.one (.str)]
def r135 : List SP := [.one (.bool)]
abbrev T135 := Str × Unit → Option (Bool × Unit)
abbrev N135 (f : T135) : Entry := mkE p135 r135 false f
def q135_0 : List SP := pat 42 0 [(0, .one (.str)), (6, .one (.int .i64)), (7, .one (.int .i64))]
noncomputable def s135_0 (f71 : T71) (t1 : Str × Int × Int × Unit) (rec K : Str × Int × Int × Unit → Option (Bool × Unit)) : Option (Bool × Unit) :=
  cond (decide (t1.2.2.1 < t1.2.1)) (rdL t1.1 t1.2.2.1 fun d2 => cond (decide ((Int.ofNat (UInt8.toNat d2)) ≥ 97)) (rdL t1.1 t1.2.2.1 fun d3 => cond (!(decide ((Int.ofNat (UInt8.toNat d3)) ≤ 122))) (cond (!(decide (t1.2.2.1 = 0))) (rdL t1.1 t1.2.2.1 fun d4 => cond (!(decide ((Int.ofNat (UInt8.toNat d4)) < 48))) (rdL t1.1 t1.2.2.1 fun d5 => cond (decide ((Int.ofNat (UInt8.toNat d5)) > 57)) (some (false, ())) (rec (t1.1, t1.2.1, (w64 (t1.2.2.1 + 1)), ()))) (some (false, ()))) (some (false, ()))) (rec (t1.1, t1.2.1, (w64 (t1.2.2.1 + 1)), ()))) (cond (!(decide (t1.2.2.1 = 0))) (rdL t1.1 t1.2.2.1 fun d6 => cond (!(decide ((Int.ofNat (UInt8.toNat d6)) < 48))) (rdL t1.1 t1.2.2.1 fun d7 => cond (decide ((Int.ofNat (UInt8.toNat d7)) > 57)) (some (false, ())) (rec (t1.1, t1.2.1, (w64 (t1.2.2.1 + 1)), ()))) (some (false, ()))) (some (false, ())))) (K (t1.1, t1.2.1, t1.2.2.1, ()))
noncomputable def F135 (f71 : T71) (a : Str × Unit) : Option (Bool × Unit) :=
  iterF (s135_0 f71) fuel (a.1, (Int.ofNat (List.length a.1)), 0, ()) fun t8 => (f71 ((Int.ofNat (List.length t8.1)), 1, 8, ())).bind fun x9 => some (x9.1, ())
def E135 (f71 : T71) : Env := envL [(71, N71 f71)]
noncomputable def L135 (f71 : T71) : LEnv (densS (muts p135 ++ r135)) := lenv [(0, loopL (R := densS (muts p135 ++ r135)) q135_0 (s135_0 f71))]
theorem e135_0 (f71 : T71) (X : Nat → St → Option (densS (muts p135 ++ r135))) (rec K : densS q135_0 → Option (densS (muts p135 ++ r135))) (t : densS q135_0) :
    ev (E135 f71) tab2 (fun _ => false) (L135 f71) (retK tab2 p135 r135 Proofs.Tryz.f135.results.toList) (loopC Proofs.Tryz.f135 0) (fun i s => cond (Nat.beq i 0) (decK 100 q135_0 s K) (X i s)) (fun s => decK 100 q135_0 s rec) (enc q135_0 t) = s135_0 f71 t rec K := by kernel_rfl
theorem e135 (f71 : T71) (a : densS p135) : runF (E135 f71) tab2 (fun _ => false) p135 r135 Proofs.Tryz.f135 (L135 f71) a = F135 f71 a := by kernel_rfl
theorem ok135 {f71 : T71} (h71 : OK Proofs.Tryz.prog 71 (N71 f71)) : OK Proofs.Tryz.prog 135 (mkE p135 r135 false (F135 f71)) :=
  fn_ok (E := E135 f71) tab_ok2 (envL_ok (OKs.cons h71 OKs.nil)) mixed2 (ann := (fun _ => false)) (L := L135 f71) (fn := Proofs.Tryz.f135) (c := bodyC Proofs.Tryz.f135) (ls := [(0, loopC Proofs.Tryz.f135 0)]) Proofs.Tryz.func135 (by kernel_rfl) (by kernel_rfl) (by kernel_rfl) (by kernel_rfl)
    (LoopsP.cons q135_0 (s135_0 f71) rfl (e135_0 f71) LoopsP.nil) (e135 f71)
/-! impl.isSupply -/
def p136 : List SP := [.one (.int .i64)]
def r136 : List SP := [.one (.bool)]
abbrev T136 := Int × Unit → Option (Bool × Unit)
abbrev N136 (f : T136) : Entry := mkE p136 r136 false f
noncomputable def F136 (f71 : T71) (a : Int × Unit) : Option (Bool × Unit) :=
  (f71 (a.1, 0, 512, ())).bind fun x1 => some (x1.1, ())
def E136 (f71 : T71) : Env := envL [(71, N71 f71)]
noncomputable def L136 (f71 : T71) : LEnv (densS (muts p136 ++ r136)) := lenv []
theorem e136 (f71 : T71) (a : densS p136) : runF (E136 f71) tab2 (fun _ => false) p136 r136 Proofs.Tryz.f136 (L136 f71) a = F136 f71 a := by kernel_rfl
theorem ok136 {f71 : T71} (h71 : OK Proofs.Tryz.prog 71 (N71 f71)) : OK Proofs.Tryz.prog 136 (mkE p136 r136 false (F136 f71)) :=
  fn_ok (E := E136 f71) tab_ok2 (envL_ok (OKs.cons h71 OKs.nil)) mixed2 (ann := (fun _ => false)) (L := L136 f71) (fn := Proofs.Tryz.f136) (c := bodyC Proofs.Tryz.f136) (ls := []) Proofs.Tryz.func136 (by kernel_rfl) (by kernel_rfl) (by kernel_rfl) (by kernel_rfl)
    LoopsP.nil (e136 f71)
/-! impl.IsHeading -/
def p111 : List SP := [.one (.int .i64)]
def r111 : List SP := [.one (.bool)]
abbrev T111 := Int × Unit → Option (Bool × Unit)
abbrev N111 (f : T111) : Entry := mkE p111 r111 false f
noncomputable def F111 (f71 : T71) (a : Int × Unit) : Option (Bool × Unit) :=
  (f71 (a.1, 0, 3, ())).bind fun x1 => some (x1.1, ())
def E111 (f71 : T71) : Env := envL [(71, N71 f71)]
noncomputable def L111 (f71 : T71) : LEnv (densS (muts p111 ++ r111)) := lenv []
theorem e111 (f71 : T71) (a : densS p111) : runF (E111 f71) tab2 (fun _ => false) p111 r111 Proofs.Tryz.f111 (L111 f71) a = F111 f71 a := by kernel_rfl
theorem ok111 {f71 : T71} (h71 : OK Proofs.Tryz.prog 71 (N71 f71)) : OK Proofs.Tryz.prog 111 (mkE p111 r111 false (F111 f71)) :=
  fn_ok (E := E111 f71) tab_ok2 (envL_ok (OKs.cons h71 OKs.nil)) mixed2 (ann := (fun _ => false)) (L := L111 f71) (fn := Proofs.Tryz.f111) (c := bodyC Proofs.Tryz.f111) (ls := []) Proofs.Tryz.func111 (by kernel_rfl) (by kernel_rfl) (by kernel_rfl) (by kernel_rfl)
    LoopsP.nil (e111 f71)
/-! impl.IsJet -/
def p110 : List SP := [.t .jet]
def r110 : List SP := [.one (.bool)]
abbrev T110 := Jet × Unit → Option (Bool × Unit)
abbrev N110 (f : T110) : Entry := mkE p110 r110 false f
noncomputable def F110 (f71 : T71) (f111 : T111) (a : Jet × Unit) : Option (Bool × Unit) :=
  (f71 (a.1.At.X, (-1024), 1024, ())).bind fun x1 => cond x1.1 ((f71 (a.1.At.Y, (-1024), 1024, ())).bind fun x2 => cond x2.1 ((f111 (a.1.Heading, ())).bind fun x3 => cond x3.1 ((f71 (a.1.Tilt, 0, 16, ())).bind fun x4 => cond x4.1 ((f71 (a.1.Lift, 1, 32, ())).bind fun x5 => some (x5.1, ())) (some (false, ()))) (some (false, ()))) (some (false, ()))) (some (false, ()))
def E110 (f71 : T71) (f111 : T111) : Env := envL [(71, N71 f71), (111, N111 f111)]
noncomputable def L110 (f71 : T71) (f111 : T111) : LEnv (densS (muts p110 ++ r110)) := lenv []
theorem e110 (f71 : T71) (f111 : T111) (a : densS p110) : runF (E110 f71 f111) tab2 (fun _ => false) p110 r110 Proofs.Tryz.f110 (L110 f71 f111) a = F110 f71 f111 a := by kernel_rfl
theorem ok110 {f71 : T71} {f111 : T111} (h71 : OK Proofs.Tryz.prog 71 (N71 f71)) (h111 : OK Proofs.Tryz.prog 111 (N111 f111)) : OK Proofs.Tryz.prog 110 (mkE p110 r110 false (F110 f71 f111)) :=
  fn_ok (E := E110 f71 f111) tab_ok2 (envL_ok (OKs.cons h71 (OKs.cons h111 OKs.nil))) mixed2 (ann := (fun _ => false)) (L := L110 f71 f111) (fn := Proofs.Tryz.f110) (c := bodyC Proofs.Tryz.f110) (ls := []) Proofs.Tryz.func110 (by kernel_rfl) (by kernel_rfl) (by kernel_rfl) (by kernel_rfl)
    LoopsP.nil (e110 f71 f111)
/-! impl.IsMeasure -/
def p107 : List SP := [.one (.int .i64)]
def r107 : List SP := [.one (.bool)]
abbrev T107 := Int × Unit → Option (Bool × Unit)
abbrev N107 (f : T107) : Entry := mkE p107 r107 false f
noncomputable def F107 (f71 : T71) (a : Int × Unit) : Option (Bool × Unit) :=
  (f71 (a.1, (-4096), 4096, ())).bind fun x1 => some (x1.1, ())
def E107 (f71 : T71) : Env := envL [(71, N71 f71)]
noncomputable def L107 (f71 : T71) : LEnv (densS (muts p107 ++ r107)) := lenv []
theorem e107 (f71 : T71) (a : densS p107) : runF (E107 f71) tab2 (fun _ => false) p107 r107 Proofs.Tryz.f107 (L107 f71) a = F107 f71 a := by kernel_rfl
theorem ok107 {f71 : T71} (h71 : OK Proofs.Tryz.prog 71 (N71 f71)) : OK Proofs.Tryz.prog 107 (mkE p107 r107 false (F107 f71)) :=
  fn_ok (E := E107 f71) tab_ok2 (envL_ok (OKs.cons h71 OKs.nil)) mixed2 (ann := (fun _ => false)) (L := L107 f71) (fn := Proofs.Tryz.f107) (c := bodyC Proofs.Tryz.f107) (ls := []) Proofs.Tryz.func107 (by kernel_rfl) (by kernel_rfl) (by kernel_rfl) (by kernel_rfl)
    LoopsP.nil (e107 f71)
/-! impl.IsPlace -/
def p74 : List SP := [.t .place]
def r74 : List SP := [.one (.bool)]
abbrev T74 := Place × Unit → Option (Bool × Unit)
abbrev N74 (f : T74) : Entry := mkE p74 r74 false f
noncomputable def F74 (f107 : T107) (a : Place × Unit) : Option (Bool × Unit) :=
  (f107 (a.1.X, ())).bind fun x1 => cond x1.1 ((f107 (a.1.Y, ())).bind fun x2 => some (x2.1, ())) (some (false, ()))
def E74 (f107 : T107) : Env := envL [(107, N107 f107)]
noncomputable def L74 (f107 : T107) : LEnv (densS (muts p74 ++ r74)) := lenv []
theorem e74 (f107 : T107) (a : densS p74) : runF (E74 f107) tab2 (fun _ => false) p74 r74 Proofs.Tryz.f74 (L74 f107) a = F74 f107 a := by kernel_rfl
theorem ok74 {f107 : T107} (h107 : OK Proofs.Tryz.prog 107 (N107 f107)) : OK Proofs.Tryz.prog 74 (mkE p74 r74 false (F74 f107)) :=
  fn_ok (E := E74 f107) tab_ok2 (envL_ok (OKs.cons h107 OKs.nil)) mixed2 (ann := (fun _ => false)) (L := L74 f107) (fn := Proofs.Tryz.f74) (c := bodyC Proofs.Tryz.f74) (ls := []) Proofs.Tryz.func74 (by kernel_rfl) (by kernel_rfl) (by kernel_rfl) (by kernel_rfl)
    LoopsP.nil (e74 f107)
/-! impl.IsDevice -/
def p101 : List SP := [.t .device]
def r101 : List SP := [.one (.bool)]
abbrev T101 := Device × Unit → Option (Bool × Unit)
abbrev N101 (f : T101) : Entry := mkE p101 r101 false f
noncomputable def F101 (f135 : T135) (f136 : T136) (f110 : T110) (f71 : T71) (f74 : T74) (a : Device × Unit) : Option (Bool × Unit) :=
  (f135 (a.1.Name, ())).bind fun x1 => cond (!x1.1) (some (false, ())) (cond (decide (a.1.Kind = 1)) (cond (decide (a.1.Name = a.1.Name) && (decide (a.1.Kind = a.1.Kind) && (decide (a.1.Line = []) && (decide (a.1.At.X = 0) && (decide (a.1.At.Y = 0) && (decide (a.1.Heading = 0) && (decide (a.1.Tilt = 0) && (decide (a.1.Most = a.1.Most) && true)))))))) ((f136 (a.1.Most, ())).bind fun x2 => some (x2.1, ())) (some (false, ()))) (cond (decide (a.1.Kind = 2)) ((f135 (a.1.Line, ())).bind fun x3 => cond x3.1 (cond (!decide (a.1.Line = a.1.Name)) ((f110 ((⟨⟨a.1.At.X, a.1.At.Y⟩, a.1.Heading, a.1.Tilt, 1⟩ : Jet), ())).bind fun x4 => cond x4.1 ((f71 (a.1.Most, 0, 32, ())).bind fun x5 => some (x5.1, ())) (some (false, ()))) (some (false, ()))) (some (false, ()))) (cond (decide (a.1.Kind = 3)) (cond (decide (a.1.Name = a.1.Name) && (decide (a.1.Kind = a.1.Kind) && (decide (a.1.Line = a.1.Line) && (decide (a.1.At.X = a.1.At.X) && (decide (a.1.At.Y = a.1.At.Y) && (decide (a.1.Heading = 0) && (decide (a.1.Tilt = 0) && (decide (a.1.Most = 0) && true)))))))) ((f135 (a.1.Line, ())).bind fun x6 => cond x6.1 (cond (!decide (a.1.Line = a.1.Name)) ((f74 (a.1.At, ())).bind fun x7 => some (x7.1, ())) (some (false, ()))) (some (false, ()))) (some (false, ()))) (some (false, ())))))
def E101 (f135 : T135) (f136 : T136) (f110 : T110) (f71 : T71) (f74 : T74) : Env := envL [(135, N135 f135), (136, N136 f136), (110, N110 f110), (71, N71 f71), (74, N74 f74)]
noncomputable def L101 (f135 : T135) (f136 : T136) (f110 : T110) (f71 : T71) (f74 : T74) : LEnv (densS (muts p101 ++ r101)) := lenv []
theorem e101 (f135 : T135) (f136 : T136) (f110 : T110) (f71 : T71) (f74 : T74) (a : densS p101) : runF (E101 f135 f136 f110 f71 f74) tab2 (fun _ => false) p101 r101 Proofs.Tryz.f101 (L101 f135 f136 f110 f71 f74) a = F101 f135 f136 f110 f71 f74 a := by kernel_rfl
theorem ok101 {f135 : T135} {f136 : T136} {f110 : T110} {f71 : T71} {f74 : T74} (h135 : OK Proofs.Tryz.prog 135 (N135 f135)) (h136 : OK Proofs.Tryz.prog 136 (N136 f136)) (h110 : OK Proofs.Tryz.prog 110 (N110 f110)) (h71 : OK Proofs.Tryz.prog 71 (N71 f71)) (h74 : OK Proofs.Tryz.prog 74 (N74 f74)) : OK Proofs.Tryz.prog 101 (mkE p101 r101 false (F101 f135 f136 f110 f71 f74)) :=
  fn_ok (E := E101 f135 f136 f110 f71 f74) tab_ok2 (envL_ok (OKs.cons h135 (OKs.cons h136 (OKs.cons h110 (OKs.cons h71 (OKs.cons h74 OKs.nil)))))) mixed2 (ann := (fun _ => false)) (L := L101 f135 f136 f110 f71 f74) (fn := Proofs.Tryz.f101) (c := bodyC Proofs.Tryz.f101) (ls := []) Proofs.Tryz.func101 (by kernel_rfl) (by kernel_rfl) (by kernel_rfl) (by kernel_rfl)
    LoopsP.nil (e101 f135 f136 f110 f71 f74)
/-! impl.FindDevice$1 -/
def p169 : List SP := [.t .device, .sp [.str]]
def r169 : List SP := [.one (.bool)]
abbrev T169 := Device × (Str × Unit) × Unit → Option (Bool × Unit)
abbrev N169 (f : T169) : Entry := mkE p169 r169 false f
noncomputable def F169 (a : Device × (Str × Unit) × Unit) : Option (Bool × Unit) :=
  some ((decide (a.1.Name = a.2.1.1)), ())
def E169 : Env := envL []
noncomputable def L169 : LEnv (densS (muts p169 ++ r169)) := lenv []
theorem e169 (a : densS p169) : runF (E169) tab2 (fun _ => false) p169 r169 Proofs.Tryz.f169 (L169) a = F169 a := by kernel_rfl
theorem ok169 : OK Proofs.Tryz.prog 169 (mkE p169 r169 false (F169)) :=
  fn_ok (E := E169) tab_ok2 (envL_ok OKs.nil) mixed2 (ann := (fun _ => false)) (L := L169) (fn := Proofs.Tryz.f169) (c := bodyC Proofs.Tryz.f169) (ls := []) Proofs.Tryz.func169 (by kernel_rfl) (by kernel_rfl) (by kernel_rfl) (by kernel_rfl)
    LoopsP.nil (e169)
/-! slices.IndexFunc[[]impl.Device,impl.Device] -/
def p168 : List SP := [.one (.r .device), .fn 169 [.str]]
def r168 : List SP := [.one (.int .i64)]
abbrev T168 := List Device × (Str × Unit) × Unit → Option (Int × Unit)
abbrev N168 (f : T168) : Entry := mkE p168 r168 false f
def q168_0 : List SP := pat 19 0 [(0, .one (.r .device)), (1, .fn 169 [.str]), (7, .one (.int .i64)), (8, .one (.int .i64))]
noncomputable def s168_0 (f169 : T169) (t1 : List Device × (Str × Unit) × Int × Int × Unit) (rec K : List Device × (Str × Unit) × Int × Int × Unit → Option (Int × Unit)) : Option (Int × Unit) :=
  cond (decide (t1.2.2.2.1 < t1.2.2.1)) (rdL t1.1 t1.2.2.2.1 fun d2 => (f169 (d2, (t1.2.1.1, ()), ())).bind fun x3 => cond x3.1 (some (t1.2.2.2.1, ())) (rec (t1.1, (t1.2.1.1, ()), t1.2.2.1, (w64 (t1.2.2.2.1 + 1)), ()))) (K (t1.1, (t1.2.1.1, ()), t1.2.2.1, t1.2.2.2.1, ()))
noncomputable def F168 (f169 : T169) (a : List Device × (Str × Unit) × Unit) : Option (Int × Unit) :=
  iterF (s168_0 f169) fuel (a.1, (a.2.1.1, ()), (Int.ofNat (List.length a.1)), 0, ()) fun t4 => some ((-1), ())
def E168 (f169 : T169) : Env := envL [(169, N169 f169)]
noncomputable def L168 (f169 : T169) : LEnv (densS (muts p168 ++ r168)) := lenv [(0, loopL (R := densS (muts p168 ++ r168)) q168_0 (s168_0 f169))]
theorem e168_0 (f169 : T169) (X : Nat → St → Option (densS (muts p168 ++ r168))) (rec K : densS q168_0 → Option (densS (muts p168 ++ r168))) (t : densS q168_0) :
    ev (E168 f169) tab2 (fun _ => false) (L168 f169) (retK tab2 p168 r168 Proofs.Tryz.f168.results.toList) (loopC Proofs.Tryz.f168 0) (fun i s => cond (Nat.beq i 0) (decK 100 q168_0 s K) (X i s)) (fun s => decK 100 q168_0 s rec) (enc q168_0 t) = s168_0 f169 t rec K := by kernel_rfl
theorem e168 (f169 : T169) (a : densS p168) : runF (E168 f169) tab2 (fun _ => false) p168 r168 Proofs.Tryz.f168 (L168 f169) a = F168 f169 a := by kernel_rfl
theorem ok168 {f169 : T169} (h169 : OK Proofs.Tryz.prog 169 (N169 f169)) : OK Proofs.Tryz.prog 168 (mkE p168 r168 false (F168 f169)) :=
  fn_ok (E := E168 f169) tab_ok2 (envL_ok (OKs.cons h169 OKs.nil)) mixed2 (ann := (fun _ => false)) (L := L168 f169) (fn := Proofs.Tryz.f168) (c := bodyC Proofs.Tryz.f168) (ls := [(0, loopC Proofs.Tryz.f168 0)]) Proofs.Tryz.func168 (by kernel_rfl) (by kernel_rfl) (by kernel_rfl) (by kernel_rfl)
    (LoopsP.cons q168_0 (s168_0 f169) rfl (e168_0 f169) LoopsP.nil) (e168 f169)
/-! impl.FindDevice -/
def p137 : List SP := [.one (.r .device), .one (.str)]
def r137 : List SP := [.one (.int .i64)]
abbrev T137 := List Device × Str × Unit → Option (Int × Unit)
abbrev N137 (f : T137) : Entry := mkE p137 r137 false f
noncomputable def F137 (f168 : T168) (a : List Device × Str × Unit) : Option (Int × Unit) :=
  (f168 (a.1, (a.2.1, ()), ())).bind fun x1 => some (x1.1, ())
def E137 (f168 : T168) : Env := envL [(168, N168 f168)]
noncomputable def L137 (f168 : T168) : LEnv (densS (muts p137 ++ r137)) := lenv []
theorem e137 (f168 : T168) (a : densS p137) : runF (E137 f168) tab2 (fun _ => false) p137 r137 Proofs.Tryz.f137 (L137 f168) a = F137 f168 a := by kernel_rfl
theorem ok137 {f168 : T168} (h168 : OK Proofs.Tryz.prog 168 (N168 f168)) : OK Proofs.Tryz.prog 137 (mkE p137 r137 false (F137 f168)) :=
  fn_ok (E := E137 f168) tab_ok2 (envL_ok (OKs.cons h168 OKs.nil)) mixed2 (ann := (fun _ => false)) (L := L137 f168) (fn := Proofs.Tryz.f137) (c := bodyC Proofs.Tryz.f137) (ls := []) Proofs.Tryz.func137 (by kernel_rfl) (by kernel_rfl) (by kernel_rfl) (by kernel_rfl)
    LoopsP.nil (e137 f168)
/-! impl.isHung -/
def p102 : List SP := [.one (.r .device), .t .device]
def r102 : List SP := [.one (.bool)]
abbrev T102 := List Device × Device × Unit → Option (Bool × Unit)
abbrev N102 (f : T102) : Entry := mkE p102 r102 false f
noncomputable def F102 (f137 : T137) (a : List Device × Device × Unit) : Option (Bool × Unit) :=
  cond (decide (a.2.1.Kind = 1)) (some (true, ())) ((f137 (a.1, a.2.1.Line, ())).bind fun x1 => cond (decide (x1.1 ≥ 0)) (rdL a.1 x1.1 fun d2 => some ((decide (d2.Kind = (w64 (a.2.1.Kind - 1)))), ())) (some (false, ())))
def E102 (f137 : T137) : Env := envL [(137, N137 f137)]
noncomputable def L102 (f137 : T137) : LEnv (densS (muts p102 ++ r102)) := lenv []
theorem e102 (f137 : T137) (a : densS p102) : runF (E102 f137) tab2 (fun _ => false) p102 r102 Proofs.Tryz.f102 (L102 f137) a = F102 f137 a := by kernel_rfl
theorem ok102 {f137 : T137} (h137 : OK Proofs.Tryz.prog 137 (N137 f137)) : OK Proofs.Tryz.prog 102 (mkE p102 r102 false (F102 f137)) :=
  fn_ok (E := E102 f137) tab_ok2 (envL_ok (OKs.cons h137 OKs.nil)) mixed2 (ann := (fun _ => false)) (L := L102 f137) (fn := Proofs.Tryz.f102) (c := bodyC Proofs.Tryz.f102) (ls := []) Proofs.Tryz.func102 (by kernel_rfl) (by kernel_rfl) (by kernel_rfl) (by kernel_rfl)
    LoopsP.nil (e102 f137)
/-! impl.IsRig -/
def p68 : List SP := [.one (.r .device)]
def r68 : List SP := [.one (.bool)]
abbrev T68 := List Device × Unit → Option (Bool × Unit)
abbrev N68 (f : T68) : Entry := mkE p68 r68 false f
def q68_0 : List SP := pat 40 0 [(0, .one (.r .device)), (8, .one (.r .device)), (9, .one (.int .i64)), (10, .one (.int .i64))]
noncomputable def s68_0 (f101 : T101) (f102 : T102) (t1 : List Device × List Device × Int × Int × Unit) (rec K : List Device × List Device × Int × Int × Unit → Option (Bool × Unit)) : Option (Bool × Unit) :=
  cond (decide (t1.2.2.2.1 < t1.2.2.1)) (rdL t1.2.1 t1.2.2.2.1 fun d2 => (f101 (d2, ())).bind fun x3 => cond (!(!x3.1)) (cond (decide (t1.2.2.2.1 > 0)) (rdL t1.1 (w64 (t1.2.2.2.1 - 1)) fun d4 => cond (!(Op.bytesLess d2.Name d4.Name || decide (d2.Name = d4.Name))) ((f102 (t1.1, d2, ())).bind fun x5 => cond (!x5.1) (some (false, ())) (rec (t1.1, t1.2.1, t1.2.2.1, (w64 (t1.2.2.2.1 + 1)), ()))) (some (false, ()))) ((f102 (t1.1, d2, ())).bind fun x6 => cond (!x6.1) (some (false, ())) (rec (t1.1, t1.2.1, t1.2.2.1, (w64 (t1.2.2.2.1 + 1)), ())))) (some (false, ()))) (K (t1.1, t1.2.1, t1.2.2.1, t1.2.2.2.1, ()))
noncomputable def F68 (f101 : T101) (f102 : T102) (a : List Device × Unit) : Option (Bool × Unit) :=
  cond (decide ((Int.ofNat (List.length a.1)) > 8)) (some (false, ())) (iterF (s68_0 f101 f102) fuel (a.1, a.1, (Int.ofNat (List.length a.1)), 0, ()) fun t7 => some (true, ()))
def E68 (f101 : T101) (f102 : T102) : Env := envL [(101, N101 f101), (102, N102 f102)]
noncomputable def L68 (f101 : T101) (f102 : T102) : LEnv (densS (muts p68 ++ r68)) := lenv [(0, loopL (R := densS (muts p68 ++ r68)) q68_0 (s68_0 f101 f102))]
theorem e68_0 (f101 : T101) (f102 : T102) (X : Nat → St → Option (densS (muts p68 ++ r68))) (rec K : densS q68_0 → Option (densS (muts p68 ++ r68))) (t : densS q68_0) :
    ev (E68 f101 f102) tab2 (fun _ => false) (L68 f101 f102) (retK tab2 p68 r68 Proofs.Tryz.f68.results.toList) (loopC Proofs.Tryz.f68 0) (fun i s => cond (Nat.beq i 0) (decK 100 q68_0 s K) (X i s)) (fun s => decK 100 q68_0 s rec) (enc q68_0 t) = s68_0 f101 f102 t rec K := by kernel_rfl
theorem e68 (f101 : T101) (f102 : T102) (a : densS p68) : runF (E68 f101 f102) tab2 (fun _ => false) p68 r68 Proofs.Tryz.f68 (L68 f101 f102) a = F68 f101 f102 a := by kernel_rfl
theorem ok68 {f101 : T101} {f102 : T102} (h101 : OK Proofs.Tryz.prog 101 (N101 f101)) (h102 : OK Proofs.Tryz.prog 102 (N102 f102)) : OK Proofs.Tryz.prog 68 (mkE p68 r68 false (F68 f101 f102)) :=
  fn_ok (E := E68 f101 f102) tab_ok2 (envL_ok (OKs.cons h101 (OKs.cons h102 OKs.nil))) mixed2 (ann := (fun _ => false)) (L := L68 f101 f102) (fn := Proofs.Tryz.f68) (c := bodyC Proofs.Tryz.f68) (ls := [(0, loopC Proofs.Tryz.f68 0)]) Proofs.Tryz.func68 (by kernel_rfl) (by kernel_rfl) (by kernel_rfl) (by kernel_rfl)
    (LoopsP.cons q68_0 (s68_0 f101 f102) rfl (e68_0 f101 f102) LoopsP.nil) (e68 f101 f102)
/-! impl.IsCue -/
def p103 : List SP := [.t .cue]
def r103 : List SP := [.one (.bool)]
abbrev T103 := Cue × Unit → Option (Bool × Unit)
abbrev N103 (f : T103) : Entry := mkE p103 r103 false f
noncomputable def F103 (f71 : T71) (f135 : T135) (a : Cue × Unit) : Option (Bool × Unit) :=
  (f71 (a.1.Tick, 0, 64, ())).bind fun x1 => cond x1.1 ((f135 (a.1.Name, ())).bind fun x2 => cond x2.1 ((f71 (a.1.Level, 0, 32, ())).bind fun x3 => cond x3.1 ((f71 (a.1.Ramp, 0, 16, ())).bind fun x4 => some (x4.1, ())) (some (false, ()))) (some (false, ()))) (some (false, ()))
def E103 (f71 : T71) (f135 : T135) : Env := envL [(71, N71 f71), (135, N135 f135)]
noncomputable def L103 (f71 : T71) (f135 : T135) : LEnv (densS (muts p103 ++ r103)) := lenv []
theorem e103 (f71 : T71) (f135 : T135) (a : densS p103) : runF (E103 f71 f135) tab2 (fun _ => false) p103 r103 Proofs.Tryz.f103 (L103 f71 f135) a = F103 f71 f135 a := by kernel_rfl
theorem ok103 {f71 : T71} {f135 : T135} (h71 : OK Proofs.Tryz.prog 71 (N71 f71)) (h135 : OK Proofs.Tryz.prog 135 (N135 f135)) : OK Proofs.Tryz.prog 103 (mkE p103 r103 false (F103 f71 f135)) :=
  fn_ok (E := E103 f71 f135) tab_ok2 (envL_ok (OKs.cons h71 (OKs.cons h135 OKs.nil))) mixed2 (ann := (fun _ => false)) (L := L103 f71 f135) (fn := Proofs.Tryz.f103) (c := bodyC Proofs.Tryz.f103) (ls := []) Proofs.Tryz.func103 (by kernel_rfl) (by kernel_rfl) (by kernel_rfl) (by kernel_rfl)
    LoopsP.nil (e103 f71 f135)
/-! cmp.isNaN[int] -/
def p139 : List SP := [.one (.int .i64)]
def r139 : List SP := [.one (.bool)]
abbrev T139 := Int × Unit → Option (Bool × Unit)
abbrev N139 (f : T139) : Entry := mkE p139 r139 false f
noncomputable def F139 (a : Int × Unit) : Option (Bool × Unit) :=
  some ((!(decide (a.1 = a.1))), ())
def E139 : Env := envL []
noncomputable def L139 : LEnv (densS (muts p139 ++ r139)) := lenv []
theorem e139 (a : densS p139) : runF (E139) tab2 (fun _ => false) p139 r139 Proofs.Tryz.f139 (L139) a = F139 a := by kernel_rfl
theorem ok139 : OK Proofs.Tryz.prog 139 (mkE p139 r139 false (F139)) :=
  fn_ok (E := E139) tab_ok2 (envL_ok OKs.nil) mixed2 (ann := (fun _ => false)) (L := L139) (fn := Proofs.Tryz.f139) (c := bodyC Proofs.Tryz.f139) (ls := []) Proofs.Tryz.func139 (by kernel_rfl) (by kernel_rfl) (by kernel_rfl) (by kernel_rfl)
    LoopsP.nil (e139)
/-! cmp.Compare[int] -/
def p106 : List SP := [.one (.int .i64), .one (.int .i64)]
def r106 : List SP := [.one (.int .i64)]
abbrev T106 := Int × Int × Unit → Option (Int × Unit)
abbrev N106 (f : T106) : Entry := mkE p106 r106 false f
noncomputable def F106 (f139 : T139) (a : Int × Int × Unit) : Option (Int × Unit) :=
  (f139 (a.1, ())).bind fun x1 => (f139 (a.2.1, ())).bind fun x2 => cond x1.1 (cond x2.1 (some (0, ())) (some ((-1), ()))) (cond x2.1 (some (1, ())) (cond (decide (a.1 < a.2.1)) (some ((-1), ())) (cond (decide (a.1 > a.2.1)) (some (1, ())) (some (0, ())))))
def E106 (f139 : T139) : Env := envL [(139, N139 f139)]
noncomputable def L106 (f139 : T139) : LEnv (densS (muts p106 ++ r106)) := lenv []
theorem e106 (f139 : T139) (a : densS p106) : runF (E106 f139) tab2 (fun _ => false) p106 r106 Proofs.Tryz.f106 (L106 f139) a = F106 f139 a := by kernel_rfl
theorem ok106 {f139 : T139} (h139 : OK Proofs.Tryz.prog 139 (N139 f139)) : OK Proofs.Tryz.prog 106 (mkE p106 r106 false (F106 f139)) :=
  fn_ok (E := E106 f139) tab_ok2 (envL_ok (OKs.cons h139 OKs.nil)) mixed2 (ann := (fun _ => false)) (L := L106 f139) (fn := Proofs.Tryz.f106) (c := bodyC Proofs.Tryz.f106) (ls := []) Proofs.Tryz.func106 (by kernel_rfl) (by kernel_rfl) (by kernel_rfl) (by kernel_rfl)
    LoopsP.nil (e106 f139)
/-! cmp.isNaN[string] -/
def p170 : List SP := [.one (.str)]
def r170 : List SP := [.one (.bool)]
abbrev T170 := Str × Unit → Option (Bool × Unit)
abbrev N170 (f : T170) : Entry := mkE p170 r170 false f
noncomputable def F170 (a : Str × Unit) : Option (Bool × Unit) :=
  some ((!decide (a.1 = a.1)), ())
def E170 : Env := envL []
noncomputable def L170 : LEnv (densS (muts p170 ++ r170)) := lenv []
theorem e170 (a : densS p170) : runF (E170) tab2 (fun _ => false) p170 r170 Proofs.Tryz.f170 (L170) a = F170 a := by kernel_rfl
theorem ok170 : OK Proofs.Tryz.prog 170 (mkE p170 r170 false (F170)) :=
  fn_ok (E := E170) tab_ok2 (envL_ok OKs.nil) mixed2 (ann := (fun _ => false)) (L := L170) (fn := Proofs.Tryz.f170) (c := bodyC Proofs.Tryz.f170) (ls := []) Proofs.Tryz.func170 (by kernel_rfl) (by kernel_rfl) (by kernel_rfl) (by kernel_rfl)
    LoopsP.nil (e170)
/-! cmp.Compare[string] -/
def p138 : List SP := [.one (.str), .one (.str)]
def r138 : List SP := [.one (.int .i64)]
abbrev T138 := Str × Str × Unit → Option (Int × Unit)
abbrev N138 (f : T138) : Entry := mkE p138 r138 false f
noncomputable def F138 (f170 : T170) (a : Str × Str × Unit) : Option (Int × Unit) :=
  (f170 (a.1, ())).bind fun x1 => (f170 (a.2.1, ())).bind fun x2 => cond x1.1 (cond x2.1 (some (0, ())) (some ((-1), ()))) (cond x2.1 (some (1, ())) (cond (Op.bytesLess a.1 a.2.1) (some ((-1), ())) (cond (!(Op.bytesLess a.1 a.2.1 || decide (a.1 = a.2.1))) (some (1, ())) (some (0, ())))))
def E138 (f170 : T170) : Env := envL [(170, N170 f170)]
noncomputable def L138 (f170 : T170) : LEnv (densS (muts p138 ++ r138)) := lenv []
theorem e138 (f170 : T170) (a : densS p138) : runF (E138 f170) tab2 (fun _ => false) p138 r138 Proofs.Tryz.f138 (L138 f170) a = F138 f170 a := by kernel_rfl
theorem ok138 {f170 : T170} (h170 : OK Proofs.Tryz.prog 170 (N170 f170)) : OK Proofs.Tryz.prog 138 (mkE p138 r138 false (F138 f170)) :=
  fn_ok (E := E138 f170) tab_ok2 (envL_ok (OKs.cons h170 OKs.nil)) mixed2 (ann := (fun _ => false)) (L := L138 f170) (fn := Proofs.Tryz.f138) (c := bodyC Proofs.Tryz.f138) (ls := []) Proofs.Tryz.func138 (by kernel_rfl) (by kernel_rfl) (by kernel_rfl) (by kernel_rfl)
    LoopsP.nil (e138 f170)
/-! cmp.Or[int] -/
def p105 : List SP := [.one (.r .int)]
def r105 : List SP := [.one (.int .i64)]
abbrev T105 := List Int × Unit → Option (Int × Unit)
abbrev N105 (f : T105) : Entry := mkE p105 r105 false f
def q105_0 : List SP := pat 18 0 [(3, .one (.int .i64)), (6, .one (.r .int)), (7, .one (.int .i64)), (8, .one (.int .i64))]
noncomputable def s105_0 (t1 : Int × List Int × Int × Int × Unit) (rec K : Int × List Int × Int × Int × Unit → Option (Int × Unit)) : Option (Int × Unit) :=
  cond (decide (t1.2.2.2.1 < t1.2.2.1)) (rdL t1.2.1 t1.2.2.2.1 fun d2 => cond (!(decide (d2 = t1.1))) (some (d2, ())) (rec (t1.1, t1.2.1, t1.2.2.1, (w64 (t1.2.2.2.1 + 1)), ()))) (K (t1.1, t1.2.1, t1.2.2.1, t1.2.2.2.1, ()))
noncomputable def F105 (a : List Int × Unit) : Option (Int × Unit) :=
  iterF (s105_0) fuel (0, a.1, (Int.ofNat (List.length a.1)), 0, ()) fun t3 => some (t3.1, ())
def E105 : Env := envL []
noncomputable def L105 : LEnv (densS (muts p105 ++ r105)) := lenv [(0, loopL (R := densS (muts p105 ++ r105)) q105_0 (s105_0))]
theorem e105_0 (X : Nat → St → Option (densS (muts p105 ++ r105))) (rec K : densS q105_0 → Option (densS (muts p105 ++ r105))) (t : densS q105_0) :
    ev (E105) tab2 (fun _ => false) (L105) (retK tab2 p105 r105 Proofs.Tryz.f105.results.toList) (loopC Proofs.Tryz.f105 0) (fun i s => cond (Nat.beq i 0) (decK 100 q105_0 s K) (X i s)) (fun s => decK 100 q105_0 s rec) (enc q105_0 t) = s105_0 t rec K := by kernel_rfl
theorem e105 (a : densS p105) : runF (E105) tab2 (fun _ => false) p105 r105 Proofs.Tryz.f105 (L105) a = F105 a := by kernel_rfl
theorem ok105 : OK Proofs.Tryz.prog 105 (mkE p105 r105 false (F105)) :=
  fn_ok (E := E105) tab_ok2 (envL_ok OKs.nil) mixed2 (ann := (fun _ => false)) (L := L105) (fn := Proofs.Tryz.f105) (c := bodyC Proofs.Tryz.f105) (ls := [(0, loopC Proofs.Tryz.f105 0)]) Proofs.Tryz.func105 (by kernel_rfl) (by kernel_rfl) (by kernel_rfl) (by kernel_rfl)
    (LoopsP.cons q105_0 (s105_0) rfl (e105_0) LoopsP.nil) (e105)
/-! impl.CompareCues -/
def p104 : List SP := [.t .cue, .t .cue]
def r104 : List SP := [.one (.int .i64)]
abbrev T104 := Cue × Cue × Unit → Option (Int × Unit)
abbrev N104 (f : T104) : Entry := mkE p104 r104 false f
noncomputable def F104 (f106 : T106) (f138 : T138) (f105 : T105) (a : Cue × Cue × Unit) : Option (Int × Unit) :=
  (f106 (a.1.Tick, a.2.1.Tick, ())).bind fun x1 => (f138 (a.1.Name, a.2.1.Name, ())).bind fun x2 => (f105 (([x1.1, x2.1] : List Int), ())).bind fun x3 => some (x3.1, ())
def E104 (f106 : T106) (f138 : T138) (f105 : T105) : Env := envL [(106, N106 f106), (138, N138 f138), (105, N105 f105)]
noncomputable def L104 (f106 : T106) (f138 : T138) (f105 : T105) : LEnv (densS (muts p104 ++ r104)) := lenv []
theorem e104 (f106 : T106) (f138 : T138) (f105 : T105) (a : densS p104) : runF (E104 f106 f138 f105) tab2 (fun _ => false) p104 r104 Proofs.Tryz.f104 (L104 f106 f138 f105) a = F104 f106 f138 f105 a := by kernel_rfl
theorem ok104 {f106 : T106} {f138 : T138} {f105 : T105} (h106 : OK Proofs.Tryz.prog 106 (N106 f106)) (h138 : OK Proofs.Tryz.prog 138 (N138 f138)) (h105 : OK Proofs.Tryz.prog 105 (N105 f105)) : OK Proofs.Tryz.prog 104 (mkE p104 r104 false (F104 f106 f138 f105)) :=
  fn_ok (E := E104 f106 f138 f105) tab_ok2 (envL_ok (OKs.cons h106 (OKs.cons h138 (OKs.cons h105 OKs.nil)))) mixed2 (ann := (fun _ => false)) (L := L104 f106 f138 f105) (fn := Proofs.Tryz.f104) (c := bodyC Proofs.Tryz.f104) (ls := []) Proofs.Tryz.func104 (by kernel_rfl) (by kernel_rfl) (by kernel_rfl) (by kernel_rfl)
    LoopsP.nil (e104 f106 f138 f105)
/-! impl.IsScore -/
def p69 : List SP := [.one (.r .cue)]
def r69 : List SP := [.one (.bool)]
abbrev T69 := List Cue × Unit → Option (Bool × Unit)
abbrev N69 (f : T69) : Entry := mkE p69 r69 false f
def q69_0 : List SP := pat 33 0 [(0, .one (.r .cue)), (5, .one (.r .cue)), (6, .one (.int .i64)), (7, .one (.int .i64))]
noncomputable def s69_0 (f103 : T103) (f104 : T104) (t1 : List Cue × List Cue × Int × Int × Unit) (rec K : List Cue × List Cue × Int × Int × Unit → Option (Bool × Unit)) : Option (Bool × Unit) :=
  cond (decide (t1.2.2.2.1 < t1.2.2.1)) (rdL t1.2.1 t1.2.2.2.1 fun d2 => (f103 (d2, ())).bind fun x3 => cond (!(!x3.1)) (cond (decide (t1.2.2.2.1 > 0)) (rdL t1.1 (w64 (t1.2.2.2.1 - 1)) fun d4 => (f104 (d4, d2, ())).bind fun x5 => cond (decide (x5.1 ≥ 0)) (some (false, ())) (rec (t1.1, t1.2.1, t1.2.2.1, (w64 (t1.2.2.2.1 + 1)), ()))) (rec (t1.1, t1.2.1, t1.2.2.1, (w64 (t1.2.2.2.1 + 1)), ()))) (some (false, ()))) (K (t1.1, t1.2.1, t1.2.2.1, t1.2.2.2.1, ()))
noncomputable def F69 (f103 : T103) (f104 : T104) (a : List Cue × Unit) : Option (Bool × Unit) :=
  iterF (s69_0 f103 f104) fuel (a.1, a.1, (Int.ofNat (List.length a.1)), 0, ()) fun t6 => some ((decide ((Int.ofNat (List.length t6.1)) ≤ 12)), ())
def E69 (f103 : T103) (f104 : T104) : Env := envL [(103, N103 f103), (104, N104 f104)]
noncomputable def L69 (f103 : T103) (f104 : T104) : LEnv (densS (muts p69 ++ r69)) := lenv [(0, loopL (R := densS (muts p69 ++ r69)) q69_0 (s69_0 f103 f104))]
theorem e69_0 (f103 : T103) (f104 : T104) (X : Nat → St → Option (densS (muts p69 ++ r69))) (rec K : densS q69_0 → Option (densS (muts p69 ++ r69))) (t : densS q69_0) :
    ev (E69 f103 f104) tab2 (fun _ => false) (L69 f103 f104) (retK tab2 p69 r69 Proofs.Tryz.f69.results.toList) (loopC Proofs.Tryz.f69 0) (fun i s => cond (Nat.beq i 0) (decK 100 q69_0 s K) (X i s)) (fun s => decK 100 q69_0 s rec) (enc q69_0 t) = s69_0 f103 f104 t rec K := by kernel_rfl
theorem e69 (f103 : T103) (f104 : T104) (a : densS p69) : runF (E69 f103 f104) tab2 (fun _ => false) p69 r69 Proofs.Tryz.f69 (L69 f103 f104) a = F69 f103 f104 a := by kernel_rfl
theorem ok69 {f103 : T103} {f104 : T104} (h103 : OK Proofs.Tryz.prog 103 (N103 f103)) (h104 : OK Proofs.Tryz.prog 104 (N104 f104)) : OK Proofs.Tryz.prog 69 (mkE p69 r69 false (F69 f103 f104)) :=
  fn_ok (E := E69 f103 f104) tab_ok2 (envL_ok (OKs.cons h103 (OKs.cons h104 OKs.nil))) mixed2 (ann := (fun _ => false)) (L := L69 f103 f104) (fn := Proofs.Tryz.f69) (c := bodyC Proofs.Tryz.f69) (ls := [(0, loopC Proofs.Tryz.f69 0)]) Proofs.Tryz.func69 (by kernel_rfl) (by kernel_rfl) (by kernel_rfl) (by kernel_rfl)
    (LoopsP.cons q69_0 (s69_0 f103 f104) rfl (e69_0 f103 f104) LoopsP.nil) (e69 f103 f104)
/-! impl.isDrift -/
def p72 : List SP := [.t .place]
def r72 : List SP := [.one (.bool)]
abbrev T72 := Place × Unit → Option (Bool × Unit)
abbrev N72 (f : T72) : Entry := mkE p72 r72 false f
noncomputable def F72 (f71 : T71) (a : Place × Unit) : Option (Bool × Unit) :=
  (f71 (a.1.X, (-8), 8, ())).bind fun x1 => cond x1.1 ((f71 (a.1.Y, (-8), 8, ())).bind fun x2 => some (x2.1, ())) (some (false, ()))
def E72 (f71 : T71) : Env := envL [(71, N71 f71)]
noncomputable def L72 (f71 : T71) : LEnv (densS (muts p72 ++ r72)) := lenv []
theorem e72 (f71 : T71) (a : densS p72) : runF (E72 f71) tab2 (fun _ => false) p72 r72 Proofs.Tryz.f72 (L72 f71) a = F72 f71 a := by kernel_rfl
theorem ok72 {f71 : T71} (h71 : OK Proofs.Tryz.prog 71 (N71 f71)) : OK Proofs.Tryz.prog 72 (mkE p72 r72 false (F72 f71)) :=
  fn_ok (E := E72 f71) tab_ok2 (envL_ok (OKs.cons h71 OKs.nil)) mixed2 (ann := (fun _ => false)) (L := L72 f71) (fn := Proofs.Tryz.f72) (c := bodyC Proofs.Tryz.f72) (ls := []) Proofs.Tryz.func72 (by kernel_rfl) (by kernel_rfl) (by kernel_rfl) (by kernel_rfl)
    LoopsP.nil (e72 f71)
/-! impl.IsWind -/
def p70 : List SP := [.one (.r .gust)]
def r70 : List SP := [.one (.bool)]
abbrev T70 := List Gust × Unit → Option (Bool × Unit)
abbrev N70 (f : T70) : Entry := mkE p70 r70 false f
def q70_0 : List SP := pat 41 0 [(0, .one (.r .gust)), (5, .one (.r .gust)), (6, .one (.int .i64)), (7, .one (.int .i64))]
noncomputable def s70_0 (f71 : T71) (f72 : T72) (t1 : List Gust × List Gust × Int × Int × Unit) (rec K : List Gust × List Gust × Int × Int × Unit → Option (Bool × Unit)) : Option (Bool × Unit) :=
  cond (decide (t1.2.2.2.1 < t1.2.2.1)) (rdL t1.2.1 t1.2.2.2.1 fun d2 => (f71 (d2.From, 0, 64, ())).bind fun x3 => cond (!(!x3.1)) ((f72 (d2.Drift, ())).bind fun x4 => cond (!(!x4.1)) (cond (decide (t1.2.2.2.1 > 0)) (rdL t1.1 (w64 (t1.2.2.2.1 - 1)) fun d5 => cond (decide (d2.From ≤ d5.From)) (some (false, ())) (rec (t1.1, t1.2.1, t1.2.2.1, (w64 (t1.2.2.2.1 + 1)), ()))) (rec (t1.1, t1.2.1, t1.2.2.1, (w64 (t1.2.2.2.1 + 1)), ()))) (some (false, ()))) (some (false, ()))) (K (t1.1, t1.2.1, t1.2.2.1, t1.2.2.2.1, ()))
noncomputable def F70 (f71 : T71) (f72 : T72) (a : List Gust × Unit) : Option (Bool × Unit) :=
  iterF (s70_0 f71 f72) fuel (a.1, a.1, (Int.ofNat (List.length a.1)), 0, ()) fun t6 => some ((decide ((Int.ofNat (List.length t6.1)) ≤ 8)), ())
def E70 (f71 : T71) (f72 : T72) : Env := envL [(71, N71 f71), (72, N72 f72)]
noncomputable def L70 (f71 : T71) (f72 : T72) : LEnv (densS (muts p70 ++ r70)) := lenv [(0, loopL (R := densS (muts p70 ++ r70)) q70_0 (s70_0 f71 f72))]
theorem e70_0 (f71 : T71) (f72 : T72) (X : Nat → St → Option (densS (muts p70 ++ r70))) (rec K : densS q70_0 → Option (densS (muts p70 ++ r70))) (t : densS q70_0) :
    ev (E70 f71 f72) tab2 (fun _ => false) (L70 f71 f72) (retK tab2 p70 r70 Proofs.Tryz.f70.results.toList) (loopC Proofs.Tryz.f70 0) (fun i s => cond (Nat.beq i 0) (decK 100 q70_0 s K) (X i s)) (fun s => decK 100 q70_0 s rec) (enc q70_0 t) = s70_0 f71 f72 t rec K := by kernel_rfl
theorem e70 (f71 : T71) (f72 : T72) (a : densS p70) : runF (E70 f71 f72) tab2 (fun _ => false) p70 r70 Proofs.Tryz.f70 (L70 f71 f72) a = F70 f71 f72 a := by kernel_rfl
theorem ok70 {f71 : T71} {f72 : T72} (h71 : OK Proofs.Tryz.prog 71 (N71 f71)) (h72 : OK Proofs.Tryz.prog 72 (N72 f72)) : OK Proofs.Tryz.prog 70 (mkE p70 r70 false (F70 f71 f72)) :=
  fn_ok (E := E70 f71 f72) tab_ok2 (envL_ok (OKs.cons h71 (OKs.cons h72 OKs.nil))) mixed2 (ann := (fun _ => false)) (L := L70 f71 f72) (fn := Proofs.Tryz.f70) (c := bodyC Proofs.Tryz.f70) (ls := [(0, loopC Proofs.Tryz.f70 0)]) Proofs.Tryz.func70 (by kernel_rfl) (by kernel_rfl) (by kernel_rfl) (by kernel_rfl)
    (LoopsP.cons q70_0 (s70_0 f71 f72) rfl (e70_0 f71 f72) LoopsP.nil) (e70 f71 f72)
/-! impl.IsShow -/
def p35 : List SP := [.agg [.r .device, .r .cue, .r .gust, .int .i64]]
def r35 : List SP := [.one (.bool)]
abbrev T35 := ShD × Unit → Option (Bool × Unit)
abbrev N35 (f : T35) : Entry := mkE p35 r35 false f
noncomputable def F35 (f68 : T68) (f69 : T69) (f70 : T70) (f71 : T71) (a : ShD × Unit) : Option (Bool × Unit) :=
  (f68 (a.1.1, ())).bind fun x1 => cond x1.1 ((f69 (a.1.2.1, ())).bind fun x2 => cond x2.1 ((f70 (a.1.2.2.1, ())).bind fun x3 => cond x3.1 ((f71 (a.1.2.2.2.1, 0, 64, ())).bind fun x4 => some (x4.1, ())) (some (false, ()))) (some (false, ()))) (some (false, ()))
def E35 (f68 : T68) (f69 : T69) (f70 : T70) (f71 : T71) : Env := envL [(68, N68 f68), (69, N69 f69), (70, N70 f70), (71, N71 f71)]
noncomputable def L35 (f68 : T68) (f69 : T69) (f70 : T70) (f71 : T71) : LEnv (densS (muts p35 ++ r35)) := lenv []
theorem e35 (f68 : T68) (f69 : T69) (f70 : T70) (f71 : T71) (a : densS p35) : runF (E35 f68 f69 f70 f71) tab2 (fun _ => false) p35 r35 Proofs.Tryz.f35 (L35 f68 f69 f70 f71) a = F35 f68 f69 f70 f71 a := by kernel_rfl
theorem ok35 {f68 : T68} {f69 : T69} {f70 : T70} {f71 : T71} (h68 : OK Proofs.Tryz.prog 68 (N68 f68)) (h69 : OK Proofs.Tryz.prog 69 (N69 f69)) (h70 : OK Proofs.Tryz.prog 70 (N70 f70)) (h71 : OK Proofs.Tryz.prog 71 (N71 f71)) : OK Proofs.Tryz.prog 35 (mkE p35 r35 false (F35 f68 f69 f70 f71)) :=
  fn_ok (E := E35 f68 f69 f70 f71) tab_ok2 (envL_ok (OKs.cons h68 (OKs.cons h69 (OKs.cons h70 (OKs.cons h71 OKs.nil))))) mixed2 (ann := (fun _ => false)) (L := L35 f68 f69 f70 f71) (fn := Proofs.Tryz.f35) (c := bodyC Proofs.Tryz.f35) (ls := []) Proofs.Tryz.func35 (by kernel_rfl) (by kernel_rfl) (by kernel_rfl) (by kernel_rfl)
    LoopsP.nil (e35 f68 f69 f70 f71)
/-! impl.ComparePlaces -/
def p73 : List SP := [.t .place, .t .place]
def r73 : List SP := [.one (.int .i64)]
abbrev T73 := Place × Place × Unit → Option (Int × Unit)
abbrev N73 (f : T73) : Entry := mkE p73 r73 false f
noncomputable def F73 (f106 : T106) (f105 : T105) (a : Place × Place × Unit) : Option (Int × Unit) :=
  (f106 (a.1.X, a.2.1.X, ())).bind fun x1 => (f106 (a.1.Y, a.2.1.Y, ())).bind fun x2 => (f105 (([x1.1, x2.1] : List Int), ())).bind fun x3 => some (x3.1, ())
def E73 (f106 : T106) (f105 : T105) : Env := envL [(106, N106 f106), (105, N105 f105)]
noncomputable def L73 (f106 : T106) (f105 : T105) : LEnv (densS (muts p73 ++ r73)) := lenv []
theorem e73 (f106 : T106) (f105 : T105) (a : densS p73) : runF (E73 f106 f105) tab2 (fun _ => false) p73 r73 Proofs.Tryz.f73 (L73 f106 f105) a = F73 f106 f105 a := by kernel_rfl
theorem ok73 {f106 : T106} {f105 : T105} (h106 : OK Proofs.Tryz.prog 106 (N106 f106)) (h105 : OK Proofs.Tryz.prog 105 (N105 f105)) : OK Proofs.Tryz.prog 73 (mkE p73 r73 false (F73 f106 f105)) :=
  fn_ok (E := E73 f106 f105) tab_ok2 (envL_ok (OKs.cons h106 (OKs.cons h105 OKs.nil))) mixed2 (ann := (fun _ => false)) (L := L73 f106 f105) (fn := Proofs.Tryz.f73) (c := bodyC Proofs.Tryz.f73) (ls := []) Proofs.Tryz.func73 (by kernel_rfl) (by kernel_rfl) (by kernel_rfl) (by kernel_rfl)
    LoopsP.nil (e73 f106 f105)
/-! impl.IsRose -/
def p36 : List SP := [.one (.r .place)]
def r36 : List SP := [.one (.bool)]
abbrev T36 := List Place × Unit → Option (Bool × Unit)
abbrev N36 (f : T36) : Entry := mkE p36 r36 false f
def q36_0 : List SP := pat 33 0 [(0, .one (.r .place)), (5, .one (.r .place)), (6, .one (.int .i64)), (7, .one (.int .i64))]
noncomputable def s36_0 (f72 : T72) (f73 : T73) (f71 : T71) (t1 : List Place × List Place × Int × Int × Unit) (rec K : List Place × List Place × Int × Int × Unit → Option (Bool × Unit)) : Option (Bool × Unit) :=
  cond (decide (t1.2.2.2.1 < t1.2.2.1)) (rdL t1.2.1 t1.2.2.2.1 fun d2 => (f72 (d2, ())).bind fun x3 => cond (!(!x3.1)) (cond (decide (t1.2.2.2.1 > 0)) (rdL t1.1 (w64 (t1.2.2.2.1 - 1)) fun d4 => (f73 (d4, d2, ())).bind fun x5 => cond (decide (x5.1 ≥ 0)) (some (false, ())) (rec (t1.1, t1.2.1, t1.2.2.1, (w64 (t1.2.2.2.1 + 1)), ()))) (rec (t1.1, t1.2.1, t1.2.2.1, (w64 (t1.2.2.2.1 + 1)), ()))) (some (false, ()))) (K (t1.1, t1.2.1, t1.2.2.1, t1.2.2.2.1, ()))
noncomputable def F36 (f72 : T72) (f73 : T73) (f71 : T71) (a : List Place × Unit) : Option (Bool × Unit) :=
  iterF (s36_0 f72 f73 f71) fuel (a.1, a.1, (Int.ofNat (List.length a.1)), 0, ()) fun t6 => (f71 ((Int.ofNat (List.length t6.1)), 1, 4, ())).bind fun x7 => some (x7.1, ())
def E36 (f72 : T72) (f73 : T73) (f71 : T71) : Env := envL [(72, N72 f72), (73, N73 f73), (71, N71 f71)]
noncomputable def L36 (f72 : T72) (f73 : T73) (f71 : T71) : LEnv (densS (muts p36 ++ r36)) := lenv [(0, loopL (R := densS (muts p36 ++ r36)) q36_0 (s36_0 f72 f73 f71))]
theorem e36_0 (f72 : T72) (f73 : T73) (f71 : T71) (X : Nat → St → Option (densS (muts p36 ++ r36))) (rec K : densS q36_0 → Option (densS (muts p36 ++ r36))) (t : densS q36_0) :
    ev (E36 f72 f73 f71) tab2 (fun _ => false) (L36 f72 f73 f71) (retK tab2 p36 r36 Proofs.Tryz.f36.results.toList) (loopC Proofs.Tryz.f36 0) (fun i s => cond (Nat.beq i 0) (decK 100 q36_0 s K) (X i s)) (fun s => decK 100 q36_0 s rec) (enc q36_0 t) = s36_0 f72 f73 f71 t rec K := by kernel_rfl
theorem e36 (f72 : T72) (f73 : T73) (f71 : T71) (a : densS p36) : runF (E36 f72 f73 f71) tab2 (fun _ => false) p36 r36 Proofs.Tryz.f36 (L36 f72 f73 f71) a = F36 f72 f73 f71 a := by kernel_rfl
theorem ok36 {f72 : T72} {f73 : T73} {f71 : T71} (h72 : OK Proofs.Tryz.prog 72 (N72 f72)) (h73 : OK Proofs.Tryz.prog 73 (N73 f73)) (h71 : OK Proofs.Tryz.prog 71 (N71 f71)) : OK Proofs.Tryz.prog 36 (mkE p36 r36 false (F36 f72 f73 f71)) :=
  fn_ok (E := E36 f72 f73 f71) tab_ok2 (envL_ok (OKs.cons h72 (OKs.cons h73 (OKs.cons h71 OKs.nil)))) mixed2 (ann := (fun _ => false)) (L := L36 f72 f73 f71) (fn := Proofs.Tryz.f36) (c := bodyC Proofs.Tryz.f36) (ls := [(0, loopC Proofs.Tryz.f36 0)]) Proofs.Tryz.func36 (by kernel_rfl) (by kernel_rfl) (by kernel_rfl) (by kernel_rfl)
    (LoopsP.cons q36_0 (s36_0 f72 f73 f71) rfl (e36_0 f72 f73 f71) LoopsP.nil) (e36 f72 f73 f71)
/-! impl.IsBox -/
def p37 : List SP := [.t .box]
def r37 : List SP := [.one (.bool)]
abbrev T37 := Box × Unit → Option (Bool × Unit)
abbrev N37 (f : T37) : Entry := mkE p37 r37 false f
noncomputable def F37 (f74 : T74) (a : Box × Unit) : Option (Bool × Unit) :=
  (f74 (a.1.Low, ())).bind fun x1 => cond x1.1 ((f74 (a.1.High, ())).bind fun x2 => cond x2.1 (cond (decide (a.1.Low.X ≤ a.1.High.X)) (some ((decide (a.1.Low.Y ≤ a.1.High.Y)), ())) (some (false, ()))) (some (false, ()))) (some (false, ()))
def E37 (f74 : T74) : Env := envL [(74, N74 f74)]
noncomputable def L37 (f74 : T74) : LEnv (densS (muts p37 ++ r37)) := lenv []
theorem e37 (f74 : T74) (a : densS p37) : runF (E37 f74) tab2 (fun _ => false) p37 r37 Proofs.Tryz.f37 (L37 f74) a = F37 f74 a := by kernel_rfl
theorem ok37 {f74 : T74} (h74 : OK Proofs.Tryz.prog 74 (N74 f74)) : OK Proofs.Tryz.prog 37 (mkE p37 r37 false (F37 f74)) :=
  fn_ok (E := E37 f74) tab_ok2 (envL_ok (OKs.cons h74 OKs.nil)) mixed2 (ann := (fun _ => false)) (L := L37 f74) (fn := Proofs.Tryz.f37) (c := bodyC Proofs.Tryz.f37) (ls := []) Proofs.Tryz.func37 (by kernel_rfl) (by kernel_rfl) (by kernel_rfl) (by kernel_rfl)
    LoopsP.nil (e37 f74)
/-! impl.floorDiv -/
def p198 : List SP := [.one (.int .i64), .one (.int .i64)]
def r198 : List SP := [.one (.int .i64)]
abbrev T198 := Int × Int × Unit → Option (Int × Unit)
abbrev N198 (f : T198) : Entry := mkE p198 r198 false f
noncomputable def F198 (a : Int × Int × Unit) : Option (Int × Unit) :=
  cond (decide (a.2.1 = 0)) none (cond (decide (a.2.1 = 0)) none (cond (decide ((Int.tmod a.1 a.2.1) < 0)) (some ((w64 ((w64 (Int.tdiv a.1 a.2.1)) - 1)), ())) (some ((w64 (Int.tdiv a.1 a.2.1)), ()))))
def E198 : Env := envL []
noncomputable def L198 : LEnv (densS (muts p198 ++ r198)) := lenv []
theorem e198 (a : densS p198) : runF (E198) tab2 (fun _ => false) p198 r198 Proofs.Tryz.f198 (L198) a = F198 a := by kernel_rfl
theorem ok198 : OK Proofs.Tryz.prog 198 (mkE p198 r198 false (F198)) :=
  fn_ok (E := E198) tab_ok2 (envL_ok OKs.nil) mixed2 (ann := (fun _ => false)) (L := L198) (fn := Proofs.Tryz.f198) (c := bodyC Proofs.Tryz.f198) (ls := []) Proofs.Tryz.func198 (by kernel_rfl) (by kernel_rfl) (by kernel_rfl) (by kernel_rfl)
    LoopsP.nil (e198)
/-! impl.RampAt -/
def p171 : List SP := [.one (.int .i64), .one (.int .i64), .one (.int .i64), .one (.int .i64)]
def r171 : List SP := [.one (.int .i64)]
abbrev T171 := Int × Int × Int × Int × Unit → Option (Int × Unit)
abbrev N171 (f : T171) : Entry := mkE p171 r171 false f
noncomputable def F171 (f107 : T107) (f198 : T198) (a : Int × Int × Int × Int × Unit) : Option (Int × Unit) :=
  (f107 (a.1, ())).bind fun x1 => cond (!(!x1.1)) ((f107 (a.2.1, ())).bind fun x2 => cond (!x2.1) (some (0, ())) (cond (decide (a.2.2.1 ≥ a.2.2.2.1)) (some (a.2.1, ())) (cond (!(decide (a.2.2.1 ≤ 0))) (cond (decide (a.2.2.2.1 > 999)) (some (a.1, ())) ((f198 ((w64 (a.2.2.1 * (w64 (a.2.1 - a.1)))), a.2.2.2.1, ())).bind fun x3 => some ((w64 (a.1 + x3.1)), ()))) (some (a.1, ()))))) (some (0, ()))
def E171 (f107 : T107) (f198 : T198) : Env := envL [(107, N107 f107), (198, N198 f198)]
noncomputable def L171 (f107 : T107) (f198 : T198) : LEnv (densS (muts p171 ++ r171)) := lenv []
theorem e171 (f107 : T107) (f198 : T198) (a : densS p171) : runF (E171 f107 f198) tab2 (fun _ => false) p171 r171 Proofs.Tryz.f171 (L171 f107 f198) a = F171 f107 f198 a := by kernel_rfl
theorem ok171 {f107 : T107} {f198 : T198} (h107 : OK Proofs.Tryz.prog 107 (N107 f107)) (h198 : OK Proofs.Tryz.prog 198 (N198 f198)) : OK Proofs.Tryz.prog 171 (mkE p171 r171 false (F171 f107 f198)) :=
  fn_ok (E := E171 f107 f198) tab_ok2 (envL_ok (OKs.cons h107 (OKs.cons h198 OKs.nil))) mixed2 (ann := (fun _ => false)) (L := L171 f107 f198) (fn := Proofs.Tryz.f171) (c := bodyC Proofs.Tryz.f171) (ls := []) Proofs.Tryz.func171 (by kernel_rfl) (by kernel_rfl) (by kernel_rfl) (by kernel_rfl)
    LoopsP.nil (e171 f107 f198)
/-! impl.LevelAt -/
def p140 : List SP := [.one (.r .cue), .one (.str), .one (.int .i64)]
def r140 : List SP := [.one (.int .i64)]
abbrev T140 := List Cue × Str × Int × Unit → Option (Int × Unit)
abbrev N140 (f : T140) : Entry := mkE p140 r140 false f
def q140_0 : List SP := pat 58 0 [(1, .one (.str)), (2, .one (.int .i64)), (7, .one (.int .i64)), (8, .boxt 5000001 .cue), (19, .one (.r .cue)), (20, .one (.int .i64)), (21, .one (.int .i64))]
noncomputable def s140_0 (f69 : T69) (f171 : T171) (t2 : Str × Int × Int × Cue × List Cue × Int × Int × Unit) (rec K : Str × Int × Int × Cue × List Cue × Int × Int × Unit → Option (Int × Unit)) : Option (Int × Unit) :=
  cond (decide (t2.2.2.2.2.2.2.1 < t2.2.2.2.2.2.1)) (rdL t2.2.2.2.2.1 t2.2.2.2.2.2.2.1 fun d3 => cond (decide (d3.Name = t2.1)) (cond (decide (d3.Tick ≤ t2.2.1)) ((f171 (t2.2.2.1, t2.2.2.2.1.Level, (w64 (d3.Tick - t2.2.2.2.1.Tick)), t2.2.2.2.1.Ramp, ())).bind fun x4 => rec (t2.1, t2.2.1, x4.1, d3, t2.2.2.2.2.1, t2.2.2.2.2.2.1, (w64 (t2.2.2.2.2.2.2.1 + 1)), ())) (rec (t2.1, t2.2.1, t2.2.2.1, t2.2.2.2.1, t2.2.2.2.2.1, t2.2.2.2.2.2.1, (w64 (t2.2.2.2.2.2.2.1 + 1)), ()))) (rec (t2.1, t2.2.1, t2.2.2.1, t2.2.2.2.1, t2.2.2.2.2.1, t2.2.2.2.2.2.1, (w64 (t2.2.2.2.2.2.2.1 + 1)), ()))) (K (t2.1, t2.2.1, t2.2.2.1, t2.2.2.2.1, t2.2.2.2.2.1, t2.2.2.2.2.2.1, t2.2.2.2.2.2.2.1, ()))
noncomputable def F140 (f69 : T69) (f171 : T171) (a : List Cue × Str × Int × Unit) : Option (Int × Unit) :=
  (f69 (a.1, ())).bind fun x1 => cond (!(!x1.1)) (cond (decide (a.2.2.1 < 0)) (some (0, ())) (iterF (s140_0 f69 f171) fuel (a.2.1, a.2.2.1, 0, (⟨0, [], 0, 0⟩ : Cue), a.1, (Int.ofNat (List.length a.1)), 0, ()) fun t5 => (f171 (t5.2.2.1, t5.2.2.2.1.Level, (w64 (t5.2.1 - t5.2.2.2.1.Tick)), t5.2.2.2.1.Ramp, ())).bind fun x6 => some (x6.1, ()))) (some (0, ()))
def E140 (f69 : T69) (f171 : T171) : Env := envL [(69, N69 f69), (171, N171 f171)]
noncomputable def L140 (f69 : T69) (f171 : T171) : LEnv (densS (muts p140 ++ r140)) := lenv [(0, loopL (R := densS (muts p140 ++ r140)) q140_0 (s140_0 f69 f171))]
theorem e140_0 (f69 : T69) (f171 : T171) (X : Nat → St → Option (densS (muts p140 ++ r140))) (rec K : densS q140_0 → Option (densS (muts p140 ++ r140))) (t : densS q140_0) :
    ev (E140 f69 f171) tab2 (fun _ => false) (L140 f69 f171) (retK tab2 p140 r140 Proofs.Tryz.f140.results.toList) (loopC Proofs.Tryz.f140 0) (fun i s => cond (Nat.beq i 0) (decK 100 q140_0 s K) (X i s)) (fun s => decK 100 q140_0 s rec) (enc q140_0 t) = s140_0 f69 f171 t rec K := by kernel_rfl
theorem e140 (f69 : T69) (f171 : T171) (a : densS p140) : runF (E140 f69 f171) tab2 (fun _ => false) p140 r140 Proofs.Tryz.f140 (L140 f69 f171) a = F140 f69 f171 a := by kernel_rfl
theorem ok140 {f69 : T69} {f171 : T171} (h69 : OK Proofs.Tryz.prog 69 (N69 f69)) (h171 : OK Proofs.Tryz.prog 171 (N171 f171)) : OK Proofs.Tryz.prog 140 (mkE p140 r140 false (F140 f69 f171)) :=
  fn_ok (E := E140 f69 f171) tab_ok2 (envL_ok (OKs.cons h69 (OKs.cons h171 OKs.nil))) mixed2 (ann := (fun _ => false)) (L := L140 f69 f171) (fn := Proofs.Tryz.f140) (c := bodyC Proofs.Tryz.f140) (ls := [(0, loopC Proofs.Tryz.f140 0)]) Proofs.Tryz.func140 (by kernel_rfl) (by kernel_rfl) (by kernel_rfl) (by kernel_rfl)
    (LoopsP.cons q140_0 (s140_0 f69 f171) rfl (e140_0 f69 f171) LoopsP.nil) (e140 f69 f171)
/-! impl.IsDemands -/
def p172 : List SP := [.one (.r .int)]
def r172 : List SP := [.one (.bool)]
abbrev T172 := List Int × Unit → Option (Bool × Unit)
abbrev N172 (f : T172) : Entry := mkE p172 r172 false f
def q172_0 : List SP := pat 18 0 [(0, .one (.r .int)), (5, .one (.r .int)), (6, .one (.int .i64)), (7, .one (.int .i64))]
noncomputable def s172_0 (f71 : T71) (t1 : List Int × List Int × Int × Int × Unit) (rec K : List Int × List Int × Int × Int × Unit → Option (Bool × Unit)) : Option (Bool × Unit) :=
  cond (decide (t1.2.2.2.1 < t1.2.2.1)) (rdL t1.2.1 t1.2.2.2.1 fun d2 => (f71 (d2, 0, 64, ())).bind fun x3 => cond (!x3.1) (some (false, ())) (rec (t1.1, t1.2.1, t1.2.2.1, (w64 (t1.2.2.2.1 + 1)), ()))) (K (t1.1, t1.2.1, t1.2.2.1, t1.2.2.2.1, ()))
noncomputable def F172 (f71 : T71) (a : List Int × Unit) : Option (Bool × Unit) :=
  iterF (s172_0 f71) fuel (a.1, a.1, (Int.ofNat (List.length a.1)), 0, ()) fun t4 => some ((decide ((Int.ofNat (List.length t4.1)) ≤ 8)), ())
def E172 (f71 : T71) : Env := envL [(71, N71 f71)]
noncomputable def L172 (f71 : T71) : LEnv (densS (muts p172 ++ r172)) := lenv [(0, loopL (R := densS (muts p172 ++ r172)) q172_0 (s172_0 f71))]
theorem e172_0 (f71 : T71) (X : Nat → St → Option (densS (muts p172 ++ r172))) (rec K : densS q172_0 → Option (densS (muts p172 ++ r172))) (t : densS q172_0) :
    ev (E172 f71) tab2 (fun _ => false) (L172 f71) (retK tab2 p172 r172 Proofs.Tryz.f172.results.toList) (loopC Proofs.Tryz.f172 0) (fun i s => cond (Nat.beq i 0) (decK 100 q172_0 s K) (X i s)) (fun s => decK 100 q172_0 s rec) (enc q172_0 t) = s172_0 f71 t rec K := by kernel_rfl
theorem e172 (f71 : T71) (a : densS p172) : runF (E172 f71) tab2 (fun _ => false) p172 r172 Proofs.Tryz.f172 (L172 f71) a = F172 f71 a := by kernel_rfl
theorem ok172 {f71 : T71} (h71 : OK Proofs.Tryz.prog 71 (N71 f71)) : OK Proofs.Tryz.prog 172 (mkE p172 r172 false (F172 f71)) :=
  fn_ok (E := E172 f71) tab_ok2 (envL_ok (OKs.cons h71 OKs.nil)) mixed2 (ann := (fun _ => false)) (L := L172 f71) (fn := Proofs.Tryz.f172) (c := bodyC Proofs.Tryz.f172) (ls := [(0, loopC Proofs.Tryz.f172 0)]) Proofs.Tryz.func172 (by kernel_rfl) (by kernel_rfl) (by kernel_rfl) (by kernel_rfl)
    (LoopsP.cons q172_0 (s172_0 f71) rfl (e172_0 f71) LoopsP.nil) (e172 f71)
/-! impl.CutAt -/
def p174 : List SP := [.one (.r .int), .one (.int .i64)]
def r174 : List SP := [.one (.o 0 .int)]
abbrev T174 := List Int × Int × Unit → Option (List Int × Unit)
abbrev N174 (f : T174) : Entry := mkE p174 r174 false f
def q174_0 : List SP := pat 31 0 [(1, .one (.int .i64)), (5, .one (.o 5000001 .int)), (17, .one (.r .int)), (18, .one (.int .i64)), (19, .one (.int .i64))]
noncomputable def s174_0 (f172 : T172) (t2 : Int × List Int × List Int × Int × Int × Unit) (rec K : Int × List Int × List Int × Int × Int × Unit → Option (List Int × Unit)) : Option (List Int × Unit) :=
  cond (decide (t2.2.2.2.2.1 < t2.2.2.2.1)) (rdL t2.2.2.1 t2.2.2.2.2.1 fun d3 => capK (List.length t2.2.1 + List.length ([(mn d3 t2.1)] : List Int)) (rec (t2.1, (t2.2.1 ++ ([(mn d3 t2.1)] : List Int)), t2.2.2.1, t2.2.2.2.1, (w64 (t2.2.2.2.2.1 + 1)), ()))) (K (t2.1, t2.2.1, t2.2.2.1, t2.2.2.2.1, t2.2.2.2.2.1, ()))
noncomputable def F174 (f172 : T172) (a : List Int × Int × Unit) : Option (List Int × Unit) :=
  (f172 (a.1, ())).bind fun x1 => cond (!(!x1.1)) (cond (decide (a.2.1 < 0)) (some (([] : List Int), ())) (iterF (s174_0 f172) fuel (a.2.1, ([] : List Int), a.1, (Int.ofNat (List.length a.1)), 0, ()) fun t4 => some (t4.2.1, ()))) (some (([] : List Int), ()))
def E174 (f172 : T172) : Env := envL [(172, N172 f172)]
noncomputable def L174 (f172 : T172) : LEnv (densS (muts p174 ++ r174)) := lenv [(0, loopL (R := densS (muts p174 ++ r174)) q174_0 (s174_0 f172))]
theorem e174_0 (f172 : T172) (X : Nat → St → Option (densS (muts p174 ++ r174))) (rec K : densS q174_0 → Option (densS (muts p174 ++ r174))) (t : densS q174_0) :
    ev (E174 f172) tab2 (fun _ => false) (L174 f172) (retK tab2 p174 r174 Proofs.Tryz.f174.results.toList) (loopC Proofs.Tryz.f174 0) (fun i s => cond (Nat.beq i 0) (decK 100 q174_0 s K) (X i s)) (fun s => decK 100 q174_0 s rec) (enc q174_0 t) = s174_0 f172 t rec K := by kernel_rfl
theorem e174 (f172 : T172) (a : densS p174) : runF (E174 f172) tab2 (fun _ => false) p174 r174 Proofs.Tryz.f174 (L174 f172) a = F174 f172 a := by kernel_rfl
theorem ok174 {f172 : T172} (h172 : OK Proofs.Tryz.prog 172 (N172 f172)) : OK Proofs.Tryz.prog 174 (mkE p174 r174 false (F174 f172)) :=
  fn_ok (E := E174 f172) tab_ok2 (envL_ok (OKs.cons h172 OKs.nil)) mixed2 (ann := (fun _ => false)) (L := L174 f172) (fn := Proofs.Tryz.f174) (c := bodyC Proofs.Tryz.f174) (ls := [(0, loopC Proofs.Tryz.f174 0)]) Proofs.Tryz.func174 (by kernel_rfl) (by kernel_rfl) (by kernel_rfl) (by kernel_rfl)
    (LoopsP.cons q174_0 (s174_0 f172) rfl (e174_0 f172) LoopsP.nil) (e174 f172)
/-! impl.sumOf -/
def p175 : List SP := [.one (.r .int)]
def r175 : List SP := [.one (.int .i64)]
abbrev T175 := List Int × Unit → Option (Int × Unit)
abbrev N175 (f : T175) : Entry := mkE p175 r175 false f
def q175_0 : List SP := pat 17 0 [(3, .one (.int .i64)), (6, .one (.r .int)), (7, .one (.int .i64)), (8, .one (.int .i64))]
noncomputable def s175_0 (t1 : Int × List Int × Int × Int × Unit) (rec K : Int × List Int × Int × Int × Unit → Option (Int × Unit)) : Option (Int × Unit) :=
  cond (decide (t1.2.2.2.1 < t1.2.2.1)) (rdL t1.2.1 t1.2.2.2.1 fun d2 => rec ((w64 (t1.1 + d2)), t1.2.1, t1.2.2.1, (w64 (t1.2.2.2.1 + 1)), ())) (K (t1.1, t1.2.1, t1.2.2.1, t1.2.2.2.1, ()))
noncomputable def F175 (a : List Int × Unit) : Option (Int × Unit) :=
  iterF (s175_0) fuel (0, a.1, (Int.ofNat (List.length a.1)), 0, ()) fun t3 => some (t3.1, ())
def E175 : Env := envL []
noncomputable def L175 : LEnv (densS (muts p175 ++ r175)) := lenv [(0, loopL (R := densS (muts p175 ++ r175)) q175_0 (s175_0))]
theorem e175_0 (X : Nat → St → Option (densS (muts p175 ++ r175))) (rec K : densS q175_0 → Option (densS (muts p175 ++ r175))) (t : densS q175_0) :
    ev (E175) tab2 (fun _ => false) (L175) (retK tab2 p175 r175 Proofs.Tryz.f175.results.toList) (loopC Proofs.Tryz.f175 0) (fun i s => cond (Nat.beq i 0) (decK 100 q175_0 s K) (X i s)) (fun s => decK 100 q175_0 s rec) (enc q175_0 t) = s175_0 t rec K := by kernel_rfl
theorem e175 (a : densS p175) : runF (E175) tab2 (fun _ => false) p175 r175 Proofs.Tryz.f175 (L175) a = F175 a := by kernel_rfl
theorem ok175 : OK Proofs.Tryz.prog 175 (mkE p175 r175 false (F175)) :=
  fn_ok (E := E175) tab_ok2 (envL_ok OKs.nil) mixed2 (ann := (fun _ => false)) (L := L175) (fn := Proofs.Tryz.f175) (c := bodyC Proofs.Tryz.f175) (ls := [(0, loopC Proofs.Tryz.f175 0)]) Proofs.Tryz.func175 (by kernel_rfl) (by kernel_rfl) (by kernel_rfl) (by kernel_rfl)
    (LoopsP.cons q175_0 (s175_0) rfl (e175_0) LoopsP.nil) (e175)
/-! impl.LevelFor -/
def p173 : List SP := [.one (.int .i64), .one (.r .int)]
def r173 : List SP := [.one (.int .i64)]
abbrev T173 := Int × List Int × Unit → Option (Int × Unit)
abbrev N173 (f : T173) : Entry := mkE p173 r173 false f
def q173_0 : List SP := pat 23 0 [(0, .one (.int .i64)), (1, .one (.r .int)), (5, .one (.int .i64))]
noncomputable def s173_0 (f172 : T172) (f136 : T136) (f174 : T174) (f175 : T175) (t3 : Int × List Int × Int × Unit) (rec K : Int × List Int × Int × Unit → Option (Int × Unit)) : Option (Int × Unit) :=
  (f174 (t3.2.1, t3.2.2.1, ())).bind fun x4 => (f175 (x4.1, ())).bind fun x5 => cond (decide (x5.1 > t3.1)) (rec (t3.1, t3.2.1, (w64 (t3.2.2.1 - 1)), ())) (K (t3.1, t3.2.1, t3.2.2.1, ()))
noncomputable def F173 (f172 : T172) (f136 : T136) (f174 : T174) (f175 : T175) (a : Int × List Int × Unit) : Option (Int × Unit) :=
  (f172 (a.2.1, ())).bind fun x1 => cond (!(!x1.1)) ((f136 (a.1, ())).bind fun x2 => cond (!x2.1) (some (0, ())) (iterF (s173_0 f172 f136 f174 f175) fuel (a.1, a.2.1, 64, ()) fun t6 => some (t6.2.2.1, ()))) (some (0, ()))
def E173 (f172 : T172) (f136 : T136) (f174 : T174) (f175 : T175) : Env := envL [(172, N172 f172), (136, N136 f136), (174, N174 f174), (175, N175 f175)]
noncomputable def L173 (f172 : T172) (f136 : T136) (f174 : T174) (f175 : T175) : LEnv (densS (muts p173 ++ r173)) := lenv [(0, loopL (R := densS (muts p173 ++ r173)) q173_0 (s173_0 f172 f136 f174 f175))]
theorem e173_0 (f172 : T172) (f136 : T136) (f174 : T174) (f175 : T175) (X : Nat → St → Option (densS (muts p173 ++ r173))) (rec K : densS q173_0 → Option (densS (muts p173 ++ r173))) (t : densS q173_0) :
    ev (E173 f172 f136 f174 f175) tab2 (fun _ => false) (L173 f172 f136 f174 f175) (retK tab2 p173 r173 Proofs.Tryz.f173.results.toList) (loopC Proofs.Tryz.f173 0) (fun i s => cond (Nat.beq i 0) (decK 100 q173_0 s K) (X i s)) (fun s => decK 100 q173_0 s rec) (enc q173_0 t) = s173_0 f172 f136 f174 f175 t rec K := by kernel_rfl
theorem e173 (f172 : T172) (f136 : T136) (f174 : T174) (f175 : T175) (a : densS p173) : runF (E173 f172 f136 f174 f175) tab2 (fun _ => false) p173 r173 Proofs.Tryz.f173 (L173 f172 f136 f174 f175) a = F173 f172 f136 f174 f175 a := by kernel_rfl
theorem ok173 {f172 : T172} {f136 : T136} {f174 : T174} {f175 : T175} (h172 : OK Proofs.Tryz.prog 172 (N172 f172)) (h136 : OK Proofs.Tryz.prog 136 (N136 f136)) (h174 : OK Proofs.Tryz.prog 174 (N174 f174)) (h175 : OK Proofs.Tryz.prog 175 (N175 f175)) : OK Proofs.Tryz.prog 173 (mkE p173 r173 false (F173 f172 f136 f174 f175)) :=
  fn_ok (E := E173 f172 f136 f174 f175) tab_ok2 (envL_ok (OKs.cons h172 (OKs.cons h136 (OKs.cons h174 (OKs.cons h175 OKs.nil))))) mixed2 (ann := (fun _ => false)) (L := L173 f172 f136 f174 f175) (fn := Proofs.Tryz.f173) (c := bodyC Proofs.Tryz.f173) (ls := [(0, loopC Proofs.Tryz.f173 0)]) Proofs.Tryz.func173 (by kernel_rfl) (by kernel_rfl) (by kernel_rfl) (by kernel_rfl)
    (LoopsP.cons q173_0 (s173_0 f172 f136 f174 f175) rfl (e173_0 f172 f136 f174 f175) LoopsP.nil) (e173 f172 f136 f174 f175)
/-! impl.ShareOut -/
def p141 : List SP := [.one (.int .i64), .one (.r .int)]
def r141 : List SP := [.one (.o 0 .int)]
abbrev T141 := Int × List Int × Unit → Option (List Int × Unit)
abbrev N141 (f : T141) : Entry := mkE p141 r141 false f
def q141_0 : List SP := pat 53 0 [(5, .one (.int .i64)), (6, .one (.o 5000001 .int)), (7, .one (.int .i64)), (29, .one (.r .int)), (30, .one (.int .i64)), (31, .one (.int .i64))]
noncomputable def s141_0 (f172 : T172) (f136 : T136) (f173 : T173) (f174 : T174) (f175 : T175) (t6 : Int × List Int × Int × List Int × Int × Int × Unit) (rec K : Int × List Int × Int × List Int × Int × Int × Unit → Option (List Int × Unit)) : Option (List Int × Unit) :=
  cond (decide (t6.2.2.2.2.2.1 < t6.2.2.2.2.1)) (rdL t6.2.2.2.1 t6.2.2.2.2.2.1 fun d7 => cond (decide (d7 > t6.1)) (cond (decide (t6.2.2.1 > 0)) (rdL t6.2.1 t6.2.2.2.2.2.1 fun _ => (t6.2.1[(Int.toNat t6.2.2.2.2.2.1)]?).bind fun d8 => rdL t6.2.1 t6.2.2.2.2.2.1 fun _ => (t6.2.1[(Int.toNat t6.2.2.2.2.2.1)]?).bind fun d9 => rec (t6.1, (List.set t6.2.1 (Int.toNat t6.2.2.2.2.2.1) (w64 (d8 + 1))), (w64 (t6.2.2.1 - 1)), t6.2.2.2.1, t6.2.2.2.2.1, (w64 (t6.2.2.2.2.2.1 + 1)), ())) (rec (t6.1, t6.2.1, t6.2.2.1, t6.2.2.2.1, t6.2.2.2.2.1, (w64 (t6.2.2.2.2.2.1 + 1)), ()))) (rec (t6.1, t6.2.1, t6.2.2.1, t6.2.2.2.1, t6.2.2.2.2.1, (w64 (t6.2.2.2.2.2.1 + 1)), ()))) (K (t6.1, t6.2.1, t6.2.2.1, t6.2.2.2.1, t6.2.2.2.2.1, t6.2.2.2.2.2.1, ()))
noncomputable def F141 (f172 : T172) (f136 : T136) (f173 : T173) (f174 : T174) (f175 : T175) (a : Int × List Int × Unit) : Option (List Int × Unit) :=
  (f172 (a.2.1, ())).bind fun x1 => cond (!(!x1.1)) ((f136 (a.1, ())).bind fun x2 => cond (!x2.1) (some (([] : List Int), ())) ((f173 (a.1, a.2.1, ())).bind fun x3 => (f174 (a.2.1, x3.1, ())).bind fun x4 => (f175 (x4.1, ())).bind fun x5 => iterF (s141_0 f172 f136 f173 f174 f175) fuel (x3.1, x4.1, (w64 (a.1 - x5.1)), a.2.1, (Int.ofNat (List.length a.2.1)), 0, ()) fun t10 => some (t10.2.1, ()))) (some (([] : List Int), ()))
def E141 (f172 : T172) (f136 : T136) (f173 : T173) (f174 : T174) (f175 : T175) : Env := envL [(172, N172 f172), (136, N136 f136), (173, N173 f173), (174, N174 f174), (175, N175 f175)]
noncomputable def L141 (f172 : T172) (f136 : T136) (f173 : T173) (f174 : T174) (f175 : T175) : LEnv (densS (muts p141 ++ r141)) := lenv [(0, loopL (R := densS (muts p141 ++ r141)) q141_0 (s141_0 f172 f136 f173 f174 f175))]
theorem e141_0 (f172 : T172) (f136 : T136) (f173 : T173) (f174 : T174) (f175 : T175) (X : Nat → St → Option (densS (muts p141 ++ r141))) (rec K : densS q141_0 → Option (densS (muts p141 ++ r141))) (t : densS q141_0) :
    ev (E141 f172 f136 f173 f174 f175) tab2 (fun _ => false) (L141 f172 f136 f173 f174 f175) (retK tab2 p141 r141 Proofs.Tryz.f141.results.toList) (loopC Proofs.Tryz.f141 0) (fun i s => cond (Nat.beq i 0) (decK 100 q141_0 s K) (X i s)) (fun s => decK 100 q141_0 s rec) (enc q141_0 t) = s141_0 f172 f136 f173 f174 f175 t rec K := by kernel_rfl
theorem e141 (f172 : T172) (f136 : T136) (f173 : T173) (f174 : T174) (f175 : T175) (a : densS p141) : runF (E141 f172 f136 f173 f174 f175) tab2 (fun _ => false) p141 r141 Proofs.Tryz.f141 (L141 f172 f136 f173 f174 f175) a = F141 f172 f136 f173 f174 f175 a := by kernel_rfl
theorem ok141 {f172 : T172} {f136 : T136} {f173 : T173} {f174 : T174} {f175 : T175} (h172 : OK Proofs.Tryz.prog 172 (N172 f172)) (h136 : OK Proofs.Tryz.prog 136 (N136 f136)) (h173 : OK Proofs.Tryz.prog 173 (N173 f173)) (h174 : OK Proofs.Tryz.prog 174 (N174 f174)) (h175 : OK Proofs.Tryz.prog 175 (N175 f175)) : OK Proofs.Tryz.prog 141 (mkE p141 r141 false (F141 f172 f136 f173 f174 f175)) :=
  fn_ok (E := E141 f172 f136 f173 f174 f175) tab_ok2 (envL_ok (OKs.cons h172 (OKs.cons h136 (OKs.cons h173 (OKs.cons h174 (OKs.cons h175 OKs.nil)))))) mixed2 (ann := (fun _ => false)) (L := L141 f172 f136 f173 f174 f175) (fn := Proofs.Tryz.f141) (c := bodyC Proofs.Tryz.f141) (ls := [(0, loopC Proofs.Tryz.f141 0)]) Proofs.Tryz.func141 (by kernel_rfl) (by kernel_rfl) (by kernel_rfl) (by kernel_rfl)
    (LoopsP.cons q141_0 (s141_0 f172 f136 f173 f174 f175) rfl (e141_0 f172 f136 f173 f174 f175) LoopsP.nil) (e141 f172 f136 f173 f174 f175)
/-! impl.LiftsAt -/
def p108 : List SP := [.agg [.r .device, .r .cue, .r .gust, .int .i64], .one (.int .i64)]
def r108 : List SP := [.one (.o 0 .int)]
abbrev T108 := ShD × Int × Unit → Option (List Int × Unit)
abbrev N108 (f : T108) : Entry := mkE p108 r108 false f
def q108_2 : List SP := pat 91 0 [(1, .one (.int .i64)), (2, .box 5002001 [.r .device, .r .cue, .r .gust, .int .i64]), (5, .one (.o 5002002 .int)), (7, .boxt 5002003 .device), (8, .one (.o 5002004 .int)), (9, .one (.o 5002005 .int)), (30, .one (.r .device)), (31, .one (.int .i64)), (32, .one (.int .i64)), (42, .one (.r .device)), (43, .one (.int .i64)), (44, .one (.int .i64))]
noncomputable def s108_2 (f35 : T35) (f71 : T71) (f140 : T140) (f141 : T141) (t5 : Int × ShD × List Int × Device × List Int × List Int × List Device × Int × Int × List Device × Int × Int × Unit) (rec K : Int × ShD × List Int × Device × List Int × List Int × List Device × Int × Int × List Device × Int × Int × Unit → Option (List Int × Unit)) : Option (List Int × Unit) :=
  cond (decide (t5.2.2.2.2.2.2.2.2.2.2.2.1 < t5.2.2.2.2.2.2.2.2.2.2.1)) (rdL t5.2.2.2.2.2.2.2.2.2.1 t5.2.2.2.2.2.2.2.2.2.2.2.1 fun d6 => cond (decide (d6.Line = t5.2.2.2.1.Name)) (capK (List.length t5.2.2.2.2.1 + List.length ([t5.2.2.2.2.2.2.2.2.2.2.2.1] : List Int)) ((f140 (t5.2.1.2.1, d6.Name, t5.1, ())).bind fun x7 => capK (List.length t5.2.2.2.2.2.1 + List.length ([(mn x7.1 d6.Most)] : List Int)) (rec (t5.1, (t5.2.1.1, t5.2.1.2.1, t5.2.1.2.2.1, t5.2.1.2.2.2.1, ()), t5.2.2.1, t5.2.2.2.1, (t5.2.2.2.2.1 ++ ([t5.2.2.2.2.2.2.2.2.2.2.2.1] : List Int)), (t5.2.2.2.2.2.1 ++ ([(mn x7.1 d6.Most)] : List Int)), t5.2.2.2.2.2.2.1, t5.2.2.2.2.2.2.2.1, t5.2.2.2.2.2.2.2.2.1, t5.2.2.2.2.2.2.2.2.2.1, t5.2.2.2.2.2.2.2.2.2.2.1, (w64 (t5.2.2.2.2.2.2.2.2.2.2.2.1 + 1)), ())))) (rec (t5.1, (t5.2.1.1, t5.2.1.2.1, t5.2.1.2.2.1, t5.2.1.2.2.2.1, ()), t5.2.2.1, t5.2.2.2.1, t5.2.2.2.2.1, t5.2.2.2.2.2.1, t5.2.2.2.2.2.2.1, t5.2.2.2.2.2.2.2.1, t5.2.2.2.2.2.2.2.2.1, t5.2.2.2.2.2.2.2.2.2.1, t5.2.2.2.2.2.2.2.2.2.2.1, (w64 (t5.2.2.2.2.2.2.2.2.2.2.2.1 + 1)), ()))) (K (t5.1, (t5.2.1.1, t5.2.1.2.1, t5.2.1.2.2.1, t5.2.1.2.2.2.1, ()), t5.2.2.1, t5.2.2.2.1, t5.2.2.2.2.1, t5.2.2.2.2.2.1, t5.2.2.2.2.2.2.1, t5.2.2.2.2.2.2.2.1, t5.2.2.2.2.2.2.2.2.1, t5.2.2.2.2.2.2.2.2.2.1, t5.2.2.2.2.2.2.2.2.2.2.1, t5.2.2.2.2.2.2.2.2.2.2.2.1, ()))
def q108_4 : List SP := pat 91 0 [(1, .one (.int .i64)), (2, .box 5004001 [.r .device, .r .cue, .r .gust, .int .i64]), (5, .one (.o 5004002 .int)), (8, .one (.o 5004003 .int)), (30, .one (.r .device)), (31, .one (.int .i64)), (32, .one (.int .i64)), (74, .one (.o 5004004 .int)), (75, .one (.int .i64)), (76, .one (.int .i64))]
noncomputable def s108_4 (f35 : T35) (f71 : T71) (f140 : T140) (f141 : T141) (t10 : Int × ShD × List Int × List Int × List Device × Int × Int × List Int × Int × Int × Unit) (rec K : Int × ShD × List Int × List Int × List Device × Int × Int × List Int × Int × Int × Unit → Option (List Int × Unit)) : Option (List Int × Unit) :=
  cond (decide (t10.2.2.2.2.2.2.2.2.2.1 < t10.2.2.2.2.2.2.2.2.1)) (rdL t10.2.2.2.2.2.2.2.1 t10.2.2.2.2.2.2.2.2.2.1 fun _ => (t10.2.2.2.2.2.2.2.1[(Int.toNat t10.2.2.2.2.2.2.2.2.2.1)]?).bind fun d11 => rdL t10.2.2.2.1 t10.2.2.2.2.2.2.2.2.2.1 fun _ => (t10.2.2.2.1[(Int.toNat t10.2.2.2.2.2.2.2.2.2.1)]?).bind fun d12 => rdL t10.2.2.1 d12 fun _ => (t10.2.2.1[(Int.toNat d12)]?).bind fun d13 => rec (t10.1, (t10.2.1.1, t10.2.1.2.1, t10.2.1.2.2.1, t10.2.1.2.2.2.1, ()), (List.set t10.2.2.1 (Int.toNat d12) d11), t10.2.2.2.1, t10.2.2.2.2.1, t10.2.2.2.2.2.1, t10.2.2.2.2.2.2.1, t10.2.2.2.2.2.2.2.1, t10.2.2.2.2.2.2.2.2.1, (w64 (t10.2.2.2.2.2.2.2.2.2.1 + 1)), ())) (K (t10.1, (t10.2.1.1, t10.2.1.2.1, t10.2.1.2.2.1, t10.2.1.2.2.2.1, ()), t10.2.2.1, t10.2.2.2.1, t10.2.2.2.2.1, t10.2.2.2.2.2.1, t10.2.2.2.2.2.2.1, t10.2.2.2.2.2.2.2.1, t10.2.2.2.2.2.2.2.2.1, t10.2.2.2.2.2.2.2.2.2.1, ()))
def q108_0 : List SP := pat 91 0 [(1, .one (.int .i64)), (2, .box 5000001 [.r .device, .r .cue, .r .gust, .int .i64]), (5, .one (.o 5000002 .int)), (30, .one (.r .device)), (31, .one (.int .i64)), (32, .one (.int .i64))]
noncomputable def s108_0 (f35 : T35) (f71 : T71) (f140 : T140) (f141 : T141) (t3 : Int × ShD × List Int × List Device × Int × Int × Unit) (rec K : Int × ShD × List Int × List Device × Int × Int × Unit → Option (List Int × Unit)) : Option (List Int × Unit) :=
  cond (decide (t3.2.2.2.2.2.1 < t3.2.2.2.2.1)) (rdL t3.2.2.2.1 t3.2.2.2.2.2.1 fun d4 => cond (!(decide (d4.Kind = 1))) (rec (t3.1, (t3.2.1.1, t3.2.1.2.1, t3.2.1.2.2.1, t3.2.1.2.2.2.1, ()), t3.2.2.1, t3.2.2.2.1, t3.2.2.2.2.1, (w64 (t3.2.2.2.2.2.1 + 1)), ())) (iterF (s108_2 f35 f71 f140 f141) fuel (t3.1, (t3.2.1.1, t3.2.1.2.1, t3.2.1.2.2.1, t3.2.1.2.2.2.1, ()), t3.2.2.1, d4, ([] : List Int), ([] : List Int), t3.2.2.2.1, t3.2.2.2.2.1, t3.2.2.2.2.2.1, t3.2.1.1, (Int.ofNat (List.length t3.2.1.1)), 0, ()) fun t8 => (f141 (t8.2.2.2.1.Most, t8.2.2.2.2.2.1, ())).bind fun x9 => iterF (s108_4 f35 f71 f140 f141) fuel (t8.1, (t8.2.1.1, t8.2.1.2.1, t8.2.1.2.2.1, t8.2.1.2.2.2.1, ()), t8.2.2.1, t8.2.2.2.2.1, t8.2.2.2.2.2.2.1, t8.2.2.2.2.2.2.2.1, t8.2.2.2.2.2.2.2.2.1, x9.1, (Int.ofNat (List.length x9.1)), 0, ()) fun t14 => rec (t14.1, (t14.2.1.1, t14.2.1.2.1, t14.2.1.2.2.1, t14.2.1.2.2.2.1, ()), t14.2.2.1, t14.2.2.2.2.1, t14.2.2.2.2.2.1, (w64 (t14.2.2.2.2.2.2.1 + 1)), ()))) (K (t3.1, (t3.2.1.1, t3.2.1.2.1, t3.2.1.2.2.1, t3.2.1.2.2.2.1, ()), t3.2.2.1, t3.2.2.2.1, t3.2.2.2.2.1, t3.2.2.2.2.2.1, ()))
noncomputable def F108 (f35 : T35) (f71 : T71) (f140 : T140) (f141 : T141) (a : ShD × Int × Unit) : Option (List Int × Unit) :=
  (f35 ((a.1.1, a.1.2.1, a.1.2.2.1, a.1.2.2.2.1, ()), ())).bind fun x1 => cond (!x1.1) (some (([] : List Int), ())) (okIf ((0 : Int) ≤ (Int.ofNat (List.length a.1.1))) (capK (Int.toNat (Int.ofNat (List.length a.1.1))) ((f71 (a.2.1, 0, (w64 (a.1.2.2.2.1 - 1)), ())).bind fun x2 => cond (!x2.1) (some ((List.replicate (Int.toNat (Int.ofNat (List.length a.1.1))) (Ty.zero .int)), ())) (iterF (s108_0 f35 f71 f140 f141) fuel (a.2.1, (a.1.1, a.1.2.1, a.1.2.2.1, a.1.2.2.2.1, ()), (List.replicate (Int.toNat (Int.ofNat (List.length a.1.1))) (Ty.zero .int)), a.1.1, (Int.ofNat (List.length a.1.1)), 0, ()) fun t15 => some (t15.2.2.1, ())))))
def E108 (f35 : T35) (f71 : T71) (f140 : T140) (f141 : T141) : Env := envL [(35, N35 f35), (71, N71 f71), (140, N140 f140), (141, N141 f141)]
noncomputable def L108 (f35 : T35) (f71 : T71) (f140 : T140) (f141 : T141) : LEnv (densS (muts p108 ++ r108)) := lenv [(0, loopL (R := densS (muts p108 ++ r108)) q108_0 (s108_0 f35 f71 f140 f141)), (2, loopL (R := densS (muts p108 ++ r108)) q108_2 (s108_2 f35 f71 f140 f141)), (4, loopL (R := densS (muts p108 ++ r108)) q108_4 (s108_4 f35 f71 f140 f141))]
theorem e108_0 (f35 : T35) (f71 : T71) (f140 : T140) (f141 : T141) (X : Nat → St → Option (densS (muts p108 ++ r108))) (rec K : densS q108_0 → Option (densS (muts p108 ++ r108))) (t : densS q108_0) :
    ev (E108 f35 f71 f140 f141) tab2 (fun _ => false) (L108 f35 f71 f140 f141) (retK tab2 p108 r108 Proofs.Tryz.f108.results.toList) (loopC Proofs.Tryz.f108 0) (fun i s => cond (Nat.beq i 0) (decK 100 q108_0 s K) (X i s)) (fun s => decK 100 q108_0 s rec) (enc q108_0 t) = s108_0 f35 f71 f140 f141 t rec K := by kernel_rfl
theorem e108_2 (f35 : T35) (f71 : T71) (f140 : T140) (f141 : T141) (X : Nat → St → Option (densS (muts p108 ++ r108))) (rec K : densS q108_2 → Option (densS (muts p108 ++ r108))) (t : densS q108_2) :
    ev (E108 f35 f71 f140 f141) tab2 (fun _ => false) (L108 f35 f71 f140 f141) (retK tab2 p108 r108 Proofs.Tryz.f108.results.toList) (loopC Proofs.Tryz.f108 1) (fun i s => cond (Nat.beq i 2) (decK 100 q108_2 s K) (X i s)) (fun s => decK 100 q108_2 s rec) (enc q108_2 t) = s108_2 f35 f71 f140 f141 t rec K := by kernel_rfl
theorem e108_4 (f35 : T35) (f71 : T71) (f140 : T140) (f141 : T141) (X : Nat → St → Option (densS (muts p108 ++ r108))) (rec K : densS q108_4 → Option (densS (muts p108 ++ r108))) (t : densS q108_4) :
    ev (E108 f35 f71 f140 f141) tab2 (fun _ => false) (L108 f35 f71 f140 f141) (retK tab2 p108 r108 Proofs.Tryz.f108.results.toList) (loopC Proofs.Tryz.f108 2) (fun i s => cond (Nat.beq i 4) (decK 100 q108_4 s K) (X i s)) (fun s => decK 100 q108_4 s rec) (enc q108_4 t) = s108_4 f35 f71 f140 f141 t rec K := by kernel_rfl
theorem e108 (f35 : T35) (f71 : T71) (f140 : T140) (f141 : T141) (a : densS p108) : runF (E108 f35 f71 f140 f141) tab2 (fun _ => false) p108 r108 Proofs.Tryz.f108 (L108 f35 f71 f140 f141) a = F108 f35 f71 f140 f141 a := by kernel_rfl
theorem ok108 {f35 : T35} {f71 : T71} {f140 : T140} {f141 : T141} (h35 : OK Proofs.Tryz.prog 35 (N35 f35)) (h71 : OK Proofs.Tryz.prog 71 (N71 f71)) (h140 : OK Proofs.Tryz.prog 140 (N140 f140)) (h141 : OK Proofs.Tryz.prog 141 (N141 f141)) : OK Proofs.Tryz.prog 108 (mkE p108 r108 false (F108 f35 f71 f140 f141)) :=
  fn_ok (E := E108 f35 f71 f140 f141) tab_ok2 (envL_ok (OKs.cons h35 (OKs.cons h71 (OKs.cons h140 (OKs.cons h141 OKs.nil))))) mixed2 (ann := (fun _ => false)) (L := L108 f35 f71 f140 f141) (fn := Proofs.Tryz.f108) (c := bodyC Proofs.Tryz.f108) (ls := [(0, loopC Proofs.Tryz.f108 0), (2, loopC Proofs.Tryz.f108 1), (4, loopC Proofs.Tryz.f108 2)]) Proofs.Tryz.func108 (by kernel_rfl) (by kernel_rfl) (by kernel_rfl) (by kernel_rfl)
    (LoopsP.cons q108_0 (s108_0 f35 f71 f140 f141) rfl (e108_0 f35 f71 f140 f141) (LoopsP.cons q108_2 (s108_2 f35 f71 f140 f141) rfl (e108_2 f35 f71 f140 f141) (LoopsP.cons q108_4 (s108_4 f35 f71 f140 f141) rfl (e108_4 f35 f71 f140 f141) LoopsP.nil))) (e108 f35 f71 f140 f141)
/-! impl.throwsOf -/
def p75 : List SP := [.agg [.r .device, .r .cue, .r .gust, .int .i64]]
def r75 : List SP := [.one (.o 0 .throw)]
abbrev T75 := ShD × Unit → Option (List Throw × Unit)
abbrev N75 (f : T75) : Entry := mkE p75 r75 false f
def q75_2 : List SP := pat 52 0 [(1, .box 5002001 [.r .device, .r .cue, .r .gust, .int .i64]), (3, .one (.o 5002002 .throw)), (4, .one (.int .i64)), (14, .one (.int .i64)), (15, .one (.int .i64)), (20, .one (.o 5002003 .int)), (21, .one (.int .i64)), (22, .one (.int .i64))]
noncomputable def s75_2 (f35 : T35) (f108 : T108) (t4 : ShD × List Throw × Int × Int × Int × List Int × Int × Int × Unit) (rec K : ShD × List Throw × Int × Int × Int × List Int × Int × Int × Unit → Option (List Throw × Unit)) : Option (List Throw × Unit) :=
  cond (decide (t4.2.2.2.2.2.2.2.1 < t4.2.2.2.2.2.2.1)) (rdL t4.2.2.2.2.2.1 t4.2.2.2.2.2.2.2.1 fun _ => (t4.2.2.2.2.2.1[(Int.toNat t4.2.2.2.2.2.2.2.1)]?).bind fun d5 => cond (decide (d5 > 0)) (rdL t4.1.1 t4.2.2.2.2.2.2.2.1 fun d6 => capK (List.length t4.2.1 + List.length ([(⟨d6.Name, t4.2.2.1, ⟨⟨d6.At.X, d6.At.Y⟩, d6.Heading, d6.Tilt, d5⟩⟩ : Throw)] : List Throw)) (rec ((t4.1.1, t4.1.2.1, t4.1.2.2.1, t4.1.2.2.2.1, ()), (t4.2.1 ++ ([(⟨d6.Name, t4.2.2.1, ⟨⟨d6.At.X, d6.At.Y⟩, d6.Heading, d6.Tilt, d5⟩⟩ : Throw)] : List Throw)), t4.2.2.1, t4.2.2.2.1, t4.2.2.2.2.1, t4.2.2.2.2.2.1, t4.2.2.2.2.2.2.1, (w64 (t4.2.2.2.2.2.2.2.1 + 1)), ()))) (rec ((t4.1.1, t4.1.2.1, t4.1.2.2.1, t4.1.2.2.2.1, ()), t4.2.1, t4.2.2.1, t4.2.2.2.1, t4.2.2.2.2.1, t4.2.2.2.2.2.1, t4.2.2.2.2.2.2.1, (w64 (t4.2.2.2.2.2.2.2.1 + 1)), ()))) (K ((t4.1.1, t4.1.2.1, t4.1.2.2.1, t4.1.2.2.2.1, ()), t4.2.1, t4.2.2.1, t4.2.2.2.1, t4.2.2.2.2.1, t4.2.2.2.2.2.1, t4.2.2.2.2.2.2.1, t4.2.2.2.2.2.2.2.1, ()))
def q75_0 : List SP := pat 52 0 [(1, .box 5000001 [.r .device, .r .cue, .r .gust, .int .i64]), (3, .one (.o 5000002 .throw)), (14, .one (.int .i64)), (15, .one (.int .i64))]
noncomputable def s75_0 (f35 : T35) (f108 : T108) (t2 : ShD × List Throw × Int × Int × Unit) (rec K : ShD × List Throw × Int × Int × Unit → Option (List Throw × Unit)) : Option (List Throw × Unit) :=
  cond (decide (t2.2.2.2.1 < t2.2.2.1)) ((f108 ((t2.1.1, t2.1.2.1, t2.1.2.2.1, t2.1.2.2.2.1, ()), t2.2.2.2.1, ())).bind fun x3 => iterF (s75_2 f35 f108) fuel ((t2.1.1, t2.1.2.1, t2.1.2.2.1, t2.1.2.2.2.1, ()), t2.2.1, t2.2.2.2.1, t2.2.2.1, t2.2.2.2.1, x3.1, (Int.ofNat (List.length x3.1)), 0, ()) fun t7 => rec ((t7.1.1, t7.1.2.1, t7.1.2.2.1, t7.1.2.2.2.1, ()), t7.2.1, t7.2.2.2.1, (w64 (t7.2.2.2.2.1 + 1)), ())) (K ((t2.1.1, t2.1.2.1, t2.1.2.2.1, t2.1.2.2.2.1, ()), t2.2.1, t2.2.2.1, t2.2.2.2.1, ()))
noncomputable def F75 (f35 : T35) (f108 : T108) (a : ShD × Unit) : Option (List Throw × Unit) :=
  (f35 ((a.1.1, a.1.2.1, a.1.2.2.1, a.1.2.2.2.1, ()), ())).bind fun x1 => cond (!x1.1) (some (([] : List Throw), ())) (iterF (s75_0 f35 f108) fuel ((a.1.1, a.1.2.1, a.1.2.2.1, a.1.2.2.2.1, ()), ([] : List Throw), a.1.2.2.2.1, 0, ()) fun t8 => some (t8.2.1, ()))
def E75 (f35 : T35) (f108 : T108) : Env := envL [(35, N35 f35), (108, N108 f108)]
noncomputable def L75 (f35 : T35) (f108 : T108) : LEnv (densS (muts p75 ++ r75)) := lenv [(0, loopL (R := densS (muts p75 ++ r75)) q75_0 (s75_0 f35 f108)), (2, loopL (R := densS (muts p75 ++ r75)) q75_2 (s75_2 f35 f108))]
theorem e75_0 (f35 : T35) (f108 : T108) (X : Nat → St → Option (densS (muts p75 ++ r75))) (rec K : densS q75_0 → Option (densS (muts p75 ++ r75))) (t : densS q75_0) :
    ev (E75 f35 f108) tab2 (fun _ => false) (L75 f35 f108) (retK tab2 p75 r75 Proofs.Tryz.f75.results.toList) (loopC Proofs.Tryz.f75 0) (fun i s => cond (Nat.beq i 0) (decK 100 q75_0 s K) (X i s)) (fun s => decK 100 q75_0 s rec) (enc q75_0 t) = s75_0 f35 f108 t rec K := by kernel_rfl
theorem e75_2 (f35 : T35) (f108 : T108) (X : Nat → St → Option (densS (muts p75 ++ r75))) (rec K : densS q75_2 → Option (densS (muts p75 ++ r75))) (t : densS q75_2) :
    ev (E75 f35 f108) tab2 (fun _ => false) (L75 f35 f108) (retK tab2 p75 r75 Proofs.Tryz.f75.results.toList) (loopC Proofs.Tryz.f75 1) (fun i s => cond (Nat.beq i 2) (decK 100 q75_2 s K) (X i s)) (fun s => decK 100 q75_2 s rec) (enc q75_2 t) = s75_2 f35 f108 t rec K := by kernel_rfl
theorem e75 (f35 : T35) (f108 : T108) (a : densS p75) : runF (E75 f35 f108) tab2 (fun _ => false) p75 r75 Proofs.Tryz.f75 (L75 f35 f108) a = F75 f35 f108 a := by kernel_rfl
theorem ok75 {f35 : T35} {f108 : T108} (h35 : OK Proofs.Tryz.prog 35 (N35 f35)) (h108 : OK Proofs.Tryz.prog 108 (N108 f108)) : OK Proofs.Tryz.prog 75 (mkE p75 r75 false (F75 f35 f108)) :=
  fn_ok (E := E75 f35 f108) tab_ok2 (envL_ok (OKs.cons h35 (OKs.cons h108 OKs.nil))) mixed2 (ann := (fun _ => false)) (L := L75 f35 f108) (fn := Proofs.Tryz.f75) (c := bodyC Proofs.Tryz.f75) (ls := [(0, loopC Proofs.Tryz.f75 0), (2, loopC Proofs.Tryz.f75 1)]) Proofs.Tryz.func75 (by kernel_rfl) (by kernel_rfl) (by kernel_rfl) (by kernel_rfl)
    (LoopsP.cons q75_0 (s75_0 f35 f108) rfl (e75_0 f35 f108) (LoopsP.cons q75_2 (s75_2 f35 f108) rfl (e75_2 f35 f108) LoopsP.nil)) (e75 f35 f108)
/-! impl.FlightOf -/
def p77 : List SP := [.t .jet]
def r77 : List SP := [.one (.int .i64)]
abbrev T77 := Jet × Unit → Option (Int × Unit)
abbrev N77 (f : T77) : Entry := mkE p77 r77 false f
noncomputable def F77 (f110 : T110) (a : Jet × Unit) : Option (Int × Unit) :=
  (f110 (a.1, ())).bind fun x1 => cond (!x1.1) (some (0, ())) (some ((w64 (a.1.Lift + 1)), ()))
def E77 (f110 : T110) : Env := envL [(110, N110 f110)]
noncomputable def L77 (f110 : T110) : LEnv (densS (muts p77 ++ r77)) := lenv []
theorem e77 (f110 : T110) (a : densS p77) : runF (E77 f110) tab2 (fun _ => false) p77 r77 Proofs.Tryz.f77 (L77 f110) a = F77 f110 a := by kernel_rfl
theorem ok77 {f110 : T110} (h110 : OK Proofs.Tryz.prog 110 (N110 f110)) : OK Proofs.Tryz.prog 77 (mkE p77 r77 false (F77 f110)) :=
  fn_ok (E := E77 f110) tab_ok2 (envL_ok (OKs.cons h110 OKs.nil)) mixed2 (ann := (fun _ => false)) (L := L77 f110) (fn := Proofs.Tryz.f77) (c := bodyC Proofs.Tryz.f77) (ls := []) Proofs.Tryz.func77 (by kernel_rfl) (by kernel_rfl) (by kernel_rfl) (by kernel_rfl)
    LoopsP.nil (e77 f110)
/-! impl.isInAir -/
def p142 : List SP := [.t .jet, .one (.int .i64)]
def r142 : List SP := [.one (.bool)]
abbrev T142 := Jet × Int × Unit → Option (Bool × Unit)
abbrev N142 (f : T142) : Entry := mkE p142 r142 false f
noncomputable def F142 (f110 : T110) (f77 : T77) (f71 : T71) (a : Jet × Int × Unit) : Option (Bool × Unit) :=
  (f110 (a.1, ())).bind fun x1 => cond x1.1 ((f77 (a.1, ())).bind fun x2 => (f71 (a.2.1, 0, x2.1, ())).bind fun x3 => some (x3.1, ())) (some (false, ()))
def E142 (f110 : T110) (f77 : T77) (f71 : T71) : Env := envL [(110, N110 f110), (77, N77 f77), (71, N71 f71)]
noncomputable def L142 (f110 : T110) (f77 : T77) (f71 : T71) : LEnv (densS (muts p142 ++ r142)) := lenv []
theorem e142 (f110 : T110) (f77 : T77) (f71 : T71) (a : densS p142) : runF (E142 f110 f77 f71) tab2 (fun _ => false) p142 r142 Proofs.Tryz.f142 (L142 f110 f77 f71) a = F142 f110 f77 f71 a := by kernel_rfl
theorem ok142 {f110 : T110} {f77 : T77} {f71 : T71} (h110 : OK Proofs.Tryz.prog 110 (N110 f110)) (h77 : OK Proofs.Tryz.prog 77 (N77 f77)) (h71 : OK Proofs.Tryz.prog 71 (N71 f71)) : OK Proofs.Tryz.prog 142 (mkE p142 r142 false (F142 f110 f77 f71)) :=
  fn_ok (E := E142 f110 f77 f71) tab_ok2 (envL_ok (OKs.cons h110 (OKs.cons h77 (OKs.cons h71 OKs.nil)))) mixed2 (ann := (fun _ => false)) (L := L142 f110 f77 f71) (fn := Proofs.Tryz.f142) (c := bodyC Proofs.Tryz.f142) (ls := []) Proofs.Tryz.func142 (by kernel_rfl) (by kernel_rfl) (by kernel_rfl) (by kernel_rfl)
    LoopsP.nil (e142 f110 f77 f71)
/-! impl.turns -/
def p144 : List SP := [.one (.int .i64)]
def r144 : List SP := [.one (.int .i64)]
abbrev T144 := Int × Unit → Option (Int × Unit)
abbrev N144 (f : T144) : Entry := mkE p144 r144 false f
noncomputable def F144 (a : Int × Unit) : Option (Int × Unit) :=
  some ((Int.tmod (w64 ((Int.tmod a.1 4) + 4)) 4), ())
def E144 : Env := envL []
noncomputable def L144 : LEnv (densS (muts p144 ++ r144)) := lenv []
theorem e144 (a : densS p144) : runF (E144) tab2 (fun _ => false) p144 r144 Proofs.Tryz.f144 (L144) a = F144 a := by kernel_rfl
theorem ok144 : OK Proofs.Tryz.prog 144 (mkE p144 r144 false (F144)) :=
  fn_ok (E := E144) tab_ok2 (envL_ok OKs.nil) mixed2 (ann := (fun _ => false)) (L := L144) (fn := Proofs.Tryz.f144) (c := bodyC Proofs.Tryz.f144) (ls := []) Proofs.Tryz.func144 (by kernel_rfl) (by kernel_rfl) (by kernel_rfl) (by kernel_rfl)
    LoopsP.nil (e144)
/-! impl.turned -/
def p112 : List SP := [.t .place, .one (.int .i64)]
def r112 : List SP := [.t .place]
abbrev T112 := Place × Int × Unit → Option (Place × Unit)
abbrev N112 (f : T112) : Entry := mkE p112 r112 false f
def q112_0 : List SP := pat 17 0 [(2, .boxt 5000001 .place), (4, .boxt 5000002 .place), (6, .one (.int .i64)), (7, .one (.int .i64))]
noncomputable def s112_0 (f144 : T144) (t2 : Place × Place × Int × Int × Unit) (rec K : Place × Place × Int × Int × Unit → Option (Place × Unit)) : Option (Place × Unit) :=
  cond (decide (t2.2.2.2.1 < t2.2.2.1)) (rec ((⟨(w64 (0 - t2.1.Y)), t2.1.X⟩ : Place), t2.2.1, t2.2.2.1, (w64 (t2.2.2.2.1 + 1)), ())) (K (t2.1, t2.2.1, t2.2.2.1, t2.2.2.2.1, ()))
noncomputable def F112 (f144 : T144) (a : Place × Int × Unit) : Option (Place × Unit) :=
  (f144 (a.2.1, ())).bind fun x1 => iterF (s112_0 f144) fuel (a.1, (⟨0, 0⟩ : Place), x1.1, 0, ()) fun t3 => some (t3.1, ())
def E112 (f144 : T144) : Env := envL [(144, N144 f144)]
noncomputable def L112 (f144 : T144) : LEnv (densS (muts p112 ++ r112)) := lenv [(0, loopL (R := densS (muts p112 ++ r112)) q112_0 (s112_0 f144))]
theorem e112_0 (f144 : T144) (X : Nat → St → Option (densS (muts p112 ++ r112))) (rec K : densS q112_0 → Option (densS (muts p112 ++ r112))) (t : densS q112_0) :
    ev (E112 f144) tab2 (fun _ => false) (L112 f144) (retK tab2 p112 r112 Proofs.Tryz.f112.results.toList) (loopC Proofs.Tryz.f112 0) (fun i s => cond (Nat.beq i 0) (decK 100 q112_0 s K) (X i s)) (fun s => decK 100 q112_0 s rec) (enc q112_0 t) = s112_0 f144 t rec K := by kernel_rfl
theorem e112 (f144 : T144) (a : densS p112) : runF (E112 f144) tab2 (fun _ => false) p112 r112 Proofs.Tryz.f112 (L112 f144) a = F112 f144 a := by kernel_rfl
theorem ok112 {f144 : T144} (h144 : OK Proofs.Tryz.prog 144 (N144 f144)) : OK Proofs.Tryz.prog 112 (mkE p112 r112 false (F112 f144)) :=
  fn_ok (E := E112 f144) tab_ok2 (envL_ok (OKs.cons h144 OKs.nil)) mixed2 (ann := (fun _ => false)) (L := L112 f144) (fn := Proofs.Tryz.f112) (c := bodyC Proofs.Tryz.f112) (ls := [(0, loopC Proofs.Tryz.f112 0)]) Proofs.Tryz.func112 (by kernel_rfl) (by kernel_rfl) (by kernel_rfl) (by kernel_rfl)
    (LoopsP.cons q112_0 (s112_0 f144) rfl (e112_0 f144) LoopsP.nil) (e112 f144)
/-! impl.checked -/
def p176 : List SP := [.t .place]
def r176 : List SP := [.t .place, .one (.bool)]
abbrev T176 := Place × Unit → Option (Place × Bool × Unit)
abbrev N176 (f : T176) : Entry := mkE p176 r176 false f
noncomputable def F176 (f74 : T74) (a : Place × Unit) : Option (Place × Bool × Unit) :=
  (f74 (a.1, ())).bind fun x1 => cond (!x1.1) (some ((⟨0, 0⟩ : Place), false, ())) (some (a.1, true, ()))
def E176 (f74 : T74) : Env := envL [(74, N74 f74)]
noncomputable def L176 (f74 : T74) : LEnv (densS (muts p176 ++ r176)) := lenv []
theorem e176 (f74 : T74) (a : densS p176) : runF (E176 f74) tab2 (fun _ => false) p176 r176 Proofs.Tryz.f176 (L176 f74) a = F176 f74 a := by kernel_rfl
theorem ok176 {f74 : T74} (h74 : OK Proofs.Tryz.prog 74 (N74 f74)) : OK Proofs.Tryz.prog 176 (mkE p176 r176 false (F176 f74)) :=
  fn_ok (E := E176 f74) tab_ok2 (envL_ok (OKs.cons h74 OKs.nil)) mixed2 (ann := (fun _ => false)) (L := L176 f74) (fn := Proofs.Tryz.f176) (c := bodyC Proofs.Tryz.f176) (ls := []) Proofs.Tryz.func176 (by kernel_rfl) (by kernel_rfl) (by kernel_rfl) (by kernel_rfl)
    LoopsP.nil (e176 f74)
/-! impl.StepFrom -/
def p143 : List SP := [.t .place, .one (.int .i64), .one (.int .i64)]
def r143 : List SP := [.t .place, .one (.bool)]
abbrev T143 := Place × Int × Int × Unit → Option (Place × Bool × Unit)
abbrev N143 (f : T143) : Entry := mkE p143 r143 false f
noncomputable def F143 (f74 : T74) (f111 : T111) (f107 : T107) (f112 : T112) (f176 : T176) (a : Place × Int × Int × Unit) : Option (Place × Bool × Unit) :=
  (f74 (a.1, ())).bind fun x1 => cond (!(!x1.1)) ((f111 (a.2.1, ())).bind fun x2 => cond (!(!x2.1)) ((f107 (a.2.2.1, ())).bind fun x3 => cond (!x3.1) (some ((⟨0, 0⟩ : Place), false, ())) ((f112 ((⟨a.2.2.1, 0⟩ : Place), a.2.1, ())).bind fun x4 => (f176 ((⟨(w64 (a.1.X + x4.1.X)), (w64 (a.1.Y + x4.1.Y))⟩ : Place), ())).bind fun x5 => some (x5.1, x5.2.1, ()))) (some ((⟨0, 0⟩ : Place), false, ()))) (some ((⟨0, 0⟩ : Place), false, ()))
def E143 (f74 : T74) (f111 : T111) (f107 : T107) (f112 : T112) (f176 : T176) : Env := envL [(74, N74 f74), (111, N111 f111), (107, N107 f107), (112, N112 f112), (176, N176 f176)]
noncomputable def L143 (f74 : T74) (f111 : T111) (f107 : T107) (f112 : T112) (f176 : T176) : LEnv (densS (muts p143 ++ r143)) := lenv []
theorem e143 (f74 : T74) (f111 : T111) (f107 : T107) (f112 : T112) (f176 : T176) (a : densS p143) : runF (E143 f74 f111 f107 f112 f176) tab2 (fun _ => false) p143 r143 Proofs.Tryz.f143 (L143 f74 f111 f107 f112 f176) a = F143 f74 f111 f107 f112 f176 a := by kernel_rfl
theorem ok143 {f74 : T74} {f111 : T111} {f107 : T107} {f112 : T112} {f176 : T176} (h74 : OK Proofs.Tryz.prog 74 (N74 f74)) (h111 : OK Proofs.Tryz.prog 111 (N111 f111)) (h107 : OK Proofs.Tryz.prog 107 (N107 f107)) (h112 : OK Proofs.Tryz.prog 112 (N112 f112)) (h176 : OK Proofs.Tryz.prog 176 (N176 f176)) : OK Proofs.Tryz.prog 143 (mkE p143 r143 false (F143 f74 f111 f107 f112 f176)) :=
  fn_ok (E := E143 f74 f111 f107 f112 f176) tab_ok2 (envL_ok (OKs.cons h74 (OKs.cons h111 (OKs.cons h107 (OKs.cons h112 (OKs.cons h176 OKs.nil)))))) mixed2 (ann := (fun _ => false)) (L := L143 f74 f111 f107 f112 f176) (fn := Proofs.Tryz.f143) (c := bodyC Proofs.Tryz.f143) (ls := []) Proofs.Tryz.func143 (by kernel_rfl) (by kernel_rfl) (by kernel_rfl) (by kernel_rfl)
    LoopsP.nil (e143 f74 f111 f107 f112 f176)
/-! impl.PlaceAt -/
def p109 : List SP := [.t .jet, .one (.int .i64)]
def r109 : List SP := [.t .place, .one (.bool)]
abbrev T109 := Jet × Int × Unit → Option (Place × Bool × Unit)
abbrev N109 (f : T109) : Entry := mkE p109 r109 false f
noncomputable def F109 (f142 : T142) (f143 : T143) (a : Jet × Int × Unit) : Option (Place × Bool × Unit) :=
  (f142 (a.1, a.2.1, ())).bind fun x1 => cond (!x1.1) (some ((⟨0, 0⟩ : Place), false, ())) ((f143 (a.1.At, a.1.Heading, (w64 (a.2.1 * a.1.Tilt)), ())).bind fun x2 => some (x2.1, x2.2.1, ()))
def E109 (f142 : T142) (f143 : T143) : Env := envL [(142, N142 f142), (143, N143 f143)]
noncomputable def L109 (f142 : T142) (f143 : T143) : LEnv (densS (muts p109 ++ r109)) := lenv []
theorem e109 (f142 : T142) (f143 : T143) (a : densS p109) : runF (E109 f142 f143) tab2 (fun _ => false) p109 r109 Proofs.Tryz.f109 (L109 f142 f143) a = F109 f142 f143 a := by kernel_rfl
theorem ok109 {f142 : T142} {f143 : T143} (h142 : OK Proofs.Tryz.prog 142 (N142 f142)) (h143 : OK Proofs.Tryz.prog 143 (N143 f143)) : OK Proofs.Tryz.prog 109 (mkE p109 r109 false (F109 f142 f143)) :=
  fn_ok (E := E109 f142 f143) tab_ok2 (envL_ok (OKs.cons h142 (OKs.cons h143 OKs.nil))) mixed2 (ann := (fun _ => false)) (L := L109 f142 f143) (fn := Proofs.Tryz.f109) (c := bodyC Proofs.Tryz.f109) (ls := []) Proofs.Tryz.func109 (by kernel_rfl) (by kernel_rfl) (by kernel_rfl) (by kernel_rfl)
    LoopsP.nil (e109 f142 f143)
/-! impl.LandingOf -/
def p76 : List SP := [.t .jet]
def r76 : List SP := [.t .place, .one (.bool)]
abbrev T76 := Jet × Unit → Option (Place × Bool × Unit)
abbrev N76 (f : T76) : Entry := mkE p76 r76 false f
noncomputable def F76 (f77 : T77) (f109 : T109) (a : Jet × Unit) : Option (Place × Bool × Unit) :=
  (f77 (a.1, ())).bind fun x1 => (f109 (a.1, x1.1, ())).bind fun x2 => some (x2.1, x2.2.1, ())
def E76 (f77 : T77) (f109 : T109) : Env := envL [(77, N77 f77), (109, N109 f109)]
noncomputable def L76 (f77 : T77) (f109 : T109) : LEnv (densS (muts p76 ++ r76)) := lenv []
theorem e76 (f77 : T77) (f109 : T109) (a : densS p76) : runF (E76 f77 f109) tab2 (fun _ => false) p76 r76 Proofs.Tryz.f76 (L76 f77 f109) a = F76 f77 f109 a := by kernel_rfl
theorem ok76 {f77 : T77} {f109 : T109} (h77 : OK Proofs.Tryz.prog 77 (N77 f77)) (h109 : OK Proofs.Tryz.prog 109 (N109 f109)) : OK Proofs.Tryz.prog 76 (mkE p76 r76 false (F76 f77 f109)) :=
  fn_ok (E := E76 f77 f109) tab_ok2 (envL_ok (OKs.cons h77 (OKs.cons h109 OKs.nil))) mixed2 (ann := (fun _ => false)) (L := L76 f77 f109) (fn := Proofs.Tryz.f76) (c := bodyC Proofs.Tryz.f76) (ls := []) Proofs.Tryz.func76 (by kernel_rfl) (by kernel_rfl) (by kernel_rfl) (by kernel_rfl)
    LoopsP.nil (e76 f77 f109)
/-! impl.WorstDrift -/
def p78 : List SP := [.one (.r .place), .one (.int .i64)]
def r78 : List SP := [.t .place]
abbrev T78 := List Place × Int × Unit → Option (Place × Unit)
abbrev N78 (f : T78) : Entry := mkE p78 r78 false f
def q78_0 : List SP := pat 40 0 [(1, .one (.int .i64)), (4, .boxt 5000001 .place), (5, .boxt 5000002 .place), (20, .one (.r .place)), (21, .one (.int .i64)), (22, .one (.int .i64))]
noncomputable def s78_0 (f36 : T36) (f111 : T111) (f112 : T112) (t4 : Int × Place × Place × List Place × Int × Int × Unit) (rec K : Int × Place × Place × List Place × Int × Int × Unit → Option (Place × Unit)) : Option (Place × Unit) :=
  cond (decide (t4.2.2.2.2.2.1 < t4.2.2.2.2.1)) (rdL t4.2.2.2.1 t4.2.2.2.2.2.1 fun d5 => (f112 (d5, (w64 (0 - t4.1)), ())).bind fun x6 => (f112 (t4.2.2.1, (w64 (0 - t4.1)), ())).bind fun x7 => cond (decide (x6.1.X > x7.1.X)) (rec (t4.1, t4.2.1, d5, t4.2.2.2.1, t4.2.2.2.2.1, (w64 (t4.2.2.2.2.2.1 + 1)), ())) (rec (t4.1, t4.2.1, t4.2.2.1, t4.2.2.2.1, t4.2.2.2.2.1, (w64 (t4.2.2.2.2.2.1 + 1)), ()))) (K (t4.1, t4.2.1, t4.2.2.1, t4.2.2.2.1, t4.2.2.2.2.1, t4.2.2.2.2.2.1, ()))
noncomputable def F78 (f36 : T36) (f111 : T111) (f112 : T112) (a : List Place × Int × Unit) : Option (Place × Unit) :=
  (f36 (a.1, ())).bind fun x1 => cond (!(!x1.1)) ((f111 (a.2.1, ())).bind fun x2 => cond (!x2.1) (some ((⟨0, 0⟩ : Place), ())) (rdL a.1 0 fun d3 => iterF (s78_0 f36 f111 f112) fuel (a.2.1, (⟨0, 0⟩ : Place), d3, a.1, (Int.ofNat (List.length a.1)), 0, ()) fun t8 => some (t8.2.2.1, ()))) (some ((⟨0, 0⟩ : Place), ()))
def E78 (f36 : T36) (f111 : T111) (f112 : T112) : Env := envL [(36, N36 f36), (111, N111 f111), (112, N112 f112)]
noncomputable def L78 (f36 : T36) (f111 : T111) (f112 : T112) : LEnv (densS (muts p78 ++ r78)) := lenv [(0, loopL (R := densS (muts p78 ++ r78)) q78_0 (s78_0 f36 f111 f112))]
theorem e78_0 (f36 : T36) (f111 : T111) (f112 : T112) (X : Nat → St → Option (densS (muts p78 ++ r78))) (rec K : densS q78_0 → Option (densS (muts p78 ++ r78))) (t : densS q78_0) :
    ev (E78 f36 f111 f112) tab2 (fun _ => false) (L78 f36 f111 f112) (retK tab2 p78 r78 Proofs.Tryz.f78.results.toList) (loopC Proofs.Tryz.f78 0) (fun i s => cond (Nat.beq i 0) (decK 100 q78_0 s K) (X i s)) (fun s => decK 100 q78_0 s rec) (enc q78_0 t) = s78_0 f36 f111 f112 t rec K := by kernel_rfl
theorem e78 (f36 : T36) (f111 : T111) (f112 : T112) (a : densS p78) : runF (E78 f36 f111 f112) tab2 (fun _ => false) p78 r78 Proofs.Tryz.f78 (L78 f36 f111 f112) a = F78 f36 f111 f112 a := by kernel_rfl
theorem ok78 {f36 : T36} {f111 : T111} {f112 : T112} (h36 : OK Proofs.Tryz.prog 36 (N36 f36)) (h111 : OK Proofs.Tryz.prog 111 (N111 f111)) (h112 : OK Proofs.Tryz.prog 112 (N112 f112)) : OK Proofs.Tryz.prog 78 (mkE p78 r78 false (F78 f36 f111 f112)) :=
  fn_ok (E := E78 f36 f111 f112) tab_ok2 (envL_ok (OKs.cons h36 (OKs.cons h111 (OKs.cons h112 OKs.nil)))) mixed2 (ann := (fun _ => false)) (L := L78 f36 f111 f112) (fn := Proofs.Tryz.f78) (c := bodyC Proofs.Tryz.f78) (ls := [(0, loopC Proofs.Tryz.f78 0)]) Proofs.Tryz.func78 (by kernel_rfl) (by kernel_rfl) (by kernel_rfl) (by kernel_rfl)
    (LoopsP.cons q78_0 (s78_0 f36 f111 f112) rfl (e78_0 f36 f111 f112) LoopsP.nil) (e78 f36 f111 f112)
/-! impl.beyond -/
def p79 : List SP := [.t .place, .t .box, .one (.int .i64)]
def r79 : List SP := [.one (.bool)]
abbrev T79 := Place × Box × Int × Unit → Option (Bool × Unit)
abbrev N79 (f : T79) : Entry := mkE p79 r79 false f
noncomputable def F79 (a : Place × Box × Int × Unit) : Option (Bool × Unit) :=
  cond (decide (a.2.2.1 = 0)) (some ((decide (a.1.X > a.2.1.High.X)), ())) (cond (decide (a.2.2.1 = 1)) (some ((decide (a.1.Y > a.2.1.High.Y)), ())) (cond (decide (a.2.2.1 = 2)) (some ((decide (a.1.X < a.2.1.Low.X)), ())) (some ((decide (a.1.Y < a.2.1.Low.Y)), ()))))
def E79 : Env := envL []
noncomputable def L79 : LEnv (densS (muts p79 ++ r79)) := lenv []
theorem e79 (a : densS p79) : runF (E79) tab2 (fun _ => false) p79 r79 Proofs.Tryz.f79 (L79) a = F79 a := by kernel_rfl
theorem ok79 : OK Proofs.Tryz.prog 79 (mkE p79 r79 false (F79)) :=
  fn_ok (E := E79) tab_ok2 (envL_ok OKs.nil) mixed2 (ann := (fun _ => false)) (L := L79) (fn := Proofs.Tryz.f79) (c := bodyC Proofs.Tryz.f79) (ls := []) Proofs.Tryz.func79 (by kernel_rfl) (by kernel_rfl) (by kernel_rfl) (by kernel_rfl)
    LoopsP.nil (e79)
/-! impl.wetDrop -/
def p38 : List SP := [.agg [.r .device, .r .cue, .r .gust, .int .i64], .one (.r .place), .t .box]
def r38 : List SP := [.t .throw, .t .place, .t .place, .one (.bool)]
abbrev T38 := ShD × List Place × Box × Unit → Option (Throw × Place × Place × Bool × Unit)
abbrev N38 (f : T38) : Entry := mkE p38 r38 false f
def q38_2 : List SP := pat 78 0 [(1, .one (.r .place)), (5, .boxt 5002001 .box), (6, .boxt 5002002 .throw), (7, .boxt 5002003 .place), (8, .boxt 5002004 .place), (11, .boxt 5002005 .throw), (12, .boxt 5002006 .place), (14, .one (.int .i64)), (30, .one (.o 5002007 .throw)), (31, .one (.int .i64)), (32, .one (.int .i64)), (45, .one (.int .i64))]
noncomputable def s38_2 (f36 : T36) (f37 : T37) (f75 : T75) (f76 : T76) (f77 : T77) (f78 : T78) (f79 : T79) (t8 : List Place × Box × Throw × Place × Place × Throw × Place × Int × List Throw × Int × Int × Int × Unit) (rec K : List Place × Box × Throw × Place × Place × Throw × Place × Int × List Throw × Int × Int × Int × Unit → Option (Throw × Place × Place × Bool × Unit)) : Option (Throw × Place × Place × Bool × Unit) :=
  cond (decide (t8.2.2.2.2.2.2.2.2.2.2.2.1 < 4)) ((f78 (t8.1, t8.2.2.2.2.2.2.2.2.2.2.2.1, ())).bind fun x9 => (f79 ((⟨(w64 (t8.2.2.2.2.2.2.1.X + (w64 (t8.2.2.2.2.2.2.2.1 * x9.1.X)))), (w64 (t8.2.2.2.2.2.2.1.Y + (w64 (t8.2.2.2.2.2.2.2.1 * x9.1.Y))))⟩ : Place), t8.2.1, t8.2.2.2.2.2.2.2.2.2.2.2.1, ())).bind fun x10 => cond x10.1 (some (t8.2.2.2.2.2.1, (⟨(w64 (t8.2.2.2.2.2.2.1.X + (w64 (t8.2.2.2.2.2.2.2.1 * x9.1.X)))), (w64 (t8.2.2.2.2.2.2.1.Y + (w64 (t8.2.2.2.2.2.2.2.1 * x9.1.Y))))⟩ : Place), x9.1, true, ())) (rec (t8.1, t8.2.1, t8.2.2.1, t8.2.2.2.1, t8.2.2.2.2.1, t8.2.2.2.2.2.1, t8.2.2.2.2.2.2.1, t8.2.2.2.2.2.2.2.1, t8.2.2.2.2.2.2.2.2.1, t8.2.2.2.2.2.2.2.2.2.1, t8.2.2.2.2.2.2.2.2.2.2.1, (w64 (t8.2.2.2.2.2.2.2.2.2.2.2.1 + 1)), ()))) (K (t8.1, t8.2.1, t8.2.2.1, t8.2.2.2.1, t8.2.2.2.2.1, t8.2.2.2.2.2.1, t8.2.2.2.2.2.2.1, t8.2.2.2.2.2.2.2.1, t8.2.2.2.2.2.2.2.2.1, t8.2.2.2.2.2.2.2.2.2.1, t8.2.2.2.2.2.2.2.2.2.2.1, t8.2.2.2.2.2.2.2.2.2.2.2.1, ()))
def q38_0 : List SP := pat 78 0 [(1, .one (.r .place)), (5, .boxt 5000001 .box), (6, .boxt 5000002 .throw), (7, .boxt 5000003 .place), (8, .boxt 5000004 .place), (30, .one (.o 5000005 .throw)), (31, .one (.int .i64)), (32, .one (.int .i64))]
noncomputable def s38_0 (f36 : T36) (f37 : T37) (f75 : T75) (f76 : T76) (f77 : T77) (f78 : T78) (f79 : T79) (t4 : List Place × Box × Throw × Place × Place × List Throw × Int × Int × Unit) (rec K : List Place × Box × Throw × Place × Place × List Throw × Int × Int × Unit → Option (Throw × Place × Place × Bool × Unit)) : Option (Throw × Place × Place × Bool × Unit) :=
  cond (decide (t4.2.2.2.2.2.2.2.1 < t4.2.2.2.2.2.2.1)) (rdL t4.2.2.2.2.2.1 t4.2.2.2.2.2.2.2.1 fun _ => (t4.2.2.2.2.2.1[(Int.toNat t4.2.2.2.2.2.2.2.1)]?).bind fun d5 => (f76 (d5.jet, ())).bind fun x6 => (f77 (d5.jet, ())).bind fun x7 => iterF (s38_2 f36 f37 f75 f76 f77 f78 f79) fuel (t4.1, t4.2.1, t4.2.2.1, t4.2.2.2.1, t4.2.2.2.2.1, d5, x6.1, x7.1, t4.2.2.2.2.2.1, t4.2.2.2.2.2.2.1, t4.2.2.2.2.2.2.2.1, 0, ()) fun t11 => rec (t11.1, t11.2.1, t11.2.2.1, t11.2.2.2.1, t11.2.2.2.2.1, t11.2.2.2.2.2.2.2.2.1, t11.2.2.2.2.2.2.2.2.2.1, (w64 (t11.2.2.2.2.2.2.2.2.2.2.1 + 1)), ())) (K (t4.1, t4.2.1, t4.2.2.1, t4.2.2.2.1, t4.2.2.2.2.1, t4.2.2.2.2.2.1, t4.2.2.2.2.2.2.1, t4.2.2.2.2.2.2.2.1, ()))
noncomputable def F38 (f36 : T36) (f37 : T37) (f75 : T75) (f76 : T76) (f77 : T77) (f78 : T78) (f79 : T79) (a : ShD × List Place × Box × Unit) : Option (Throw × Place × Place × Bool × Unit) :=
  (f36 (a.2.1, ())).bind fun x1 => cond (!(!x1.1)) ((f37 (a.2.2.1, ())).bind fun x2 => cond (!x2.1) (some ((⟨[], 0, ⟨⟨0, 0⟩, 0, 0, 0⟩⟩ : Throw), (⟨0, 0⟩ : Place), (⟨0, 0⟩ : Place), false, ())) ((f75 ((a.1.1, a.1.2.1, a.1.2.2.1, a.1.2.2.2.1, ()), ())).bind fun x3 => iterF (s38_0 f36 f37 f75 f76 f77 f78 f79) fuel (a.2.1, a.2.2.1, (⟨[], 0, ⟨⟨0, 0⟩, 0, 0, 0⟩⟩ : Throw), (⟨0, 0⟩ : Place), (⟨0, 0⟩ : Place), x3.1, (Int.ofNat (List.length x3.1)), 0, ()) fun t12 => some ((⟨[], 0, ⟨⟨0, 0⟩, 0, 0, 0⟩⟩ : Throw), (⟨0, 0⟩ : Place), (⟨0, 0⟩ : Place), false, ()))) (some ((⟨[], 0, ⟨⟨0, 0⟩, 0, 0, 0⟩⟩ : Throw), (⟨0, 0⟩ : Place), (⟨0, 0⟩ : Place), false, ()))
def E38 (f36 : T36) (f37 : T37) (f75 : T75) (f76 : T76) (f77 : T77) (f78 : T78) (f79 : T79) : Env := envL [(36, N36 f36), (37, N37 f37), (75, N75 f75), (76, N76 f76), (77, N77 f77), (78, N78 f78), (79, N79 f79)]
noncomputable def L38 (f36 : T36) (f37 : T37) (f75 : T75) (f76 : T76) (f77 : T77) (f78 : T78) (f79 : T79) : LEnv (densS (muts p38 ++ r38)) := lenv [(0, loopL (R := densS (muts p38 ++ r38)) q38_0 (s38_0 f36 f37 f75 f76 f77 f78 f79)), (2, loopL (R := densS (muts p38 ++ r38)) q38_2 (s38_2 f36 f37 f75 f76 f77 f78 f79))]
theorem e38_0 (f36 : T36) (f37 : T37) (f75 : T75) (f76 : T76) (f77 : T77) (f78 : T78) (f79 : T79) (X : Nat → St → Option (densS (muts p38 ++ r38))) (rec K : densS q38_0 → Option (densS (muts p38 ++ r38))) (t : densS q38_0) :
    ev (E38 f36 f37 f75 f76 f77 f78 f79) tab2 (fun n => Nat.beq n 2499999 || Nat.beq n 7402002 || Nat.beq n 7402003) (L38 f36 f37 f75 f76 f77 f78 f79) (retK tab2 p38 r38 Proofs.Tryz.f38.results.toList) (loopC Proofs.Tryz.f38 0) (fun i s => cond (Nat.beq i 0) (decK 100 q38_0 s K) (X i s)) (fun s => decK 100 q38_0 s rec) (enc q38_0 t) = s38_0 f36 f37 f75 f76 f77 f78 f79 t rec K := by kernel_rfl
theorem e38_2 (f36 : T36) (f37 : T37) (f75 : T75) (f76 : T76) (f77 : T77) (f78 : T78) (f79 : T79) (X : Nat → St → Option (densS (muts p38 ++ r38))) (rec K : densS q38_2 → Option (densS (muts p38 ++ r38))) (t : densS q38_2) :
    ev (E38 f36 f37 f75 f76 f77 f78 f79) tab2 (fun n => Nat.beq n 2499999 || Nat.beq n 7402002 || Nat.beq n 7402003) (L38 f36 f37 f75 f76 f77 f78 f79) (retK tab2 p38 r38 Proofs.Tryz.f38.results.toList) (loopC Proofs.Tryz.f38 1) (fun i s => cond (Nat.beq i 2) (decK 100 q38_2 s K) (X i s)) (fun s => decK 100 q38_2 s rec) (enc q38_2 t) = s38_2 f36 f37 f75 f76 f77 f78 f79 t rec K := by kernel_rfl
theorem e38 (f36 : T36) (f37 : T37) (f75 : T75) (f76 : T76) (f77 : T77) (f78 : T78) (f79 : T79) (a : densS p38) : runF (E38 f36 f37 f75 f76 f77 f78 f79) tab2 (fun n => Nat.beq n 2499999 || Nat.beq n 7402002 || Nat.beq n 7402003) p38 r38 Proofs.Tryz.f38 (L38 f36 f37 f75 f76 f77 f78 f79) a = F38 f36 f37 f75 f76 f77 f78 f79 a := by kernel_rfl
theorem ok38 {f36 : T36} {f37 : T37} {f75 : T75} {f76 : T76} {f77 : T77} {f78 : T78} {f79 : T79} (h36 : OK Proofs.Tryz.prog 36 (N36 f36)) (h37 : OK Proofs.Tryz.prog 37 (N37 f37)) (h75 : OK Proofs.Tryz.prog 75 (N75 f75)) (h76 : OK Proofs.Tryz.prog 76 (N76 f76)) (h77 : OK Proofs.Tryz.prog 77 (N77 f77)) (h78 : OK Proofs.Tryz.prog 78 (N78 f78)) (h79 : OK Proofs.Tryz.prog 79 (N79 f79)) : OK Proofs.Tryz.prog 38 (mkE p38 r38 false (F38 f36 f37 f75 f76 f77 f78 f79)) :=
  fn_ok (E := E38 f36 f37 f75 f76 f77 f78 f79) tab_ok2 (envL_ok (OKs.cons h36 (OKs.cons h37 (OKs.cons h75 (OKs.cons h76 (OKs.cons h77 (OKs.cons h78 (OKs.cons h79 OKs.nil)))))))) mixed2 (ann := (fun n => Nat.beq n 2499999 || Nat.beq n 7402002 || Nat.beq n 7402003)) (L := L38 f36 f37 f75 f76 f77 f78 f79) (fn := Proofs.Tryz.f38) (c := bodyC Proofs.Tryz.f38) (ls := [(0, loopC Proofs.Tryz.f38 0), (2, loopC Proofs.Tryz.f38 1)]) Proofs.Tryz.func38 (by kernel_rfl) (by kernel_rfl) (by kernel_rfl) (by kernel_rfl)
    (LoopsP.cons q38_0 (s38_0 f36 f37 f75 f76 f77 f78 f79) rfl (e38_0 f36 f37 f75 f76 f77 f78 f79) (LoopsP.cons q38_2 (s38_2 f36 f37 f75 f76 f77 f78 f79) rfl (e38_2 f36 f37 f75 f76 f77 f78 f79) LoopsP.nil)) (e38 f36 f37 f75 f76 f77 f78 f79)
/-! impl.FormatNumber -/
def p39 : List SP := [.one (.int .i64)]
def r39 : List SP := [.one (.str)]
abbrev T39 := Int × Unit → Option (Str × Unit)
abbrev N39 (f : T39) : Entry := mkE p39 r39 false f
noncomputable def F39 (f80 : T80) (a : Int × Unit) : Option (Str × Unit) :=
  (f80 (a.1, ())).bind fun x1 => some (x1.1, ())
def E39 (f80 : T80) : Env := envL [(80, N80 f80)]
noncomputable def L39 (f80 : T80) : LEnv (densS (muts p39 ++ r39)) := lenv []
theorem e39 (f80 : T80) (a : densS p39) : runF (E39 f80) tab2 (fun _ => false) p39 r39 Proofs.Tryz.f39 (L39 f80) a = F39 f80 a := by kernel_rfl
theorem ok39 {f80 : T80} (h80 : OK Proofs.Tryz.prog 80 (N80 f80)) : OK Proofs.Tryz.prog 39 (mkE p39 r39 false (F39 f80)) :=
  fn_ok (E := E39 f80) tab_ok2 (envL_ok (OKs.cons h80 OKs.nil)) mixed2 (ann := (fun _ => false)) (L := L39 f80) (fn := Proofs.Tryz.f39) (c := bodyC Proofs.Tryz.f39) (ls := []) Proofs.Tryz.func39 (by kernel_rfl) (by kernel_rfl) (by kernel_rfl) (by kernel_rfl)
    LoopsP.nil (e39 f80)
/-! impl.FormatMeasure -/
def p81 : List SP := [.one (.int .i64)]
def r81 : List SP := [.one (.str)]
abbrev T81 := Int × Unit → Option (Str × Unit)
abbrev N81 (f : T81) : Entry := mkE p81 r81 false f
noncomputable def F81 (f107 : T107) (f39 : T39) (f114 : T114) (a : Int × Unit) : Option (Str × Unit) :=
  (f107 (a.1, ())).bind fun x1 => cond (!x1.1) (some ([], ())) (cond (decide (a.1 < 0)) ((f39 ((w64 (Int.tdiv (w64 (0 - a.1)) 8)), ())).bind fun x2 => capK (List.length [45] + List.length x2.1) (cond (decide ((Int.tmod (w64 (0 - a.1)) 8) > 0)) ((f39 ((w64 (1000 + (w64 ((Int.tmod (w64 (0 - a.1)) 8) * 125)))), ())).bind fun x3 => okIf ((0 : Int) ≤ 1 ∧ (1 : Int) ≤ List.length x3.1) ((f114 ((List.drop (Int.toNat 1) x3.1), [48], ())).bind fun x4 => capK (List.length [46] + List.length x4.1) (capK (List.length ([45] ++ x2.1) + List.length ([46] ++ x4.1)) (some ((([45] ++ x2.1) ++ ([46] ++ x4.1)), ()))))) (some (([45] ++ x2.1), ())))) ((f39 ((w64 (Int.tdiv a.1 8)), ())).bind fun x5 => capK (List.length ([] : Str) + List.length x5.1) (cond (decide ((Int.tmod a.1 8) > 0)) ((f39 ((w64 (1000 + (w64 ((Int.tmod a.1 8) * 125)))), ())).bind fun x6 => okIf ((0 : Int) ≤ 1 ∧ (1 : Int) ≤ List.length x6.1) ((f114 ((List.drop (Int.toNat 1) x6.1), [48], ())).bind fun x7 => capK (List.length [46] + List.length x7.1) (capK (List.length (([] : Str) ++ x5.1) + List.length ([46] ++ x7.1)) (some (((([] : Str) ++ x5.1) ++ ([46] ++ x7.1)), ()))))) (some ((([] : Str) ++ x5.1), ())))))
def E81 (f107 : T107) (f39 : T39) (f114 : T114) : Env := envL [(107, N107 f107), (39, N39 f39), (114, N114 f114)]
noncomputable def L81 (f107 : T107) (f39 : T39) (f114 : T114) : LEnv (densS (muts p81 ++ r81)) := lenv []
theorem e81 (f107 : T107) (f39 : T39) (f114 : T114) (a : densS p81) : runF (E81 f107 f39 f114) tab2 (fun _ => false) p81 r81 Proofs.Tryz.f81 (L81 f107 f39 f114) a = F81 f107 f39 f114 a := by kernel_rfl
theorem ok81 {f107 : T107} {f39 : T39} {f114 : T114} (h107 : OK Proofs.Tryz.prog 107 (N107 f107)) (h39 : OK Proofs.Tryz.prog 39 (N39 f39)) (h114 : OK Proofs.Tryz.prog 114 (N114 f114)) : OK Proofs.Tryz.prog 81 (mkE p81 r81 false (F81 f107 f39 f114)) :=
  fn_ok (E := E81 f107 f39 f114) tab_ok2 (envL_ok (OKs.cons h107 (OKs.cons h39 (OKs.cons h114 OKs.nil)))) mixed2 (ann := (fun _ => false)) (L := L81 f107 f39 f114) (fn := Proofs.Tryz.f81) (c := bodyC Proofs.Tryz.f81) (ls := []) Proofs.Tryz.func81 (by kernel_rfl) (by kernel_rfl) (by kernel_rfl) (by kernel_rfl)
    LoopsP.nil (e81 f107 f39 f114)
/-! impl.FormatPlace -/
def p40 : List SP := [.t .place]
def r40 : List SP := [.one (.str)]
abbrev T40 := Place × Unit → Option (Str × Unit)
abbrev N40 (f : T40) : Entry := mkE p40 r40 false f
noncomputable def F40 (f74 : T74) (f81 : T81) (a : Place × Unit) : Option (Str × Unit) :=
  (f74 (a.1, ())).bind fun x1 => cond (!x1.1) (some ([], ())) (cond (decide (a.1.Y < 0)) ((f81 (a.1.X, ())).bind fun x2 => capK (List.length x2.1 + List.length ([] : Str)) ((f81 (a.1.Y, ())).bind fun x3 => capK (List.length (x2.1 ++ ([] : Str)) + List.length x3.1) (capK (List.length ((x2.1 ++ ([] : Str)) ++ x3.1) + List.length [105]) (some ((((x2.1 ++ ([] : Str)) ++ x3.1) ++ [105]), ()))))) ((f81 (a.1.X, ())).bind fun x4 => capK (List.length x4.1 + List.length [43]) ((f81 (a.1.Y, ())).bind fun x5 => capK (List.length (x4.1 ++ [43]) + List.length x5.1) (capK (List.length ((x4.1 ++ [43]) ++ x5.1) + List.length [105]) (some ((((x4.1 ++ [43]) ++ x5.1) ++ [105]), ()))))))
def E40 (f74 : T74) (f81 : T81) : Env := envL [(74, N74 f74), (81, N81 f81)]
noncomputable def L40 (f74 : T74) (f81 : T81) : LEnv (densS (muts p40 ++ r40)) := lenv []
theorem e40 (f74 : T74) (f81 : T81) (a : densS p40) : runF (E40 f74 f81) tab2 (fun _ => false) p40 r40 Proofs.Tryz.f40 (L40 f74 f81) a = F40 f74 f81 a := by kernel_rfl
theorem ok40 {f74 : T74} {f81 : T81} (h74 : OK Proofs.Tryz.prog 74 (N74 f74)) (h81 : OK Proofs.Tryz.prog 81 (N81 f81)) : OK Proofs.Tryz.prog 40 (mkE p40 r40 false (F40 f74 f81)) :=
  fn_ok (E := E40 f74 f81) tab_ok2 (envL_ok (OKs.cons h74 (OKs.cons h81 OKs.nil))) mixed2 (ann := (fun _ => false)) (L := L40 f74 f81) (fn := Proofs.Tryz.f40) (c := bodyC Proofs.Tryz.f40) (ls := []) Proofs.Tryz.func40 (by kernel_rfl) (by kernel_rfl) (by kernel_rfl) (by kernel_rfl)
    LoopsP.nil (e40 f74 f81)
/-! impl.SafetyLine -/
def p11 : List SP := [.agg [.r .device, .r .cue, .r .gust, .int .i64], .one (.r .place), .t .box]
def r11 : List SP := [.one (.str)]
abbrev T11 := ShD × List Place × Box × Unit → Option (Str × Unit)
abbrev N11 (f : T11) : Entry := mkE p11 r11 false f
noncomputable def F11 (f35 : T35) (f36 : T36) (f37 : T37) (f38 : T38) (f39 : T39) (f40 : T40) (a : ShD × List Place × Box × Unit) : Option (Str × Unit) :=
  (f35 ((a.1.1, a.1.2.1, a.1.2.2.1, a.1.2.2.2.1, ()), ())).bind fun x1 => cond (!(!x1.1)) ((f36 (a.2.1, ())).bind fun x2 => cond (!(!x2.1)) ((f37 (a.2.2.1, ())).bind fun x3 => cond (!x3.1) (some ([110, 111, 116, 104, 105, 110, 103, 32, 116, 111, 32, 115, 97, 121], ())) ((f38 ((a.1.1, a.1.2.1, a.1.2.2.1, a.1.2.2.2.1, ()), a.2.1, a.2.2.1, ())).bind fun x4 => cond (!x4.2.2.2.1) (some ([115, 97, 102, 101], ())) (capK (List.length [119, 101, 116, 58, 32] + List.length x4.1.name) (capK (List.length ([119, 101, 116, 58, 32] ++ x4.1.name) + List.length [32, 97, 116, 32]) ((f39 (x4.1.born, ())).bind fun x5 => capK (List.length (([119, 101, 116, 58, 32] ++ x4.1.name) ++ [32, 97, 116, 32]) + List.length x5.1) (capK (List.length ((([119, 101, 116, 58, 32] ++ x4.1.name) ++ [32, 97, 116, 32]) ++ x5.1) + List.length [32, 108, 97, 110, 100, 115, 32, 97, 116, 32]) ((f40 (x4.2.1, ())).bind fun x6 => capK (List.length (((([119, 101, 116, 58, 32] ++ x4.1.name) ++ [32, 97, 116, 32]) ++ x5.1) ++ [32, 108, 97, 110, 100, 115, 32, 97, 116, 32]) + List.length x6.1) (capK (List.length ((((([119, 101, 116, 58, 32] ++ x4.1.name) ++ [32, 97, 116, 32]) ++ x5.1) ++ [32, 108, 97, 110, 100, 115, 32, 97, 116, 32]) ++ x6.1) + List.length [32, 105, 110, 32]) ((f40 (x4.2.2.1, ())).bind fun x7 => capK (List.length (((((([119, 101, 116, 58, 32] ++ x4.1.name) ++ [32, 97, 116, 32]) ++ x5.1) ++ [32, 108, 97, 110, 100, 115, 32, 97, 116, 32]) ++ x6.1) ++ [32, 105, 110, 32]) + List.length x7.1) (some (((((((([119, 101, 116, 58, 32] ++ x4.1.name) ++ [32, 97, 116, 32]) ++ x5.1) ++ [32, 108, 97, 110, 100, 115, 32, 97, 116, 32]) ++ x6.1) ++ [32, 105, 110, 32]) ++ x7.1), ()))))))))))) (some ([110, 111, 116, 104, 105, 110, 103, 32, 116, 111, 32, 115, 97, 121], ()))) (some ([110, 111, 116, 104, 105, 110, 103, 32, 116, 111, 32, 115, 97, 121], ()))
def E11 (f35 : T35) (f36 : T36) (f37 : T37) (f38 : T38) (f39 : T39) (f40 : T40) : Env := envL [(35, N35 f35), (36, N36 f36), (37, N37 f37), (38, N38 f38), (39, N39 f39), (40, N40 f40)]
noncomputable def L11 (f35 : T35) (f36 : T36) (f37 : T37) (f38 : T38) (f39 : T39) (f40 : T40) : LEnv (densS (muts p11 ++ r11)) := lenv []
theorem e11 (f35 : T35) (f36 : T36) (f37 : T37) (f38 : T38) (f39 : T39) (f40 : T40) (a : densS p11) : runF (E11 f35 f36 f37 f38 f39 f40) tab2 (fun _ => false) p11 r11 Proofs.Tryz.f11 (L11 f35 f36 f37 f38 f39 f40) a = F11 f35 f36 f37 f38 f39 f40 a := by kernel_rfl
theorem ok11 {f35 : T35} {f36 : T36} {f37 : T37} {f38 : T38} {f39 : T39} {f40 : T40} (h35 : OK Proofs.Tryz.prog 35 (N35 f35)) (h36 : OK Proofs.Tryz.prog 36 (N36 f36)) (h37 : OK Proofs.Tryz.prog 37 (N37 f37)) (h38 : OK Proofs.Tryz.prog 38 (N38 f38)) (h39 : OK Proofs.Tryz.prog 39 (N39 f39)) (h40 : OK Proofs.Tryz.prog 40 (N40 f40)) : OK Proofs.Tryz.prog 11 (mkE p11 r11 false (F11 f35 f36 f37 f38 f39 f40)) :=
  fn_ok (E := E11 f35 f36 f37 f38 f39 f40) tab_ok2 (envL_ok (OKs.cons h35 (OKs.cons h36 (OKs.cons h37 (OKs.cons h38 (OKs.cons h39 (OKs.cons h40 OKs.nil))))))) mixed2 (ann := (fun _ => false)) (L := L11 f35 f36 f37 f38 f39 f40) (fn := Proofs.Tryz.f11) (c := bodyC Proofs.Tryz.f11) (ls := []) Proofs.Tryz.func11 (by kernel_rfl) (by kernel_rfl) (by kernel_rfl) (by kernel_rfl)
    LoopsP.nil (e11 f35 f36 f37 f38 f39 f40)
/-! impl.changes -/
def p46 : List SP := [.one (.r .gust)]
def r46 : List SP := [.one (.o 0 .gust)]
abbrev T46 := List Gust × Unit → Option (List Gust × Unit)
abbrev N46 (f : T46) : Entry := mkE p46 r46 false f
def q46_0 : List SP := pat 27 0 [(3, .one (.o 5000001 .gust)), (4, .boxt 5000002 .place), (9, .one (.r .gust)), (10, .one (.int .i64)), (11, .one (.int .i64))]
noncomputable def s46_0 (t1 : List Gust × Place × List Gust × Int × Int × Unit) (rec K : List Gust × Place × List Gust × Int × Int × Unit → Option (List Gust × Unit)) : Option (List Gust × Unit) :=
  cond (decide (t1.2.2.2.2.1 < t1.2.2.2.1)) (rdL t1.2.2.1 t1.2.2.2.2.1 fun d2 => cond (!(decide (d2.Drift.X = t1.2.1.X) && (decide (d2.Drift.Y = t1.2.1.Y) && true))) (capK (List.length t1.1 + List.length ([d2] : List Gust)) (rec ((t1.1 ++ ([d2] : List Gust)), d2.Drift, t1.2.2.1, t1.2.2.2.1, (w64 (t1.2.2.2.2.1 + 1)), ()))) (rec (t1.1, t1.2.1, t1.2.2.1, t1.2.2.2.1, (w64 (t1.2.2.2.2.1 + 1)), ()))) (K (t1.1, t1.2.1, t1.2.2.1, t1.2.2.2.1, t1.2.2.2.2.1, ()))
noncomputable def F46 (a : List Gust × Unit) : Option (List Gust × Unit) :=
  iterF (s46_0) fuel (([] : List Gust), (⟨0, 0⟩ : Place), a.1, (Int.ofNat (List.length a.1)), 0, ()) fun t3 => some (t3.1, ())
def E46 : Env := envL []
noncomputable def L46 : LEnv (densS (muts p46 ++ r46)) := lenv [(0, loopL (R := densS (muts p46 ++ r46)) q46_0 (s46_0))]
theorem e46_0 (X : Nat → St → Option (densS (muts p46 ++ r46))) (rec K : densS q46_0 → Option (densS (muts p46 ++ r46))) (t : densS q46_0) :
    ev (E46) tab2 (fun _ => false) (L46) (retK tab2 p46 r46 Proofs.Tryz.f46.results.toList) (loopC Proofs.Tryz.f46 0) (fun i s => cond (Nat.beq i 0) (decK 100 q46_0 s K) (X i s)) (fun s => decK 100 q46_0 s rec) (enc q46_0 t) = s46_0 t rec K := by kernel_rfl
theorem e46 (a : densS p46) : runF (E46) tab2 (fun _ => false) p46 r46 Proofs.Tryz.f46 (L46) a = F46 a := by kernel_rfl
theorem ok46 : OK Proofs.Tryz.prog 46 (mkE p46 r46 false (F46)) :=
  fn_ok (E := E46) tab_ok2 (envL_ok OKs.nil) mixed2 (ann := (fun _ => false)) (L := L46) (fn := Proofs.Tryz.f46) (c := bodyC Proofs.Tryz.f46) (ls := [(0, loopC Proofs.Tryz.f46 0)]) Proofs.Tryz.func46 (by kernel_rfl) (by kernel_rfl) (by kernel_rfl) (by kernel_rfl)
    (LoopsP.cons q46_0 (s46_0) rfl (e46_0) LoopsP.nil) (e46)
/-! impl.WetWind -/
def p16 : List SP := [.agg [.r .device, .r .cue, .r .gust, .int .i64], .one (.r .place), .t .box]
def r16 : List SP := [.one (.o 0 .gust), .one (.bool)]
abbrev T16 := ShD × List Place × Box × Unit → Option (List Gust × Bool × Unit)
abbrev N16 (f : T16) : Entry := mkE p16 r16 false f
noncomputable def F16 (f38 : T38) (f46 : T46) (a : ShD × List Place × Box × Unit) : Option (List Gust × Bool × Unit) :=
  (f38 ((a.1.1, a.1.2.1, a.1.2.2.1, a.1.2.2.2.1, ()), a.2.1, a.2.2.1, ())).bind fun x1 => cond (!x1.2.2.2.1) (some (([] : List Gust), false, ())) ((f46 (([(⟨0, ⟨x1.2.2.1.X, x1.2.2.1.Y⟩⟩ : Gust)] : List Gust), ())).bind fun x2 => some (x2.1, true, ()))
def E16 (f38 : T38) (f46 : T46) : Env := envL [(38, N38 f38), (46, N46 f46)]
noncomputable def L16 (f38 : T38) (f46 : T46) : LEnv (densS (muts p16 ++ r16)) := lenv []
theorem e16 (f38 : T38) (f46 : T46) (a : densS p16) : runF (E16 f38 f46) tab2 (fun _ => false) p16 r16 Proofs.Tryz.f16 (L16 f38 f46) a = F16 f38 f46 a := by kernel_rfl
theorem ok16 {f38 : T38} {f46 : T46} (h38 : OK Proofs.Tryz.prog 38 (N38 f38)) (h46 : OK Proofs.Tryz.prog 46 (N46 f46)) : OK Proofs.Tryz.prog 16 (mkE p16 r16 false (F16 f38 f46)) :=
  fn_ok (E := E16 f38 f46) tab_ok2 (envL_ok (OKs.cons h38 (OKs.cons h46 OKs.nil))) mixed2 (ann := (fun _ => false)) (L := L16 f38 f46) (fn := Proofs.Tryz.f16) (c := bodyC Proofs.Tryz.f16) (ls := []) Proofs.Tryz.func16 (by kernel_rfl) (by kernel_rfl) (by kernel_rfl) (by kernel_rfl)
    LoopsP.nil (e16 f38 f46)
/-! impl.BoxOf -/
def p90 : List SP := [.one (.r .place)]
def r90 : List SP := [.t .box, .one (.bool)]
abbrev T90 := List Place × Unit → Option (Box × Bool × Unit)
abbrev N90 (f : T90) : Entry := mkE p90 r90 false f
def q90_0 : List SP := pat 58 0 [(2, .boxt 5000001 .box), (4, .boxt 5000002 .box), (18, .one (.r .place)), (19, .one (.int .i64)), (20, .one (.int .i64))]
noncomputable def s90_0 (f74 : T74) (t3 : Box × Box × List Place × Int × Int × Unit) (rec K : Box × Box × List Place × Int × Int × Unit → Option (Box × Bool × Unit)) : Option (Box × Bool × Unit) :=
  cond (decide (t3.2.2.2.2.1 < t3.2.2.2.1)) (rdL t3.2.2.1 t3.2.2.2.2.1 fun d4 => (f74 (d4, ())).bind fun x5 => cond (!x5.1) (some ((⟨⟨0, 0⟩, ⟨0, 0⟩⟩ : Box), false, ())) (rec (t3.1, (⟨⟨(mn t3.2.1.Low.X d4.X), (mn t3.2.1.Low.Y d4.Y)⟩, ⟨(mx t3.2.1.High.X d4.X), (mx t3.2.1.High.Y d4.Y)⟩⟩ : Box), t3.2.2.1, t3.2.2.2.1, (w64 (t3.2.2.2.2.1 + 1)), ()))) (K (t3.1, t3.2.1, t3.2.2.1, t3.2.2.2.1, t3.2.2.2.2.1, ()))
noncomputable def F90 (f74 : T74) (a : List Place × Unit) : Option (Box × Bool × Unit) :=
  cond (decide ((Int.ofNat (List.length a.1)) = 0)) (some ((⟨⟨0, 0⟩, ⟨0, 0⟩⟩ : Box), false, ())) (rdL a.1 0 fun d1 => rdL a.1 0 fun d2 => iterF (s90_0 f74) fuel ((⟨⟨0, 0⟩, ⟨0, 0⟩⟩ : Box), (⟨⟨d1.X, d1.Y⟩, ⟨d2.X, d2.Y⟩⟩ : Box), a.1, (Int.ofNat (List.length a.1)), 0, ()) fun t6 => some (t6.2.1, true, ()))
def E90 (f74 : T74) : Env := envL [(74, N74 f74)]
noncomputable def L90 (f74 : T74) : LEnv (densS (muts p90 ++ r90)) := lenv [(0, loopL (R := densS (muts p90 ++ r90)) q90_0 (s90_0 f74))]
theorem e90_0 (f74 : T74) (X : Nat → St → Option (densS (muts p90 ++ r90))) (rec K : densS q90_0 → Option (densS (muts p90 ++ r90))) (t : densS q90_0) :
    ev (E90 f74) tab2 (fun _ => false) (L90 f74) (retK tab2 p90 r90 Proofs.Tryz.f90.results.toList) (loopC Proofs.Tryz.f90 0) (fun i s => cond (Nat.beq i 0) (decK 100 q90_0 s K) (X i s)) (fun s => decK 100 q90_0 s rec) (enc q90_0 t) = s90_0 f74 t rec K := by kernel_rfl
theorem e90 (f74 : T74) (a : densS p90) : runF (E90 f74) tab2 (fun _ => false) p90 r90 Proofs.Tryz.f90 (L90 f74) a = F90 f74 a := by kernel_rfl
theorem ok90 {f74 : T74} (h74 : OK Proofs.Tryz.prog 74 (N74 f74)) : OK Proofs.Tryz.prog 90 (mkE p90 r90 false (F90 f74)) :=
  fn_ok (E := E90 f74) tab_ok2 (envL_ok (OKs.cons h74 OKs.nil)) mixed2 (ann := (fun _ => false)) (L := L90 f74) (fn := Proofs.Tryz.f90) (c := bodyC Proofs.Tryz.f90) (ls := [(0, loopC Proofs.Tryz.f90 0)]) Proofs.Tryz.func90 (by kernel_rfl) (by kernel_rfl) (by kernel_rfl) (by kernel_rfl)
    (LoopsP.cons q90_0 (s90_0 f74) rfl (e90_0 f74) LoopsP.nil) (e90 f74)
/-! impl.RoseBox -/
def p128 : List SP := [.one (.r .place), .one (.int .i64)]
def r128 : List SP := [.t .box, .one (.bool)]
abbrev T128 := List Place × Int × Unit → Option (Box × Bool × Unit)
abbrev N128 (f : T128) : Entry := mkE p128 r128 false f
noncomputable def F128 (f36 : T36) (f71 : T71) (f90 : T90) (a : List Place × Int × Unit) : Option (Box × Bool × Unit) :=
  (f36 (a.1, ())).bind fun x1 => cond (!(!x1.1)) ((f71 (a.2.1, 0, 128, ())).bind fun x2 => cond (!x2.1) (some ((⟨⟨0, 0⟩, ⟨0, 0⟩⟩ : Box), false, ())) ((f90 (a.1, ())).bind fun x3 => some ((⟨⟨(w64 (a.2.1 * x3.1.Low.X)), (w64 (a.2.1 * x3.1.Low.Y))⟩, ⟨(w64 (a.2.1 * x3.1.High.X)), (w64 (a.2.1 * x3.1.High.Y))⟩⟩ : Box), true, ()))) (some ((⟨⟨0, 0⟩, ⟨0, 0⟩⟩ : Box), false, ()))
def E128 (f36 : T36) (f71 : T71) (f90 : T90) : Env := envL [(36, N36 f36), (71, N71 f71), (90, N90 f90)]
noncomputable def L128 (f36 : T36) (f71 : T71) (f90 : T90) : LEnv (densS (muts p128 ++ r128)) := lenv []
theorem e128 (f36 : T36) (f71 : T71) (f90 : T90) (a : densS p128) : runF (E128 f36 f71 f90) tab2 (fun _ => false) p128 r128 Proofs.Tryz.f128 (L128 f36 f71 f90) a = F128 f36 f71 f90 a := by kernel_rfl
theorem ok128 {f36 : T36} {f71 : T71} {f90 : T90} (h36 : OK Proofs.Tryz.prog 36 (N36 f36)) (h71 : OK Proofs.Tryz.prog 71 (N71 f71)) (h90 : OK Proofs.Tryz.prog 90 (N90 f90)) : OK Proofs.Tryz.prog 128 (mkE p128 r128 false (F128 f36 f71 f90)) :=
  fn_ok (E := E128 f36 f71 f90) tab_ok2 (envL_ok (OKs.cons h36 (OKs.cons h71 (OKs.cons h90 OKs.nil)))) mixed2 (ann := (fun _ => false)) (L := L128 f36 f71 f90) (fn := Proofs.Tryz.f128) (c := bodyC Proofs.Tryz.f128) (ls := []) Proofs.Tryz.func128 (by kernel_rfl) (by kernel_rfl) (by kernel_rfl) (by kernel_rfl)
    LoopsP.nil (e128 f36 f71 f90)
/-! impl.LandingBox -/
def p89 : List SP := [.t .jet, .one (.r .place)]
def r89 : List SP := [.t .box, .one (.bool)]
abbrev T89 := Jet × List Place × Unit → Option (Box × Bool × Unit)
abbrev N89 (f : T89) : Entry := mkE p89 r89 false f
noncomputable def F89 (f76 : T76) (f77 : T77) (f128 : T128) (a : Jet × List Place × Unit) : Option (Box × Bool × Unit) :=
  (f76 (a.1, ())).bind fun x1 => (f77 (a.1, ())).bind fun x2 => (f128 (a.2.1, x2.1, ())).bind fun x3 => cond (!(!x1.2.1)) (cond (!x3.2.1) (some ((⟨⟨0, 0⟩, ⟨0, 0⟩⟩ : Box), false, ())) (some ((⟨⟨(w64 (x1.1.X + x3.1.Low.X)), (w64 (x1.1.Y + x3.1.Low.Y))⟩, ⟨(w64 (x1.1.X + x3.1.High.X)), (w64 (x1.1.Y + x3.1.High.Y))⟩⟩ : Box), true, ()))) (some ((⟨⟨0, 0⟩, ⟨0, 0⟩⟩ : Box), false, ()))
def E89 (f76 : T76) (f77 : T77) (f128 : T128) : Env := envL [(76, N76 f76), (77, N77 f77), (128, N128 f128)]
noncomputable def L89 (f76 : T76) (f77 : T77) (f128 : T128) : LEnv (densS (muts p89 ++ r89)) := lenv []
theorem e89 (f76 : T76) (f77 : T77) (f128 : T128) (a : densS p89) : runF (E89 f76 f77 f128) tab2 (fun _ => false) p89 r89 Proofs.Tryz.f89 (L89 f76 f77 f128) a = F89 f76 f77 f128 a := by kernel_rfl
theorem ok89 {f76 : T76} {f77 : T77} {f128 : T128} (h76 : OK Proofs.Tryz.prog 76 (N76 f76)) (h77 : OK Proofs.Tryz.prog 77 (N77 f77)) (h128 : OK Proofs.Tryz.prog 128 (N128 f128)) : OK Proofs.Tryz.prog 89 (mkE p89 r89 false (F89 f76 f77 f128)) :=
  fn_ok (E := E89 f76 f77 f128) tab_ok2 (envL_ok (OKs.cons h76 (OKs.cons h77 (OKs.cons h128 OKs.nil)))) mixed2 (ann := (fun _ => false)) (L := L89 f76 f77 f128) (fn := Proofs.Tryz.f89) (c := bodyC Proofs.Tryz.f89) (ls := []) Proofs.Tryz.func89 (by kernel_rfl) (by kernel_rfl) (by kernel_rfl) (by kernel_rfl)
    LoopsP.nil (e89 f76 f77 f128)
/-! impl.LeastBasin -/
def p47 : List SP := [.agg [.r .device, .r .cue, .r .gust, .int .i64], .one (.r .place)]
def r47 : List SP := [.t .box, .one (.bool)]
abbrev T47 := ShD × List Place × Unit → Option (Box × Bool × Unit)
abbrev N47 (f : T47) : Entry := mkE p47 r47 false f
def q47_0 : List SP := pat 42 0 [(1, .one (.r .place)), (4, .boxt 5000001 .box), (6, .one (.o 5000002 .place)), (17, .one (.o 5000003 .throw)), (18, .one (.int .i64)), (19, .one (.int .i64))]
noncomputable def s47_0 (f36 : T36) (f75 : T75) (f89 : T89) (f90 : T90) (t3 : List Place × Box × List Place × List Throw × Int × Int × Unit) (rec K : List Place × Box × List Place × List Throw × Int × Int × Unit → Option (Box × Bool × Unit)) : Option (Box × Bool × Unit) :=
  cond (decide (t3.2.2.2.2.2.1 < t3.2.2.2.2.1)) (rdL t3.2.2.2.1 t3.2.2.2.2.2.1 fun _ => (t3.2.2.2.1[(Int.toNat t3.2.2.2.2.2.1)]?).bind fun d4 => (f89 (d4.jet, t3.1, ())).bind fun x5 => capK (List.length t3.2.2.1 + List.length ([x5.1.Low, x5.1.High] : List Place)) (rec (t3.1, t3.2.1, (t3.2.2.1 ++ ([x5.1.Low, x5.1.High] : List Place)), t3.2.2.2.1, t3.2.2.2.2.1, (w64 (t3.2.2.2.2.2.1 + 1)), ()))) (K (t3.1, t3.2.1, t3.2.2.1, t3.2.2.2.1, t3.2.2.2.2.1, t3.2.2.2.2.2.1, ()))
noncomputable def F47 (f36 : T36) (f75 : T75) (f89 : T89) (f90 : T90) (a : ShD × List Place × Unit) : Option (Box × Bool × Unit) :=
  (f36 (a.2.1, ())).bind fun x1 => cond (!x1.1) (some ((⟨⟨0, 0⟩, ⟨0, 0⟩⟩ : Box), false, ())) ((f75 ((a.1.1, a.1.2.1, a.1.2.2.1, a.1.2.2.2.1, ()), ())).bind fun x2 => iterF (s47_0 f36 f75 f89 f90) fuel (a.2.1, (⟨⟨0, 0⟩, ⟨0, 0⟩⟩ : Box), ([] : List Place), x2.1, (Int.ofNat (List.length x2.1)), 0, ()) fun t6 => (f90 (t6.2.2.1, ())).bind fun x7 => some (x7.1, x7.2.1, ()))
def E47 (f36 : T36) (f75 : T75) (f89 : T89) (f90 : T90) : Env := envL [(36, N36 f36), (75, N75 f75), (89, N89 f89), (90, N90 f90)]
noncomputable def L47 (f36 : T36) (f75 : T75) (f89 : T89) (f90 : T90) : LEnv (densS (muts p47 ++ r47)) := lenv [(0, loopL (R := densS (muts p47 ++ r47)) q47_0 (s47_0 f36 f75 f89 f90))]
theorem e47_0 (f36 : T36) (f75 : T75) (f89 : T89) (f90 : T90) (X : Nat → St → Option (densS (muts p47 ++ r47))) (rec K : densS q47_0 → Option (densS (muts p47 ++ r47))) (t : densS q47_0) :
    ev (E47 f36 f75 f89 f90) tab2 (fun _ => false) (L47 f36 f75 f89 f90) (retK tab2 p47 r47 Proofs.Tryz.f47.results.toList) (loopC Proofs.Tryz.f47 0) (fun i s => cond (Nat.beq i 0) (decK 100 q47_0 s K) (X i s)) (fun s => decK 100 q47_0 s rec) (enc q47_0 t) = s47_0 f36 f75 f89 f90 t rec K := by kernel_rfl
theorem e47 (f36 : T36) (f75 : T75) (f89 : T89) (f90 : T90) (a : densS p47) : runF (E47 f36 f75 f89 f90) tab2 (fun _ => false) p47 r47 Proofs.Tryz.f47 (L47 f36 f75 f89 f90) a = F47 f36 f75 f89 f90 a := by kernel_rfl
theorem ok47 {f36 : T36} {f75 : T75} {f89 : T89} {f90 : T90} (h36 : OK Proofs.Tryz.prog 36 (N36 f36)) (h75 : OK Proofs.Tryz.prog 75 (N75 f75)) (h89 : OK Proofs.Tryz.prog 89 (N89 f89)) (h90 : OK Proofs.Tryz.prog 90 (N90 f90)) : OK Proofs.Tryz.prog 47 (mkE p47 r47 false (F47 f36 f75 f89 f90)) :=
  fn_ok (E := E47 f36 f75 f89 f90) tab_ok2 (envL_ok (OKs.cons h36 (OKs.cons h75 (OKs.cons h89 (OKs.cons h90 OKs.nil))))) mixed2 (ann := (fun _ => false)) (L := L47 f36 f75 f89 f90) (fn := Proofs.Tryz.f47) (c := bodyC Proofs.Tryz.f47) (ls := [(0, loopC Proofs.Tryz.f47 0)]) Proofs.Tryz.func47 (by kernel_rfl) (by kernel_rfl) (by kernel_rfl) (by kernel_rfl)
    (LoopsP.cons q47_0 (s47_0 f36 f75 f89 f90) rfl (e47_0 f36 f75 f89 f90) LoopsP.nil) (e47 f36 f75 f89 f90)
/-! impl.InBox -/
def p91 : List SP := [.t .box, .t .place]
def r91 : List SP := [.one (.bool)]
abbrev T91 := Box × Place × Unit → Option (Bool × Unit)
abbrev N91 (f : T91) : Entry := mkE p91 r91 false f
noncomputable def F91 (f37 : T37) (f71 : T71) (a : Box × Place × Unit) : Option (Bool × Unit) :=
  (f37 (a.1, ())).bind fun x1 => cond x1.1 ((f71 (a.2.1.X, a.1.Low.X, a.1.High.X, ())).bind fun x2 => cond x2.1 ((f71 (a.2.1.Y, a.1.Low.Y, a.1.High.Y, ())).bind fun x3 => some (x3.1, ())) (some (false, ()))) (some (false, ()))
def E91 (f37 : T37) (f71 : T71) : Env := envL [(37, N37 f37), (71, N71 f71)]
noncomputable def L91 (f37 : T37) (f71 : T71) : LEnv (densS (muts p91 ++ r91)) := lenv []
theorem e91 (f37 : T37) (f71 : T71) (a : densS p91) : runF (E91 f37 f71) tab2 (fun _ => false) p91 r91 Proofs.Tryz.f91 (L91 f37 f71) a = F91 f37 f71 a := by kernel_rfl
theorem ok91 {f37 : T37} {f71 : T71} (h37 : OK Proofs.Tryz.prog 37 (N37 f37)) (h71 : OK Proofs.Tryz.prog 71 (N71 f71)) : OK Proofs.Tryz.prog 91 (mkE p91 r91 false (F91 f37 f71)) :=
  fn_ok (E := E91 f37 f71) tab_ok2 (envL_ok (OKs.cons h37 (OKs.cons h71 OKs.nil))) mixed2 (ann := (fun _ => false)) (L := L91 f37 f71) (fn := Proofs.Tryz.f91) (c := bodyC Proofs.Tryz.f91) (ls := []) Proofs.Tryz.func91 (by kernel_rfl) (by kernel_rfl) (by kernel_rfl) (by kernel_rfl)
    LoopsP.nil (e91 f37 f71)
/-! impl.isIn -/
def p48 : List SP := [.t .box, .t .box]
def r48 : List SP := [.one (.bool)]
abbrev T48 := Box × Box × Unit → Option (Bool × Unit)
abbrev N48 (f : T48) : Entry := mkE p48 r48 false f
noncomputable def F48 (f91 : T91) (a : Box × Box × Unit) : Option (Bool × Unit) :=
  (f91 (a.2.1, a.1.Low, ())).bind fun x1 => cond x1.1 ((f91 (a.2.1, a.1.High, ())).bind fun x2 => some (x2.1, ())) (some (false, ()))
def E48 (f91 : T91) : Env := envL [(91, N91 f91)]
noncomputable def L48 (f91 : T91) : LEnv (densS (muts p48 ++ r48)) := lenv []
theorem e48 (f91 : T91) (a : densS p48) : runF (E48 f91) tab2 (fun _ => false) p48 r48 Proofs.Tryz.f48 (L48 f91) a = F48 f91 a := by kernel_rfl
theorem ok48 {f91 : T91} (h91 : OK Proofs.Tryz.prog 91 (N91 f91)) : OK Proofs.Tryz.prog 48 (mkE p48 r48 false (F48 f91)) :=
  fn_ok (E := E48 f91) tab_ok2 (envL_ok (OKs.cons h91 OKs.nil)) mixed2 (ann := (fun _ => false)) (L := L48 f91) (fn := Proofs.Tryz.f48) (c := bodyC Proofs.Tryz.f48) (ls := []) Proofs.Tryz.func48 (by kernel_rfl) (by kernel_rfl) (by kernel_rfl) (by kernel_rfl)
    LoopsP.nil (e48 f91)
/-! impl.IsSafe -/
def p17 : List SP := [.agg [.r .device, .r .cue, .r .gust, .int .i64], .one (.r .place), .t .box]
def r17 : List SP := [.one (.bool)]
abbrev T17 := ShD × List Place × Box × Unit → Option (Bool × Unit)
abbrev N17 (f : T17) : Entry := mkE p17 r17 false f
noncomputable def F17 (f35 : T35) (f36 : T36) (f37 : T37) (f47 : T47) (f48 : T48) (a : ShD × List Place × Box × Unit) : Option (Bool × Unit) :=
  (f35 ((a.1.1, a.1.2.1, a.1.2.2.1, a.1.2.2.2.1, ()), ())).bind fun x1 => cond (!(!x1.1)) ((f36 (a.2.1, ())).bind fun x2 => cond (!(!x2.1)) ((f37 (a.2.2.1, ())).bind fun x3 => cond (!x3.1) (some (false, ())) ((f47 ((a.1.1, a.1.2.1, a.1.2.2.1, a.1.2.2.2.1, ()), a.2.1, ())).bind fun x4 => cond (!(!x4.2.1)) ((f48 (x4.1, a.2.2.1, ())).bind fun x5 => some (x5.1, ())) (some (true, ())))) (some (false, ()))) (some (false, ()))
def E17 (f35 : T35) (f36 : T36) (f37 : T37) (f47 : T47) (f48 : T48) : Env := envL [(35, N35 f35), (36, N36 f36), (37, N37 f37), (47, N47 f47), (48, N48 f48)]
noncomputable def L17 (f35 : T35) (f36 : T36) (f37 : T37) (f47 : T47) (f48 : T48) : LEnv (densS (muts p17 ++ r17)) := lenv []
theorem e17 (f35 : T35) (f36 : T36) (f37 : T37) (f47 : T47) (f48 : T48) (a : densS p17) : runF (E17 f35 f36 f37 f47 f48) tab2 (fun _ => false) p17 r17 Proofs.Tryz.f17 (L17 f35 f36 f37 f47 f48) a = F17 f35 f36 f37 f47 f48 a := by kernel_rfl
theorem ok17 {f35 : T35} {f36 : T36} {f37 : T37} {f47 : T47} {f48 : T48} (h35 : OK Proofs.Tryz.prog 35 (N35 f35)) (h36 : OK Proofs.Tryz.prog 36 (N36 f36)) (h37 : OK Proofs.Tryz.prog 37 (N37 f37)) (h47 : OK Proofs.Tryz.prog 47 (N47 f47)) (h48 : OK Proofs.Tryz.prog 48 (N48 f48)) : OK Proofs.Tryz.prog 17 (mkE p17 r17 false (F17 f35 f36 f37 f47 f48)) :=
  fn_ok (E := E17 f35 f36 f37 f47 f48) tab_ok2 (envL_ok (OKs.cons h35 (OKs.cons h36 (OKs.cons h37 (OKs.cons h47 (OKs.cons h48 OKs.nil)))))) mixed2 (ann := (fun _ => false)) (L := L17 f35 f36 f37 f47 f48) (fn := Proofs.Tryz.f17) (c := bodyC Proofs.Tryz.f17) (ls := []) Proofs.Tryz.func17 (by kernel_rfl) (by kernel_rfl) (by kernel_rfl) (by kernel_rfl)
    LoopsP.nil (e17 f35 f36 f37 f47 f48)
/-! laws.FnSafetyLine -/
def p4 : List SP := [.one (.r .u8)]
def r4 : List SP := [.one (.bool)]
abbrev T4 := List Int × Unit → Option (Bool × Unit)
abbrev N4 (f : T4) : Entry := mkE p4 r4 false f
noncomputable def F4 (f14 : T14) (f15 : T15) (f11 : T11) (f16 : T16) (f17 : T17) (a : List Int × Unit) : Option (Bool × Unit) :=
  (f14 (a.1, ())).bind fun x1 => cond x1.1 (some (true, ())) ((f15 (a.1, ())).bind fun x2 => (f11 ((x2.1.1, x2.1.2.1, x2.1.2.2.1, x2.1.2.2.2.1, ()), x2.2.1, x2.2.2.1, ())).bind fun x3 => (f16 ((x2.1.1, x2.1.2.1, x2.1.2.2.1, x2.1.2.2.2.1, ()), x2.2.1, x2.2.2.1, ())).bind fun x4 => (f17 ((x2.1.1, x2.1.2.1, x2.1.2.2.1, x2.1.2.2.2.1, ()), x2.2.1, x2.2.2.1, ())).bind fun x5 => cond (decide ((decide (x3.1 = [115, 97, 102, 101])) = x5.1)) (cond (!decide (x3.1 = [115, 97, 102, 101])) (some ((decide (x4.2.1 = (!decide (x3.1 = [110, 111, 116, 104, 105, 110, 103, 32, 116, 111, 32, 115, 97, 121])))), ())) (some ((decide (x4.2.1 = false)), ()))) (some (false, ())))
def E4 (f14 : T14) (f15 : T15) (f11 : T11) (f16 : T16) (f17 : T17) : Env := envL [(14, N14 f14), (15, N15 f15), (11, N11 f11), (16, N16 f16), (17, N17 f17)]
noncomputable def L4 (f14 : T14) (f15 : T15) (f11 : T11) (f16 : T16) (f17 : T17) : LEnv (densS (muts p4 ++ r4)) := lenv []
theorem e4 (f14 : T14) (f15 : T15) (f11 : T11) (f16 : T16) (f17 : T17) (a : densS p4) : runF (E4 f14 f15 f11 f16 f17) tab2 (fun _ => false) p4 r4 Proofs.Tryz.f4 (L4 f14 f15 f11 f16 f17) a = F4 f14 f15 f11 f16 f17 a := by kernel_rfl
theorem ok4 {f14 : T14} {f15 : T15} {f11 : T11} {f16 : T16} {f17 : T17} (h14 : OK Proofs.Tryz.prog 14 (N14 f14)) (h15 : OK Proofs.Tryz.prog 15 (N15 f15)) (h11 : OK Proofs.Tryz.prog 11 (N11 f11)) (h16 : OK Proofs.Tryz.prog 16 (N16 f16)) (h17 : OK Proofs.Tryz.prog 17 (N17 f17)) : OK Proofs.Tryz.prog 4 (mkE p4 r4 false (F4 f14 f15 f11 f16 f17)) :=
  fn_ok (E := E4 f14 f15 f11 f16 f17) tab_ok2 (envL_ok (OKs.cons h14 (OKs.cons h15 (OKs.cons h11 (OKs.cons h16 (OKs.cons h17 OKs.nil)))))) mixed2 (ann := (fun _ => false)) (L := L4 f14 f15 f11 f16 f17) (fn := Proofs.Tryz.f4) (c := bodyC Proofs.Tryz.f4) (ls := []) Proofs.Tryz.func4 (by kernel_rfl) (by kernel_rfl) (by kernel_rfl) (by kernel_rfl)
    LoopsP.nil (e4 f14 f15 f11 f16 f17)
end Ev
