/- Functions of the program, as the evaluator sees them. -/
import Derived.Test.YtpnlcamcnhpbhaaGreatFn
import Derived.Test.YtpnlcamcnhpbhaaGreatLib
set_option linter.unusedVariables false
set_option maxRecDepth 100000
namespace Ev
open Go
def tab2 : Tab := [(3, ⟨1, false, 8, [.int .i64 0], [], .int .i64, false⟩),
  (4, ⟨1, false, 1, [.bool false], [], .bool, false⟩),
  (5, ⟨1, false, 1, [.int .u8 0], [], .int .u8, false⟩),
  (9, ⟨1, false, 16, [.str []], [], .str, false⟩),
  (22, ⟨1, false, 24, [.nils], [], .sl .u8, false⟩),
  (24, ⟨1, false, 24, [.nils], [], .sl .device, false⟩),
  (25, ⟨1, false, 24, [.nils], [], .sl .cue, false⟩),
  (26, ⟨1, false, 24, [.nils], [], .sl .gust, false⟩),
  (28, ⟨4, true, 80, [.nils, .nils, .nils, .int .i64 0], [(0, 1, false), (1, 1, false), (2, 1, false), (3, 1, false)], .struct, false⟩),
  (38, ⟨2, true, 16, [.int .i64 0, .int .i64 0], [(0, 1, false), (1, 1, false)], .struct, true⟩),
  (43, ⟨4, true, 32, [.int .i64 0, .int .i64 0, .int .i64 0, .int .i64 0], [(0, 2, true), (2, 2, true)], .struct, true⟩),
  (51, ⟨1, false, 24, [.nils], [], .sl .place, false⟩),
  (67, ⟨4, true, 40, [.int .i64 0, .str [], .int .i64 0, .int .i64 0], [(0, 1, false), (1, 1, false), (2, 1, false), (3, 1, false)], .struct, false⟩),
  (69, ⟨1, false, 24, [.nils], [], .sl .throw, false⟩),
  (72, ⟨5, true, 40, [.int .i64 0, .int .i64 0, .int .i64 0, .int .i64 0, .int .i64 0], [(0, 2, true), (2, 1, false), (3, 1, false), (4, 1, false)], .struct, false⟩),
  (74, ⟨7, true, 64, [.str [], .int .i64 0, .int .i64 0, .int .i64 0, .int .i64 0, .int .i64 0, .int .i64 0], [(0, 1, false), (1, 1, false), (2, 5, true)], .struct, false⟩),
  (106, ⟨1, false, 24, [.nils], [], .sl .int, false⟩),
  (109, ⟨8, true, 80, [.str [], .int .i64 0, .str [], .int .i64 0, .int .i64 0, .int .i64 0, .int .i64 0, .int .i64 0], [(0, 1, false), (1, 1, false), (2, 1, false), (3, 2, true), (5, 1, false), (6, 1, false), (7, 1, false)], .struct, true⟩),
  (111, ⟨3, true, 24, [.int .i64 0, .int .i64 0, .int .i64 0], [(0, 1, false), (1, 2, true)], .struct, false⟩)]
theorem tab_ok2 : TabOK Proofs.Tryz.prog tab2 := tab_of2 (by kernel_rfl) (by kernel_rfl)
theorem mixed2 : Proofs.Tryz.prog.follows .mixedOrders = true := by kernel_rfl
/-! laws.big -/
def p6 : List SP := [.one (.r .u8)]
def r6 : List SP := [.one (.bool)]
abbrev T6 := List Int × Unit → Option (Bool × Unit)
abbrev N6 (f : T6) : Entry := mkE p6 r6 false f
noncomputable def F6 (a : List Int × Unit) : Option (Bool × Unit) :=
  some ((decide ((Int.ofNat (List.length a.1)) > 4096)), ())
def E6 : Env := envL []
noncomputable def L6 : LEnv (densS (muts p6 ++ r6)) := lenv []
theorem e6 (a : densS p6) : runF (E6) tab2 (fun _ => false) p6 r6 Proofs.Tryz.f6 (L6) a = F6 a := by kernel_rfl
theorem ok6 : OK Proofs.Tryz.prog 6 (mkE p6 r6 false (F6)) :=
  fn_ok (E := E6) tab_ok2 (envL_ok OKs.nil) mixed2 (ann := (fun _ => false)) (L := L6) (fn := Proofs.Tryz.f6) (c := bodyC Proofs.Tryz.f6) (ls := []) Proofs.Tryz.func6 (by kernel_rfl) (by kernel_rfl) (by kernel_rfl) (by kernel_rfl)
    LoopsP.nil (e6)
/-! impl.isWithin -/
def p42 : List SP := [.one (.int .i64), .one (.int .i64), .one (.int .i64)]
def r42 : List SP := [.one (.bool)]
abbrev T42 := Int × Int × Int × Unit → Option (Bool × Unit)
abbrev N42 (f : T42) : Entry := mkE p42 r42 false f
noncomputable def F42 (a : Int × Int × Int × Unit) : Option (Bool × Unit) :=
  cond (decide (a.2.1 ≤ a.1)) (some ((decide (a.1 ≤ a.2.2.1)), ())) (some (false, ()))
def E42 : Env := envL []
noncomputable def L42 : LEnv (densS (muts p42 ++ r42)) := lenv []
theorem e42 (a : densS p42) : runF (E42) tab2 (fun _ => false) p42 r42 Proofs.Tryz.f42 (L42) a = F42 a := by kernel_rfl
theorem ok42 : OK Proofs.Tryz.prog 42 (mkE p42 r42 false (F42)) :=
  fn_ok (E := E42) tab_ok2 (envL_ok OKs.nil) mixed2 (ann := (fun _ => false)) (L := L42) (fn := Proofs.Tryz.f42) (c := bodyC Proofs.Tryz.f42) (ls := []) Proofs.Tryz.func42 (by kernel_rfl) (by kernel_rfl) (by kernel_rfl) (by kernel_rfl)
    LoopsP.nil (e42)
/-! impl.IsMeasure -/
def p90 : List SP := [.one (.int .i64)]
def r90 : List SP := [.one (.bool)]
abbrev T90 := Int × Unit → Option (Bool × Unit)
abbrev N90 (f : T90) : Entry := mkE p90 r90 false f
noncomputable def F90 (f42 : T42) (a : Int × Unit) : Option (Bool × Unit) :=
  (f42 (a.1, (-4096), 4096, ())).bind fun x1 => some (x1.1, ())
def E90 (f42 : T42) : Env := envL [(42, N42 f42)]
noncomputable def L90 (f42 : T42) : LEnv (densS (muts p90 ++ r90)) := lenv []
theorem e90 (f42 : T42) (a : densS p90) : runF (E90 f42) tab2 (fun _ => false) p90 r90 Proofs.Tryz.f90 (L90 f42) a = F90 f42 a := by kernel_rfl
theorem ok90 {f42 : T42} (h42 : OK Proofs.Tryz.prog 42 (N42 f42)) : OK Proofs.Tryz.prog 90 (mkE p90 r90 false (F90 f42)) :=
  fn_ok (E := E90 f42) tab_ok2 (envL_ok (OKs.cons h42 OKs.nil)) mixed2 (ann := (fun _ => false)) (L := L90 f42) (fn := Proofs.Tryz.f90) (c := bodyC Proofs.Tryz.f90) (ls := []) Proofs.Tryz.func90 (by kernel_rfl) (by kernel_rfl) (by kernel_rfl) (by kernel_rfl)
    LoopsP.nil (e90 f42)
/-! impl.IsPlace -/
def p43 : List SP := [.t .place]
def r43 : List SP := [.one (.bool)]
abbrev T43 := Place × Unit → Option (Bool × Unit)
abbrev N43 (f : T43) : Entry := mkE p43 r43 false f
noncomputable def F43 (f90 : T90) (a : Place × Unit) : Option (Bool × Unit) :=
  (f90 (a.1.X, ())).bind fun x1 => cond x1.1 ((f90 (a.1.Y, ())).bind fun x2 => some (x2.1, ())) (some (false, ()))
def E43 (f90 : T90) : Env := envL [(90, N90 f90)]
noncomputable def L43 (f90 : T90) : LEnv (densS (muts p43 ++ r43)) := lenv []
theorem e43 (f90 : T90) (a : densS p43) : runF (E43 f90) tab2 (fun _ => false) p43 r43 Proofs.Tryz.f43 (L43 f90) a = F43 f90 a := by kernel_rfl
theorem ok43 {f90 : T90} (h90 : OK Proofs.Tryz.prog 90 (N90 f90)) : OK Proofs.Tryz.prog 43 (mkE p43 r43 false (F43 f90)) :=
  fn_ok (E := E43 f90) tab_ok2 (envL_ok (OKs.cons h90 OKs.nil)) mixed2 (ann := (fun _ => false)) (L := L43 f90) (fn := Proofs.Tryz.f43) (c := bodyC Proofs.Tryz.f43) (ls := []) Proofs.Tryz.func43 (by kernel_rfl) (by kernel_rfl) (by kernel_rfl) (by kernel_rfl)
    LoopsP.nil (e43 f90)
/-! impl.turns -/
def p91 : List SP := [.one (.int .i64)]
def r91 : List SP := [.one (.int .i64)]
abbrev T91 := Int × Unit → Option (Int × Unit)
abbrev N91 (f : T91) : Entry := mkE p91 r91 false f
noncomputable def F91 (a : Int × Unit) : Option (Int × Unit) :=
  some ((Int.tmod (w64 ((Int.tmod a.1 4) + 4)) 4), ())
def E91 : Env := envL []
noncomputable def L91 : LEnv (densS (muts p91 ++ r91)) := lenv []
theorem e91 (a : densS p91) : runF (E91) tab2 (fun _ => false) p91 r91 Proofs.Tryz.f91 (L91) a = F91 a := by kernel_rfl
theorem ok91 : OK Proofs.Tryz.prog 91 (mkE p91 r91 false (F91)) :=
  fn_ok (E := E91) tab_ok2 (envL_ok OKs.nil) mixed2 (ann := (fun _ => false)) (L := L91) (fn := Proofs.Tryz.f91) (c := bodyC Proofs.Tryz.f91) (ls := []) Proofs.Tryz.func91 (by kernel_rfl) (by kernel_rfl) (by kernel_rfl) (by kernel_rfl)
    LoopsP.nil (e91)
/-! impl.turned -/
def p44 : List SP := [.t .place, .one (.int .i64)]
def r44 : List SP := [.t .place]
abbrev T44 := Place × Int × Unit → Option (Place × Unit)
abbrev N44 (f : T44) : Entry := mkE p44 r44 false f
def q44_0 : List SP := pat 17 0 [(2, .boxt 5000001 .place), (4, .boxt 5000002 .place), (6, .one (.int .i64)), (7, .one (.int .i64))]
noncomputable def s44_0 (f91 : T91) (t2 : Place × Place × Int × Int × Unit) (rec K : Place × Place × Int × Int × Unit → Option (Place × Unit)) : Option (Place × Unit) :=
  cond (decide (t2.2.2.2.1 < t2.2.2.1)) (rec ((⟨(w64 (0 - t2.1.Y)), t2.1.X⟩ : Place), t2.2.1, t2.2.2.1, (w64 (t2.2.2.2.1 + 1)), ())) (K (t2.1, t2.2.1, t2.2.2.1, t2.2.2.2.1, ()))
noncomputable def F44 (f91 : T91) (a : Place × Int × Unit) : Option (Place × Unit) :=
  (f91 (a.2.1, ())).bind fun x1 => iterF (s44_0 f91) fuel (a.1, (⟨0, 0⟩ : Place), x1.1, 0, ()) fun t3 => some (t3.1, ())
def E44 (f91 : T91) : Env := envL [(91, N91 f91)]
noncomputable def L44 (f91 : T91) : LEnv (densS (muts p44 ++ r44)) := lenv [(0, loopL (R := densS (muts p44 ++ r44)) q44_0 (s44_0 f91))]
theorem e44_0 (f91 : T91) (X : Nat → St → Option (densS (muts p44 ++ r44))) (rec K : densS q44_0 → Option (densS (muts p44 ++ r44))) (t : densS q44_0) :
    ev (E44 f91) tab2 (fun _ => false) (L44 f91) (retK tab2 p44 r44 Proofs.Tryz.f44.results.toList) (loopC Proofs.Tryz.f44 0) (fun i s => cond (Nat.beq i 0) (decK 100 q44_0 s K) (X i s)) (fun s => decK 100 q44_0 s rec) (enc q44_0 t) = s44_0 f91 t rec K := by kernel_rfl
theorem e44 (f91 : T91) (a : densS p44) : runF (E44 f91) tab2 (fun _ => false) p44 r44 Proofs.Tryz.f44 (L44 f91) a = F44 f91 a := by kernel_rfl
theorem ok44 {f91 : T91} (h91 : OK Proofs.Tryz.prog 91 (N91 f91)) : OK Proofs.Tryz.prog 44 (mkE p44 r44 false (F44 f91)) :=
  fn_ok (E := E44 f91) tab_ok2 (envL_ok (OKs.cons h91 OKs.nil)) mixed2 (ann := (fun _ => false)) (L := L44 f91) (fn := Proofs.Tryz.f44) (c := bodyC Proofs.Tryz.f44) (ls := [(0, loopC Proofs.Tryz.f44 0)]) Proofs.Tryz.func44 (by kernel_rfl) (by kernel_rfl) (by kernel_rfl) (by kernel_rfl)
    (LoopsP.cons q44_0 (s44_0 f91) rfl (e44_0 f91) LoopsP.nil) (e44 f91)
/-! impl.TurnPlace -/
def p14 : List SP := [.t .place, .one (.int .i64)]
def r14 : List SP := [.t .place]
abbrev T14 := Place × Int × Unit → Option (Place × Unit)
abbrev N14 (f : T14) : Entry := mkE p14 r14 false f
noncomputable def F14 (f43 : T43) (f44 : T44) (a : Place × Int × Unit) : Option (Place × Unit) :=
  (f43 (a.1, ())).bind fun x1 => cond (!x1.1) (some ((⟨0, 0⟩ : Place), ())) ((f44 (a.1, a.2.1, ())).bind fun x2 => some (x2.1, ()))
def E14 (f43 : T43) (f44 : T44) : Env := envL [(43, N43 f43), (44, N44 f44)]
noncomputable def L14 (f43 : T43) (f44 : T44) : LEnv (densS (muts p14 ++ r14)) := lenv []
theorem e14 (f43 : T43) (f44 : T44) (a : densS p14) : runF (E14 f43 f44) tab2 (fun _ => false) p14 r14 Proofs.Tryz.f14 (L14 f43 f44) a = F14 f43 f44 a := by kernel_rfl
theorem ok14 {f43 : T43} {f44 : T44} (h43 : OK Proofs.Tryz.prog 43 (N43 f43)) (h44 : OK Proofs.Tryz.prog 44 (N44 f44)) : OK Proofs.Tryz.prog 14 (mkE p14 r14 false (F14 f43 f44)) :=
  fn_ok (E := E14 f43 f44) tab_ok2 (envL_ok (OKs.cons h43 (OKs.cons h44 OKs.nil))) mixed2 (ann := (fun _ => false)) (L := L14 f43 f44) (fn := Proofs.Tryz.f14) (c := bodyC Proofs.Tryz.f14) (ls := []) Proofs.Tryz.func14 (by kernel_rfl) (by kernel_rfl) (by kernel_rfl) (by kernel_rfl)
    LoopsP.nil (e14 f43 f44)
/-! impl.IsName -/
def p133 : List SP := [.one (.str)]
def r133 : List SP := [.one (.bool)]
abbrev T133 := Str × Unit → Option (Bool × Unit)
abbrev N133 (f : T133) : Entry := mkE p133 r133 false f
def q133_0 : List SP := pat 42 0 [(0, .one (.str)), (6, .one (.int .i64)), (7, .one (.int .i64))]
noncomputable def s133_0 (f42 : T42) (t1 : Str × Int × Int × Unit) (rec K : Str × Int × Int × Unit → Option (Bool × Unit)) : Option (Bool × Unit) :=
  cond (decide (t1.2.2.1 < t1.2.1)) (rdL t1.1 t1.2.2.1 fun d2 => cond (decide ((Int.ofNat (UInt8.toNat d2)) ≥ 97)) (rdL t1.1 t1.2.2.1 fun d3 => cond (!(decide ((Int.ofNat (UInt8.toNat d3)) ≤ 122))) (cond (!(decide (t1.2.2.1 = 0))) (rdL t1.1 t1.2.2.1 fun d4 => cond (!(decide ((Int.ofNat (UInt8.toNat d4)) < 48))) (rdL t1.1 t1.2.2.1 fun d5 => cond (decide ((Int.ofNat (UInt8.toNat d5)) > 57)) (some (false, ())) (rec (t1.1, t1.2.1, (w64 (t1.2.2.1 + 1)), ()))) (some (false, ()))) (some (false, ()))) (rec (t1.1, t1.2.1, (w64 (t1.2.2.1 + 1)), ()))) (cond (!(decide (t1.2.2.1 = 0))) (rdL t1.1 t1.2.2.1 fun d6 => cond (!(decide ((Int.ofNat (UInt8.toNat d6)) < 48))) (rdL t1.1 t1.2.2.1 fun d7 => cond (decide ((Int.ofNat (UInt8.toNat d7)) > 57)) (some (false, ())) (rec (t1.1, t1.2.1, (w64 (t1.2.2.1 + 1)), ()))) (some (false, ()))) (some (false, ())))) (K (t1.1, t1.2.1, t1.2.2.1, ()))
noncomputable def F133 (f42 : T42) (a : Str × Unit) : Option (Bool × Unit) :=
  iterF (s133_0 f42) fuel (a.1, (Int.ofNat (List.length a.1)), 0, ()) fun t8 => (f42 ((Int.ofNat (List.length t8.1)), 1, 8, ())).bind fun x9 => some (x9.1, ())
def E133 (f42 : T42) : Env := envL [(42, N42 f42)]
noncomputable def L133 (f42 : T42) : LEnv (densS (muts p133 ++ r133)) := lenv [(0, loopL (R := densS (muts p133 ++ r133)) q133_0 (s133_0 f42))]
theorem e133_0 (f42 : T42) (X : Nat → St → Option (densS (muts p133 ++ r133))) (rec K : densS q133_0 → Option (densS (muts p133 ++ r133))) (t : densS q133_0) :
    ev (E133 f42) tab2 (fun _ => false) (L133 f42) (retK tab2 p133 r133 Proofs.Tryz.f133.results.toList) (loopC Proofs.Tryz.f133 0) (fun i s => cond (Nat.beq i 0) (decK 100 q133_0 s K) (X i s)) (fun s => decK 100 q133_0 s rec) (enc q133_0 t) = s133_0 f42 t rec K := by kernel_rfl
theorem e133 (f42 : T42) (a : densS p133) : runF (E133 f42) tab2 (fun _ => false) p133 r133 Proofs.Tryz.f133 (L133 f42) a = F133 f42 a := by kernel_rfl
theorem ok133 {f42 : T42} (h42 : OK Proofs.Tryz.prog 42 (N42 f42)) : OK Proofs.Tryz.prog 133 (mkE p133 r133 false (F133 f42)) :=
  fn_ok (E := E133 f42) tab_ok2 (envL_ok (OKs.cons h42 OKs.nil)) mixed2 (ann := (fun _ => false)) (L := L133 f42) (fn := Proofs.Tryz.f133) (c := bodyC Proofs.Tryz.f133) (ls := [(0, loopC Proofs.Tryz.f133 0)]) Proofs.Tryz.func133 (by kernel_rfl) (by kernel_rfl) (by kernel_rfl) (by kernel_rfl)
    (LoopsP.cons q133_0 (s133_0 f42) rfl (e133_0 f42) LoopsP.nil) (e133 f42)
/-! impl.isSupply -/
def p134 : List SP := [.one (.int .i64)]
def r134 : List SP := [.one (.bool)]
abbrev T134 := Int × Unit → Option (Bool × Unit)
abbrev N134 (f : T134) : Entry := mkE p134 r134 false f
noncomputable def F134 (f42 : T42) (a : Int × Unit) : Option (Bool × Unit) :=
  (f42 (a.1, 0, 512, ())).bind fun x1 => some (x1.1, ())
def E134 (f42 : T42) : Env := envL [(42, N42 f42)]
noncomputable def L134 (f42 : T42) : LEnv (densS (muts p134 ++ r134)) := lenv []
theorem e134 (f42 : T42) (a : densS p134) : runF (E134 f42) tab2 (fun _ => false) p134 r134 Proofs.Tryz.f134 (L134 f42) a = F134 f42 a := by kernel_rfl
theorem ok134 {f42 : T42} (h42 : OK Proofs.Tryz.prog 42 (N42 f42)) : OK Proofs.Tryz.prog 134 (mkE p134 r134 false (F134 f42)) :=
  fn_ok (E := E134 f42) tab_ok2 (envL_ok (OKs.cons h42 OKs.nil)) mixed2 (ann := (fun _ => false)) (L := L134 f42) (fn := Proofs.Tryz.f134) (c := bodyC Proofs.Tryz.f134) (ls := []) Proofs.Tryz.func134 (by kernel_rfl) (by kernel_rfl) (by kernel_rfl) (by kernel_rfl)
    LoopsP.nil (e134 f42)
/-! impl.IsHeading -/
def p126 : List SP := [.one (.int .i64)]
def r126 : List SP := [.one (.bool)]
abbrev T126 := Int × Unit → Option (Bool × Unit)
abbrev N126 (f : T126) : Entry := mkE p126 r126 false f
noncomputable def F126 (f42 : T42) (a : Int × Unit) : Option (Bool × Unit) :=
  (f42 (a.1, 0, 3, ())).bind fun x1 => some (x1.1, ())
def E126 (f42 : T42) : Env := envL [(42, N42 f42)]
noncomputable def L126 (f42 : T42) : LEnv (densS (muts p126 ++ r126)) := lenv []
theorem e126 (f42 : T42) (a : densS p126) : runF (E126 f42) tab2 (fun _ => false) p126 r126 Proofs.Tryz.f126 (L126 f42) a = F126 f42 a := by kernel_rfl
theorem ok126 {f42 : T42} (h42 : OK Proofs.Tryz.prog 42 (N42 f42)) : OK Proofs.Tryz.prog 126 (mkE p126 r126 false (F126 f42)) :=
  fn_ok (E := E126 f42) tab_ok2 (envL_ok (OKs.cons h42 OKs.nil)) mixed2 (ann := (fun _ => false)) (L := L126 f42) (fn := Proofs.Tryz.f126) (c := bodyC Proofs.Tryz.f126) (ls := []) Proofs.Tryz.func126 (by kernel_rfl) (by kernel_rfl) (by kernel_rfl) (by kernel_rfl)
    LoopsP.nil (e126 f42)
/-! impl.IsJet -/
def p129 : List SP := [.t .jet]
def r129 : List SP := [.one (.bool)]
abbrev T129 := Jet × Unit → Option (Bool × Unit)
abbrev N129 (f : T129) : Entry := mkE p129 r129 false f
noncomputable def F129 (f42 : T42) (f126 : T126) (a : Jet × Unit) : Option (Bool × Unit) :=
  (f42 (a.1.At.X, (-1024), 1024, ())).bind fun x1 => cond x1.1 ((f42 (a.1.At.Y, (-1024), 1024, ())).bind fun x2 => cond x2.1 ((f126 (a.1.Heading, ())).bind fun x3 => cond x3.1 ((f42 (a.1.Tilt, 0, 16, ())).bind fun x4 => cond x4.1 ((f42 (a.1.Lift, 1, 32, ())).bind fun x5 => some (x5.1, ())) (some (false, ()))) (some (false, ()))) (some (false, ()))) (some (false, ()))
def E129 (f42 : T42) (f126 : T126) : Env := envL [(42, N42 f42), (126, N126 f126)]
noncomputable def L129 (f42 : T42) (f126 : T126) : LEnv (densS (muts p129 ++ r129)) := lenv []
theorem e129 (f42 : T42) (f126 : T126) (a : densS p129) : runF (E129 f42 f126) tab2 (fun _ => false) p129 r129 Proofs.Tryz.f129 (L129 f42 f126) a = F129 f42 f126 a := by kernel_rfl
theorem ok129 {f42 : T42} {f126 : T126} (h42 : OK Proofs.Tryz.prog 42 (N42 f42)) (h126 : OK Proofs.Tryz.prog 126 (N126 f126)) : OK Proofs.Tryz.prog 129 (mkE p129 r129 false (F129 f42 f126)) :=
  fn_ok (E := E129 f42 f126) tab_ok2 (envL_ok (OKs.cons h42 (OKs.cons h126 OKs.nil))) mixed2 (ann := (fun _ => false)) (L := L129 f42 f126) (fn := Proofs.Tryz.f129) (c := bodyC Proofs.Tryz.f129) (ls := []) Proofs.Tryz.func129 (by kernel_rfl) (by kernel_rfl) (by kernel_rfl) (by kernel_rfl)
    LoopsP.nil (e129 f42 f126)
/-! impl.IsDevice -/
def p85 : List SP := [.t .device]
def r85 : List SP := [.one (.bool)]
abbrev T85 := Device × Unit → Option (Bool × Unit)
abbrev N85 (f : T85) : Entry := mkE p85 r85 false f
noncomputable def F85 (f133 : T133) (f134 : T134) (f129 : T129) (f42 : T42) (f43 : T43) (a : Device × Unit) : Option (Bool × Unit) :=
  (f133 (a.1.Name, ())).bind fun x1 => cond (!x1.1) (some (false, ())) (cond (decide (a.1.Kind = 1)) (cond (decide (a.1.Name = a.1.Name) && (decide (a.1.Kind = a.1.Kind) && (decide (a.1.Line = []) && (decide (a.1.At.X = 0) && (decide (a.1.At.Y = 0) && (decide (a.1.Heading = 0) && (decide (a.1.Tilt = 0) && (decide (a.1.Most = a.1.Most) && true)))))))) ((f134 (a.1.Most, ())).bind fun x2 => some (x2.1, ())) (some (false, ()))) (cond (decide (a.1.Kind = 2)) ((f133 (a.1.Line, ())).bind fun x3 => cond x3.1 (cond (!decide (a.1.Line = a.1.Name)) ((f129 ((⟨⟨a.1.At.X, a.1.At.Y⟩, a.1.Heading, a.1.Tilt, 1⟩ : Jet), ())).bind fun x4 => cond x4.1 ((f42 (a.1.Most, 0, 32, ())).bind fun x5 => some (x5.1, ())) (some (false, ()))) (some (false, ()))) (some (false, ()))) (cond (decide (a.1.Kind = 3)) (cond (decide (a.1.Name = a.1.Name) && (decide (a.1.Kind = a.1.Kind) && (decide (a.1.Line = a.1.Line) && (decide (a.1.At.X = a.1.At.X) && (decide (a.1.At.Y = a.1.At.Y) && (decide (a.1.Heading = 0) && (decide (a.1.Tilt = 0) && (decide (a.1.Most = 0) && true)))))))) ((f133 (a.1.Line, ())).bind fun x6 => cond x6.1 (cond (!decide (a.1.Line = a.1.Name)) ((f43 (a.1.At, ())).bind fun x7 => some (x7.1, ())) (some (false, ()))) (some (false, ()))) (some (false, ()))) (some (false, ())))))
def E85 (f133 : T133) (f134 : T134) (f129 : T129) (f42 : T42) (f43 : T43) : Env := envL [(133, N133 f133), (134, N134 f134), (129, N129 f129), (42, N42 f42), (43, N43 f43)]
noncomputable def L85 (f133 : T133) (f134 : T134) (f129 : T129) (f42 : T42) (f43 : T43) : LEnv (densS (muts p85 ++ r85)) := lenv []
theorem e85 (f133 : T133) (f134 : T134) (f129 : T129) (f42 : T42) (f43 : T43) (a : densS p85) : runF (E85 f133 f134 f129 f42 f43) tab2 (fun _ => false) p85 r85 Proofs.Tryz.f85 (L85 f133 f134 f129 f42 f43) a = F85 f133 f134 f129 f42 f43 a := by kernel_rfl
theorem ok85 {f133 : T133} {f134 : T134} {f129 : T129} {f42 : T42} {f43 : T43} (h133 : OK Proofs.Tryz.prog 133 (N133 f133)) (h134 : OK Proofs.Tryz.prog 134 (N134 f134)) (h129 : OK Proofs.Tryz.prog 129 (N129 f129)) (h42 : OK Proofs.Tryz.prog 42 (N42 f42)) (h43 : OK Proofs.Tryz.prog 43 (N43 f43)) : OK Proofs.Tryz.prog 85 (mkE p85 r85 false (F85 f133 f134 f129 f42 f43)) :=
  fn_ok (E := E85 f133 f134 f129 f42 f43) tab_ok2 (envL_ok (OKs.cons h133 (OKs.cons h134 (OKs.cons h129 (OKs.cons h42 (OKs.cons h43 OKs.nil)))))) mixed2 (ann := (fun _ => false)) (L := L85 f133 f134 f129 f42 f43) (fn := Proofs.Tryz.f85) (c := bodyC Proofs.Tryz.f85) (ls := []) Proofs.Tryz.func85 (by kernel_rfl) (by kernel_rfl) (by kernel_rfl) (by kernel_rfl)
    LoopsP.nil (e85 f133 f134 f129 f42 f43)
/-! impl.FindDevice$1 -/
def p174 : List SP := [.t .device, .sp [.str]]
def r174 : List SP := [.one (.bool)]
abbrev T174 := Device × (Str × Unit) × Unit → Option (Bool × Unit)
abbrev N174 (f : T174) : Entry := mkE p174 r174 false f
noncomputable def F174 (a : Device × (Str × Unit) × Unit) : Option (Bool × Unit) :=
  some ((decide (a.1.Name = a.2.1.1)), ())
def E174 : Env := envL []
noncomputable def L174 : LEnv (densS (muts p174 ++ r174)) := lenv []
theorem e174 (a : densS p174) : runF (E174) tab2 (fun _ => false) p174 r174 Proofs.Tryz.f174 (L174) a = F174 a := by kernel_rfl
theorem ok174 : OK Proofs.Tryz.prog 174 (mkE p174 r174 false (F174)) :=
  fn_ok (E := E174) tab_ok2 (envL_ok OKs.nil) mixed2 (ann := (fun _ => false)) (L := L174) (fn := Proofs.Tryz.f174) (c := bodyC Proofs.Tryz.f174) (ls := []) Proofs.Tryz.func174 (by kernel_rfl) (by kernel_rfl) (by kernel_rfl) (by kernel_rfl)
    LoopsP.nil (e174)
/-! slices.IndexFunc[[]impl.Device,impl.Device] -/
def p173 : List SP := [.one (.r .device), .fn 174 [.str]]
def r173 : List SP := [.one (.int .i64)]
abbrev T173 := List Device × (Str × Unit) × Unit → Option (Int × Unit)
abbrev N173 (f : T173) : Entry := mkE p173 r173 false f
def q173_0 : List SP := pat 19 0 [(0, .one (.r .device)), (1, .fn 174 [.str]), (7, .one (.int .i64)), (8, .one (.int .i64))]
noncomputable def s173_0 (f174 : T174) (t1 : List Device × (Str × Unit) × Int × Int × Unit) (rec K : List Device × (Str × Unit) × Int × Int × Unit → Option (Int × Unit)) : Option (Int × Unit) :=
  cond (decide (t1.2.2.2.1 < t1.2.2.1)) (rdL t1.1 t1.2.2.2.1 fun d2 => (f174 (d2, (t1.2.1.1, ()), ())).bind fun x3 => cond x3.1 (some (t1.2.2.2.1, ())) (rec (t1.1, (t1.2.1.1, ()), t1.2.2.1, (w64 (t1.2.2.2.1 + 1)), ()))) (K (t1.1, (t1.2.1.1, ()), t1.2.2.1, t1.2.2.2.1, ()))
noncomputable def F173 (f174 : T174) (a : List Device × (Str × Unit) × Unit) : Option (Int × Unit) :=
  iterF (s173_0 f174) fuel (a.1, (a.2.1.1, ()), (Int.ofNat (List.length a.1)), 0, ()) fun t4 => some ((-1), ())
def E173 (f174 : T174) : Env := envL [(174, N174 f174)]
noncomputable def L173 (f174 : T174) : LEnv (densS (muts p173 ++ r173)) := lenv [(0, loopL (R := densS (muts p173 ++ r173)) q173_0 (s173_0 f174))]
theorem e173_0 (f174 : T174) (X : Nat → St → Option (densS (muts p173 ++ r173))) (rec K : densS q173_0 → Option (densS (muts p173 ++ r173))) (t : densS q173_0) :
    ev (E173 f174) tab2 (fun _ => false) (L173 f174) (retK tab2 p173 r173 Proofs.Tryz.f173.results.toList) (loopC Proofs.Tryz.f173 0) (fun i s => cond (Nat.beq i 0) (decK 100 q173_0 s K) (X i s)) (fun s => decK 100 q173_0 s rec) (enc q173_0 t) = s173_0 f174 t rec K := by kernel_rfl
theorem e173 (f174 : T174) (a : densS p173) : runF (E173 f174) tab2 (fun _ => false) p173 r173 Proofs.Tryz.f173 (L173 f174) a = F173 f174 a := by kernel_rfl
theorem ok173 {f174 : T174} (h174 : OK Proofs.Tryz.prog 174 (N174 f174)) : OK Proofs.Tryz.prog 173 (mkE p173 r173 false (F173 f174)) :=
  fn_ok (E := E173 f174) tab_ok2 (envL_ok (OKs.cons h174 OKs.nil)) mixed2 (ann := (fun _ => false)) (L := L173 f174) (fn := Proofs.Tryz.f173) (c := bodyC Proofs.Tryz.f173) (ls := [(0, loopC Proofs.Tryz.f173 0)]) Proofs.Tryz.func173 (by kernel_rfl) (by kernel_rfl) (by kernel_rfl) (by kernel_rfl)
    (LoopsP.cons q173_0 (s173_0 f174) rfl (e173_0 f174) LoopsP.nil) (e173 f174)
/-! impl.FindDevice -/
def p135 : List SP := [.one (.r .device), .one (.str)]
def r135 : List SP := [.one (.int .i64)]
abbrev T135 := List Device × Str × Unit → Option (Int × Unit)
abbrev N135 (f : T135) : Entry := mkE p135 r135 false f
noncomputable def F135 (f173 : T173) (a : List Device × Str × Unit) : Option (Int × Unit) :=
  (f173 (a.1, (a.2.1, ()), ())).bind fun x1 => some (x1.1, ())
def E135 (f173 : T173) : Env := envL [(173, N173 f173)]
noncomputable def L135 (f173 : T173) : LEnv (densS (muts p135 ++ r135)) := lenv []
theorem e135 (f173 : T173) (a : densS p135) : runF (E135 f173) tab2 (fun _ => false) p135 r135 Proofs.Tryz.f135 (L135 f173) a = F135 f173 a := by kernel_rfl
theorem ok135 {f173 : T173} (h173 : OK Proofs.Tryz.prog 173 (N173 f173)) : OK Proofs.Tryz.prog 135 (mkE p135 r135 false (F135 f173)) :=
  fn_ok (E := E135 f173) tab_ok2 (envL_ok (OKs.cons h173 OKs.nil)) mixed2 (ann := (fun _ => false)) (L := L135 f173) (fn := Proofs.Tryz.f135) (c := bodyC Proofs.Tryz.f135) (ls := []) Proofs.Tryz.func135 (by kernel_rfl) (by kernel_rfl) (by kernel_rfl) (by kernel_rfl)
    LoopsP.nil (e135 f173)
/-! impl.isHung -/
def p86 : List SP := [.one (.r .device), .t .device]
def r86 : List SP := [.one (.bool)]
abbrev T86 := List Device × Device × Unit → Option (Bool × Unit)
abbrev N86 (f : T86) : Entry := mkE p86 r86 false f
noncomputable def F86 (f135 : T135) (a : List Device × Device × Unit) : Option (Bool × Unit) :=
  cond (decide (a.2.1.Kind = 1)) (some (true, ())) ((f135 (a.1, a.2.1.Line, ())).bind fun x1 => cond (decide (x1.1 ≥ 0)) (rdL a.1 x1.1 fun d2 => some ((decide (d2.Kind = (w64 (a.2.1.Kind - 1)))), ())) (some (false, ())))
def E86 (f135 : T135) : Env := envL [(135, N135 f135)]
noncomputable def L86 (f135 : T135) : LEnv (densS (muts p86 ++ r86)) := lenv []
theorem e86 (f135 : T135) (a : densS p86) : runF (E86 f135) tab2 (fun _ => false) p86 r86 Proofs.Tryz.f86 (L86 f135) a = F86 f135 a := by kernel_rfl
theorem ok86 {f135 : T135} (h135 : OK Proofs.Tryz.prog 135 (N135 f135)) : OK Proofs.Tryz.prog 86 (mkE p86 r86 false (F86 f135)) :=
  fn_ok (E := E86 f135) tab_ok2 (envL_ok (OKs.cons h135 OKs.nil)) mixed2 (ann := (fun _ => false)) (L := L86 f135) (fn := Proofs.Tryz.f86) (c := bodyC Proofs.Tryz.f86) (ls := []) Proofs.Tryz.func86 (by kernel_rfl) (by kernel_rfl) (by kernel_rfl) (by kernel_rfl)
    LoopsP.nil (e86 f135)
/-! impl.IsRig -/
def p39 : List SP := [.one (.r .device)]
def r39 : List SP := [.one (.bool)]
abbrev T39 := List Device × Unit → Option (Bool × Unit)
abbrev N39 (f : T39) : Entry := mkE p39 r39 false f
def q39_0 : List SP := pat 40 0 [(0, .one (.r .device)), (8, .one (.r .device)), (9, .one (.int .i64)), (10, .one (.int .i64))]
noncomputable def s39_0 (f85 : T85) (f86 : T86) (t1 : List Device × List Device × Int × Int × Unit) (rec K : List Device × List Device × Int × Int × Unit → Option (Bool × Unit)) : Option (Bool × Unit) :=
  cond (decide (t1.2.2.2.1 < t1.2.2.1)) (rdL t1.2.1 t1.2.2.2.1 fun d2 => (f85 (d2, ())).bind fun x3 => cond (!(!x3.1)) (cond (decide (t1.2.2.2.1 > 0)) (rdL t1.1 (w64 (t1.2.2.2.1 - 1)) fun d4 => cond (!(Op.bytesLess d2.Name d4.Name || decide (d2.Name = d4.Name))) ((f86 (t1.1, d2, ())).bind fun x5 => cond (!x5.1) (some (false, ())) (rec (t1.1, t1.2.1, t1.2.2.1, (w64 (t1.2.2.2.1 + 1)), ()))) (some (false, ()))) ((f86 (t1.1, d2, ())).bind fun x6 => cond (!x6.1) (some (false, ())) (rec (t1.1, t1.2.1, t1.2.2.1, (w64 (t1.2.2.2.1 + 1)), ())))) (some (false, ()))) (K (t1.1, t1.2.1, t1.2.2.1, t1.2.2.2.1, ()))
noncomputable def F39 (f85 : T85) (f86 : T86) (a : List Device × Unit) : Option (Bool × Unit) :=
  cond (decide ((Int.ofNat (List.length a.1)) > 8)) (some (false, ())) (iterF (s39_0 f85 f86) fuel (a.1, a.1, (Int.ofNat (List.length a.1)), 0, ()) fun t7 => some (true, ()))
def E39 (f85 : T85) (f86 : T86) : Env := envL [(85, N85 f85), (86, N86 f86)]
noncomputable def L39 (f85 : T85) (f86 : T86) : LEnv (densS (muts p39 ++ r39)) := lenv [(0, loopL (R := densS (muts p39 ++ r39)) q39_0 (s39_0 f85 f86))]
theorem e39_0 (f85 : T85) (f86 : T86) (X : Nat → St → Option (densS (muts p39 ++ r39))) (rec K : densS q39_0 → Option (densS (muts p39 ++ r39))) (t : densS q39_0) :
    ev (E39 f85 f86) tab2 (fun _ => false) (L39 f85 f86) (retK tab2 p39 r39 Proofs.Tryz.f39.results.toList) (loopC Proofs.Tryz.f39 0) (fun i s => cond (Nat.beq i 0) (decK 100 q39_0 s K) (X i s)) (fun s => decK 100 q39_0 s rec) (enc q39_0 t) = s39_0 f85 f86 t rec K := by kernel_rfl
theorem e39 (f85 : T85) (f86 : T86) (a : densS p39) : runF (E39 f85 f86) tab2 (fun _ => false) p39 r39 Proofs.Tryz.f39 (L39 f85 f86) a = F39 f85 f86 a := by kernel_rfl
theorem ok39 {f85 : T85} {f86 : T86} (h85 : OK Proofs.Tryz.prog 85 (N85 f85)) (h86 : OK Proofs.Tryz.prog 86 (N86 f86)) : OK Proofs.Tryz.prog 39 (mkE p39 r39 false (F39 f85 f86)) :=
  fn_ok (E := E39 f85 f86) tab_ok2 (envL_ok (OKs.cons h85 (OKs.cons h86 OKs.nil))) mixed2 (ann := (fun _ => false)) (L := L39 f85 f86) (fn := Proofs.Tryz.f39) (c := bodyC Proofs.Tryz.f39) (ls := [(0, loopC Proofs.Tryz.f39 0)]) Proofs.Tryz.func39 (by kernel_rfl) (by kernel_rfl) (by kernel_rfl) (by kernel_rfl)
    (LoopsP.cons q39_0 (s39_0 f85 f86) rfl (e39_0 f85 f86) LoopsP.nil) (e39 f85 f86)
/-! impl.IsCue -/
def p87 : List SP := [.t .cue]
def r87 : List SP := [.one (.bool)]
abbrev T87 := Cue × Unit → Option (Bool × Unit)
abbrev N87 (f : T87) : Entry := mkE p87 r87 false f
noncomputable def F87 (f42 : T42) (f133 : T133) (a : Cue × Unit) : Option (Bool × Unit) :=
  (f42 (a.1.Tick, 0, 64, ())).bind fun x1 => cond x1.1 ((f133 (a.1.Name, ())).bind fun x2 => cond x2.1 ((f42 (a.1.Level, 0, 32, ())).bind fun x3 => cond x3.1 ((f42 (a.1.Ramp, 0, 16, ())).bind fun x4 => some (x4.1, ())) (some (false, ()))) (some (false, ()))) (some (false, ()))
def E87 (f42 : T42) (f133 : T133) : Env := envL [(42, N42 f42), (133, N133 f133)]
noncomputable def L87 (f42 : T42) (f133 : T133) : LEnv (densS (muts p87 ++ r87)) := lenv []
theorem e87 (f42 : T42) (f133 : T133) (a : densS p87) : runF (E87 f42 f133) tab2 (fun _ => false) p87 r87 Proofs.Tryz.f87 (L87 f42 f133) a = F87 f42 f133 a := by kernel_rfl
theorem ok87 {f42 : T42} {f133 : T133} (h42 : OK Proofs.Tryz.prog 42 (N42 f42)) (h133 : OK Proofs.Tryz.prog 133 (N133 f133)) : OK Proofs.Tryz.prog 87 (mkE p87 r87 false (F87 f42 f133)) :=
  fn_ok (E := E87 f42 f133) tab_ok2 (envL_ok (OKs.cons h42 (OKs.cons h133 OKs.nil))) mixed2 (ann := (fun _ => false)) (L := L87 f42 f133) (fn := Proofs.Tryz.f87) (c := bodyC Proofs.Tryz.f87) (ls := []) Proofs.Tryz.func87 (by kernel_rfl) (by kernel_rfl) (by kernel_rfl) (by kernel_rfl)
    LoopsP.nil (e87 f42 f133)
/-! cmp.isNaN[int] -/
def p161 : List SP := [.one (.int .i64)]
def r161 : List SP := [.one (.bool)]
abbrev T161 := Int × Unit → Option (Bool × Unit)
abbrev N161 (f : T161) : Entry := mkE p161 r161 false f
noncomputable def F161 (a : Int × Unit) : Option (Bool × Unit) :=
  some ((!(decide (a.1 = a.1))), ())
def E161 : Env := envL []
noncomputable def L161 : LEnv (densS (muts p161 ++ r161)) := lenv []
theorem e161 (a : densS p161) : runF (E161) tab2 (fun _ => false) p161 r161 Proofs.Tryz.f161 (L161) a = F161 a := by kernel_rfl
theorem ok161 : OK Proofs.Tryz.prog 161 (mkE p161 r161 false (F161)) :=
  fn_ok (E := E161) tab_ok2 (envL_ok OKs.nil) mixed2 (ann := (fun _ => false)) (L := L161) (fn := Proofs.Tryz.f161) (c := bodyC Proofs.Tryz.f161) (ls := []) Proofs.Tryz.func161 (by kernel_rfl) (by kernel_rfl) (by kernel_rfl) (by kernel_rfl)
    LoopsP.nil (e161)
/-! cmp.Compare[int] -/
def p115 : List SP := [.one (.int .i64), .one (.int .i64)]
def r115 : List SP := [.one (.int .i64)]
abbrev T115 := Int × Int × Unit → Option (Int × Unit)
abbrev N115 (f : T115) : Entry := mkE p115 r115 false f
noncomputable def F115 (f161 : T161) (a : Int × Int × Unit) : Option (Int × Unit) :=
  (f161 (a.1, ())).bind fun x1 => (f161 (a.2.1, ())).bind fun x2 => cond x1.1 (cond x2.1 (some (0, ())) (some ((-1), ()))) (cond x2.1 (some (1, ())) (cond (decide (a.1 < a.2.1)) (some ((-1), ())) (cond (decide (a.1 > a.2.1)) (some (1, ())) (some (0, ())))))
def E115 (f161 : T161) : Env := envL [(161, N161 f161)]
noncomputable def L115 (f161 : T161) : LEnv (densS (muts p115 ++ r115)) := lenv []
theorem e115 (f161 : T161) (a : densS p115) : runF (E115 f161) tab2 (fun _ => false) p115 r115 Proofs.Tryz.f115 (L115 f161) a = F115 f161 a := by kernel_rfl
theorem ok115 {f161 : T161} (h161 : OK Proofs.Tryz.prog 161 (N161 f161)) : OK Proofs.Tryz.prog 115 (mkE p115 r115 false (F115 f161)) :=
  fn_ok (E := E115 f161) tab_ok2 (envL_ok (OKs.cons h161 OKs.nil)) mixed2 (ann := (fun _ => false)) (L := L115 f161) (fn := Proofs.Tryz.f115) (c := bodyC Proofs.Tryz.f115) (ls := []) Proofs.Tryz.func115 (by kernel_rfl) (by kernel_rfl) (by kernel_rfl) (by kernel_rfl)
    LoopsP.nil (e115 f161)
/-! cmp.isNaN[string] -/
def p175 : List SP := [.one (.str)]
def r175 : List SP := [.one (.bool)]
abbrev T175 := Str × Unit → Option (Bool × Unit)
abbrev N175 (f : T175) : Entry := mkE p175 r175 false f
noncomputable def F175 (a : Str × Unit) : Option (Bool × Unit) :=
  some ((!decide (a.1 = a.1)), ())
def E175 : Env := envL []
noncomputable def L175 : LEnv (densS (muts p175 ++ r175)) := lenv []
theorem e175 (a : densS p175) : runF (E175) tab2 (fun _ => false) p175 r175 Proofs.Tryz.f175 (L175) a = F175 a := by kernel_rfl
theorem ok175 : OK Proofs.Tryz.prog 175 (mkE p175 r175 false (F175)) :=
  fn_ok (E := E175) tab_ok2 (envL_ok OKs.nil) mixed2 (ann := (fun _ => false)) (L := L175) (fn := Proofs.Tryz.f175) (c := bodyC Proofs.Tryz.f175) (ls := []) Proofs.Tryz.func175 (by kernel_rfl) (by kernel_rfl) (by kernel_rfl) (by kernel_rfl)
    LoopsP.nil (e175)
/-! cmp.Compare[string] -/
def p136 : List SP := [.one (.str), .one (.str)]
def r136 : List SP := [.one (.int .i64)]
abbrev T136 := Str × Str × Unit → Option (Int × Unit)
abbrev N136 (f : T136) : Entry := mkE p136 r136 false f
noncomputable def F136 (f175 : T175) (a : Str × Str × Unit) : Option (Int × Unit) :=
  (f175 (a.1, ())).bind fun x1 => (f175 (a.2.1, ())).bind fun x2 => cond x1.1 (cond x2.1 (some (0, ())) (some ((-1), ()))) (cond x2.1 (some (1, ())) (cond (Op.bytesLess a.1 a.2.1) (some ((-1), ())) (cond (!(Op.bytesLess a.1 a.2.1 || decide (a.1 = a.2.1))) (some (1, ())) (some (0, ())))))
def E136 (f175 : T175) : Env := envL [(175, N175 f175)]
noncomputable def L136 (f175 : T175) : LEnv (densS (muts p136 ++ r136)) := lenv []
theorem e136 (f175 : T175) (a : densS p136) : runF (E136 f175) tab2 (fun _ => false) p136 r136 Proofs.Tryz.f136 (L136 f175) a = F136 f175 a := by kernel_rfl
theorem ok136 {f175 : T175} (h175 : OK Proofs.Tryz.prog 175 (N175 f175)) : OK Proofs.Tryz.prog 136 (mkE p136 r136 false (F136 f175)) :=
  fn_ok (E := E136 f175) tab_ok2 (envL_ok (OKs.cons h175 OKs.nil)) mixed2 (ann := (fun _ => false)) (L := L136 f175) (fn := Proofs.Tryz.f136) (c := bodyC Proofs.Tryz.f136) (ls := []) Proofs.Tryz.func136 (by kernel_rfl) (by kernel_rfl) (by kernel_rfl) (by kernel_rfl)
    LoopsP.nil (e136 f175)
/-! cmp.Or[int] -/
def p114 : List SP := [.one (.r .int)]
def r114 : List SP := [.one (.int .i64)]
abbrev T114 := List Int × Unit → Option (Int × Unit)
abbrev N114 (f : T114) : Entry := mkE p114 r114 false f
def q114_0 : List SP := pat 18 0 [(3, .one (.int .i64)), (6, .one (.r .int)), (7, .one (.int .i64)), (8, .one (.int .i64))]
noncomputable def s114_0 (t1 : Int × List Int × Int × Int × Unit) (rec K : Int × List Int × Int × Int × Unit → Option (Int × Unit)) : Option (Int × Unit) :=
  cond (decide (t1.2.2.2.1 < t1.2.2.1)) (rdL t1.2.1 t1.2.2.2.1 fun d2 => cond (!(decide (d2 = t1.1))) (some (d2, ())) (rec (t1.1, t1.2.1, t1.2.2.1, (w64 (t1.2.2.2.1 + 1)), ()))) (K (t1.1, t1.2.1, t1.2.2.1, t1.2.2.2.1, ()))
noncomputable def F114 (a : List Int × Unit) : Option (Int × Unit) :=
  iterF (s114_0) fuel (0, a.1, (Int.ofNat (List.length a.1)), 0, ()) fun t3 => some (t3.1, ())
def E114 : Env := envL []
noncomputable def L114 : LEnv (densS (muts p114 ++ r114)) := lenv [(0, loopL (R := densS (muts p114 ++ r114)) q114_0 (s114_0))]
theorem e114_0 (X : Nat → St → Option (densS (muts p114 ++ r114))) (rec K : densS q114_0 → Option (densS (muts p114 ++ r114))) (t : densS q114_0) :
    ev (E114) tab2 (fun _ => false) (L114) (retK tab2 p114 r114 Proofs.Tryz.f114.results.toList) (loopC Proofs.Tryz.f114 0) (fun i s => cond (Nat.beq i 0) (decK 100 q114_0 s K) (X i s)) (fun s => decK 100 q114_0 s rec) (enc q114_0 t) = s114_0 t rec K := by kernel_rfl
theorem e114 (a : densS p114) : runF (E114) tab2 (fun _ => false) p114 r114 Proofs.Tryz.f114 (L114) a = F114 a := by kernel_rfl
theorem ok114 : OK Proofs.Tryz.prog 114 (mkE p114 r114 false (F114)) :=
  fn_ok (E := E114) tab_ok2 (envL_ok OKs.nil) mixed2 (ann := (fun _ => false)) (L := L114) (fn := Proofs.Tryz.f114) (c := bodyC Proofs.Tryz.f114) (ls := [(0, loopC Proofs.Tryz.f114 0)]) Proofs.Tryz.func114 (by kernel_rfl) (by kernel_rfl) (by kernel_rfl) (by kernel_rfl)
    (LoopsP.cons q114_0 (s114_0) rfl (e114_0) LoopsP.nil) (e114)
/-! impl.CompareCues -/
def p88 : List SP := [.t .cue, .t .cue]
def r88 : List SP := [.one (.int .i64)]
abbrev T88 := Cue × Cue × Unit → Option (Int × Unit)
abbrev N88 (f : T88) : Entry := mkE p88 r88 false f
noncomputable def F88 (f115 : T115) (f136 : T136) (f114 : T114) (a : Cue × Cue × Unit) : Option (Int × Unit) :=
  (f115 (a.1.Tick, a.2.1.Tick, ())).bind fun x1 => (f136 (a.1.Name, a.2.1.Name, ())).bind fun x2 => (f114 (([x1.1, x2.1] : List Int), ())).bind fun x3 => some (x3.1, ())
def E88 (f115 : T115) (f136 : T136) (f114 : T114) : Env := envL [(115, N115 f115), (136, N136 f136), (114, N114 f114)]
noncomputable def L88 (f115 : T115) (f136 : T136) (f114 : T114) : LEnv (densS (muts p88 ++ r88)) := lenv []
theorem e88 (f115 : T115) (f136 : T136) (f114 : T114) (a : densS p88) : runF (E88 f115 f136 f114) tab2 (fun _ => false) p88 r88 Proofs.Tryz.f88 (L88 f115 f136 f114) a = F88 f115 f136 f114 a := by kernel_rfl
theorem ok88 {f115 : T115} {f136 : T136} {f114 : T114} (h115 : OK Proofs.Tryz.prog 115 (N115 f115)) (h136 : OK Proofs.Tryz.prog 136 (N136 f136)) (h114 : OK Proofs.Tryz.prog 114 (N114 f114)) : OK Proofs.Tryz.prog 88 (mkE p88 r88 false (F88 f115 f136 f114)) :=
  fn_ok (E := E88 f115 f136 f114) tab_ok2 (envL_ok (OKs.cons h115 (OKs.cons h136 (OKs.cons h114 OKs.nil)))) mixed2 (ann := (fun _ => false)) (L := L88 f115 f136 f114) (fn := Proofs.Tryz.f88) (c := bodyC Proofs.Tryz.f88) (ls := []) Proofs.Tryz.func88 (by kernel_rfl) (by kernel_rfl) (by kernel_rfl) (by kernel_rfl)
    LoopsP.nil (e88 f115 f136 f114)
/-! impl.IsScore -/
def p40 : List SP := [.one (.r .cue)]
def r40 : List SP := [.one (.bool)]
abbrev T40 := List Cue × Unit → Option (Bool × Unit)
abbrev N40 (f : T40) : Entry := mkE p40 r40 false f
def q40_0 : List SP := pat 33 0 [(0, .one (.r .cue)), (5, .one (.r .cue)), (6, .one (.int .i64)), (7, .one (.int .i64))]
noncomputable def s40_0 (f87 : T87) (f88 : T88) (t1 : List Cue × List Cue × Int × Int × Unit) (rec K : List Cue × List Cue × Int × Int × Unit → Option (Bool × Unit)) : Option (Bool × Unit) :=
  cond (decide (t1.2.2.2.1 < t1.2.2.1)) (rdL t1.2.1 t1.2.2.2.1 fun d2 => (f87 (d2, ())).bind fun x3 => cond (!(!x3.1)) (cond (decide (t1.2.2.2.1 > 0)) (rdL t1.1 (w64 (t1.2.2.2.1 - 1)) fun d4 => (f88 (d4, d2, ())).bind fun x5 => cond (decide (x5.1 ≥ 0)) (some (false, ())) (rec (t1.1, t1.2.1, t1.2.2.1, (w64 (t1.2.2.2.1 + 1)), ()))) (rec (t1.1, t1.2.1, t1.2.2.1, (w64 (t1.2.2.2.1 + 1)), ()))) (some (false, ()))) (K (t1.1, t1.2.1, t1.2.2.1, t1.2.2.2.1, ()))
noncomputable def F40 (f87 : T87) (f88 : T88) (a : List Cue × Unit) : Option (Bool × Unit) :=
  iterF (s40_0 f87 f88) fuel (a.1, a.1, (Int.ofNat (List.length a.1)), 0, ()) fun t6 => some ((decide ((Int.ofNat (List.length t6.1)) ≤ 12)), ())
def E40 (f87 : T87) (f88 : T88) : Env := envL [(87, N87 f87), (88, N88 f88)]
noncomputable def L40 (f87 : T87) (f88 : T88) : LEnv (densS (muts p40 ++ r40)) := lenv [(0, loopL (R := densS (muts p40 ++ r40)) q40_0 (s40_0 f87 f88))]
theorem e40_0 (f87 : T87) (f88 : T88) (X : Nat → St → Option (densS (muts p40 ++ r40))) (rec K : densS q40_0 → Option (densS (muts p40 ++ r40))) (t : densS q40_0) :
    ev (E40 f87 f88) tab2 (fun _ => false) (L40 f87 f88) (retK tab2 p40 r40 Proofs.Tryz.f40.results.toList) (loopC Proofs.Tryz.f40 0) (fun i s => cond (Nat.beq i 0) (decK 100 q40_0 s K) (X i s)) (fun s => decK 100 q40_0 s rec) (enc q40_0 t) = s40_0 f87 f88 t rec K := by kernel_rfl
theorem e40 (f87 : T87) (f88 : T88) (a : densS p40) : runF (E40 f87 f88) tab2 (fun _ => false) p40 r40 Proofs.Tryz.f40 (L40 f87 f88) a = F40 f87 f88 a := by kernel_rfl
theorem ok40 {f87 : T87} {f88 : T88} (h87 : OK Proofs.Tryz.prog 87 (N87 f87)) (h88 : OK Proofs.Tryz.prog 88 (N88 f88)) : OK Proofs.Tryz.prog 40 (mkE p40 r40 false (F40 f87 f88)) :=
  fn_ok (E := E40 f87 f88) tab_ok2 (envL_ok (OKs.cons h87 (OKs.cons h88 OKs.nil))) mixed2 (ann := (fun _ => false)) (L := L40 f87 f88) (fn := Proofs.Tryz.f40) (c := bodyC Proofs.Tryz.f40) (ls := [(0, loopC Proofs.Tryz.f40 0)]) Proofs.Tryz.func40 (by kernel_rfl) (by kernel_rfl) (by kernel_rfl) (by kernel_rfl)
    (LoopsP.cons q40_0 (s40_0 f87 f88) rfl (e40_0 f87 f88) LoopsP.nil) (e40 f87 f88)
/-! impl.isDrift -/
def p89 : List SP := [.t .place]
def r89 : List SP := [.one (.bool)]
abbrev T89 := Place × Unit → Option (Bool × Unit)
abbrev N89 (f : T89) : Entry := mkE p89 r89 false f
noncomputable def F89 (f42 : T42) (a : Place × Unit) : Option (Bool × Unit) :=
  (f42 (a.1.X, (-8), 8, ())).bind fun x1 => cond x1.1 ((f42 (a.1.Y, (-8), 8, ())).bind fun x2 => some (x2.1, ())) (some (false, ()))
def E89 (f42 : T42) : Env := envL [(42, N42 f42)]
noncomputable def L89 (f42 : T42) : LEnv (densS (muts p89 ++ r89)) := lenv []
theorem e89 (f42 : T42) (a : densS p89) : runF (E89 f42) tab2 (fun _ => false) p89 r89 Proofs.Tryz.f89 (L89 f42) a = F89 f42 a := by kernel_rfl
theorem ok89 {f42 : T42} (h42 : OK Proofs.Tryz.prog 42 (N42 f42)) : OK Proofs.Tryz.prog 89 (mkE p89 r89 false (F89 f42)) :=
  fn_ok (E := E89 f42) tab_ok2 (envL_ok (OKs.cons h42 OKs.nil)) mixed2 (ann := (fun _ => false)) (L := L89 f42) (fn := Proofs.Tryz.f89) (c := bodyC Proofs.Tryz.f89) (ls := []) Proofs.Tryz.func89 (by kernel_rfl) (by kernel_rfl) (by kernel_rfl) (by kernel_rfl)
    LoopsP.nil (e89 f42)
/-! impl.IsWind -/
def p41 : List SP := [.one (.r .gust)]
def r41 : List SP := [.one (.bool)]
abbrev T41 := List Gust × Unit → Option (Bool × Unit)
abbrev N41 (f : T41) : Entry := mkE p41 r41 false f
def q41_0 : List SP := pat 41 0 [(0, .one (.r .gust)), (5, .one (.r .gust)), (6, .one (.int .i64)), (7, .one (.int .i64))]
noncomputable def s41_0 (f42 : T42) (f89 : T89) (t1 : List Gust × List Gust × Int × Int × Unit) (rec K : List Gust × List Gust × Int × Int × Unit → Option (Bool × Unit)) : Option (Bool × Unit) :=
  cond (decide (t1.2.2.2.1 < t1.2.2.1)) (rdL t1.2.1 t1.2.2.2.1 fun d2 => (f42 (d2.From, 0, 64, ())).bind fun x3 => cond (!(!x3.1)) ((f89 (d2.Drift, ())).bind fun x4 => cond (!(!x4.1)) (cond (decide (t1.2.2.2.1 > 0)) (rdL t1.1 (w64 (t1.2.2.2.1 - 1)) fun d5 => cond (decide (d2.From ≤ d5.From)) (some (false, ())) (rec (t1.1, t1.2.1, t1.2.2.1, (w64 (t1.2.2.2.1 + 1)), ()))) (rec (t1.1, t1.2.1, t1.2.2.1, (w64 (t1.2.2.2.1 + 1)), ()))) (some (false, ()))) (some (false, ()))) (K (t1.1, t1.2.1, t1.2.2.1, t1.2.2.2.1, ()))
noncomputable def F41 (f42 : T42) (f89 : T89) (a : List Gust × Unit) : Option (Bool × Unit) :=
  iterF (s41_0 f42 f89) fuel (a.1, a.1, (Int.ofNat (List.length a.1)), 0, ()) fun t6 => some ((decide ((Int.ofNat (List.length t6.1)) ≤ 8)), ())
def E41 (f42 : T42) (f89 : T89) : Env := envL [(42, N42 f42), (89, N89 f89)]
noncomputable def L41 (f42 : T42) (f89 : T89) : LEnv (densS (muts p41 ++ r41)) := lenv [(0, loopL (R := densS (muts p41 ++ r41)) q41_0 (s41_0 f42 f89))]
theorem e41_0 (f42 : T42) (f89 : T89) (X : Nat → St → Option (densS (muts p41 ++ r41))) (rec K : densS q41_0 → Option (densS (muts p41 ++ r41))) (t : densS q41_0) :
    ev (E41 f42 f89) tab2 (fun _ => false) (L41 f42 f89) (retK tab2 p41 r41 Proofs.Tryz.f41.results.toList) (loopC Proofs.Tryz.f41 0) (fun i s => cond (Nat.beq i 0) (decK 100 q41_0 s K) (X i s)) (fun s => decK 100 q41_0 s rec) (enc q41_0 t) = s41_0 f42 f89 t rec K := by kernel_rfl
theorem e41 (f42 : T42) (f89 : T89) (a : densS p41) : runF (E41 f42 f89) tab2 (fun _ => false) p41 r41 Proofs.Tryz.f41 (L41 f42 f89) a = F41 f42 f89 a := by kernel_rfl
theorem ok41 {f42 : T42} {f89 : T89} (h42 : OK Proofs.Tryz.prog 42 (N42 f42)) (h89 : OK Proofs.Tryz.prog 89 (N89 f89)) : OK Proofs.Tryz.prog 41 (mkE p41 r41 false (F41 f42 f89)) :=
  fn_ok (E := E41 f42 f89) tab_ok2 (envL_ok (OKs.cons h42 (OKs.cons h89 OKs.nil))) mixed2 (ann := (fun _ => false)) (L := L41 f42 f89) (fn := Proofs.Tryz.f41) (c := bodyC Proofs.Tryz.f41) (ls := [(0, loopC Proofs.Tryz.f41 0)]) Proofs.Tryz.func41 (by kernel_rfl) (by kernel_rfl) (by kernel_rfl) (by kernel_rfl)
    (LoopsP.cons q41_0 (s41_0 f42 f89) rfl (e41_0 f42 f89) LoopsP.nil) (e41 f42 f89)
/-! impl.IsShow -/
def p12 : List SP := [.agg [.r .device, .r .cue, .r .gust, .int .i64]]
def r12 : List SP := [.one (.bool)]
abbrev T12 := ShD × Unit → Option (Bool × Unit)
abbrev N12 (f : T12) : Entry := mkE p12 r12 false f
noncomputable def F12 (f39 : T39) (f40 : T40) (f41 : T41) (f42 : T42) (a : ShD × Unit) : Option (Bool × Unit) :=
  (f39 (a.1.1, ())).bind fun x1 => cond x1.1 ((f40 (a.1.2.1, ())).bind fun x2 => cond x2.1 ((f41 (a.1.2.2.1, ())).bind fun x3 => cond x3.1 ((f42 (a.1.2.2.2.1, 0, 64, ())).bind fun x4 => some (x4.1, ())) (some (false, ()))) (some (false, ()))) (some (false, ()))
def E12 (f39 : T39) (f40 : T40) (f41 : T41) (f42 : T42) : Env := envL [(39, N39 f39), (40, N40 f40), (41, N41 f41), (42, N42 f42)]
noncomputable def L12 (f39 : T39) (f40 : T40) (f41 : T41) (f42 : T42) : LEnv (densS (muts p12 ++ r12)) := lenv []
theorem e12 (f39 : T39) (f40 : T40) (f41 : T41) (f42 : T42) (a : densS p12) : runF (E12 f39 f40 f41 f42) tab2 (fun _ => false) p12 r12 Proofs.Tryz.f12 (L12 f39 f40 f41 f42) a = F12 f39 f40 f41 f42 a := by kernel_rfl
theorem ok12 {f39 : T39} {f40 : T40} {f41 : T41} {f42 : T42} (h39 : OK Proofs.Tryz.prog 39 (N39 f39)) (h40 : OK Proofs.Tryz.prog 40 (N40 f40)) (h41 : OK Proofs.Tryz.prog 41 (N41 f41)) (h42 : OK Proofs.Tryz.prog 42 (N42 f42)) : OK Proofs.Tryz.prog 12 (mkE p12 r12 false (F12 f39 f40 f41 f42)) :=
  fn_ok (E := E12 f39 f40 f41 f42) tab_ok2 (envL_ok (OKs.cons h39 (OKs.cons h40 (OKs.cons h41 (OKs.cons h42 OKs.nil))))) mixed2 (ann := (fun _ => false)) (L := L12 f39 f40 f41 f42) (fn := Proofs.Tryz.f12) (c := bodyC Proofs.Tryz.f12) (ls := []) Proofs.Tryz.func12 (by kernel_rfl) (by kernel_rfl) (by kernel_rfl) (by kernel_rfl)
    LoopsP.nil (e12 f39 f40 f41 f42)
/-! impl.TurnHeading -/
def p79 : List SP := [.one (.int .i64), .one (.int .i64)]
def r79 : List SP := [.one (.int .i64)]
abbrev T79 := Int × Int × Unit → Option (Int × Unit)
abbrev N79 (f : T79) : Entry := mkE p79 r79 false f
noncomputable def F79 (f126 : T126) (f91 : T91) (a : Int × Int × Unit) : Option (Int × Unit) :=
  (f126 (a.1, ())).bind fun x1 => cond (!x1.1) (some (0, ())) ((f91 (a.2.1, ())).bind fun x2 => some ((Int.tmod (w64 (a.1 + x2.1)) 4), ()))
def E79 (f126 : T126) (f91 : T91) : Env := envL [(126, N126 f126), (91, N91 f91)]
noncomputable def L79 (f126 : T126) (f91 : T91) : LEnv (densS (muts p79 ++ r79)) := lenv []
theorem e79 (f126 : T126) (f91 : T91) (a : densS p79) : runF (E79 f126 f91) tab2 (fun _ => false) p79 r79 Proofs.Tryz.f79 (L79 f126 f91) a = F79 f126 f91 a := by kernel_rfl
theorem ok79 {f126 : T126} {f91 : T91} (h126 : OK Proofs.Tryz.prog 126 (N126 f126)) (h91 : OK Proofs.Tryz.prog 91 (N91 f91)) : OK Proofs.Tryz.prog 79 (mkE p79 r79 false (F79 f126 f91)) :=
  fn_ok (E := E79 f126 f91) tab_ok2 (envL_ok (OKs.cons h126 (OKs.cons h91 OKs.nil))) mixed2 (ann := (fun _ => false)) (L := L79 f126 f91) (fn := Proofs.Tryz.f79) (c := bodyC Proofs.Tryz.f79) (ls := []) Proofs.Tryz.func79 (by kernel_rfl) (by kernel_rfl) (by kernel_rfl) (by kernel_rfl)
    LoopsP.nil (e79 f126 f91)
/-! impl.TurnRig -/
def p33 : List SP := [.one (.r .device), .one (.int .i64)]
def r33 : List SP := [.one (.o 0 .device)]
abbrev T33 := List Device × Int × Unit → Option (List Device × Unit)
abbrev N33 (f : T33) : Entry := mkE p33 r33 false f
def q33_0 : List SP := pat 38 0 [(1, .one (.int .i64)), (5, .one (.o 5000001 .device)), (13, .one (.r .device)), (14, .one (.int .i64)), (15, .one (.int .i64))]
noncomputable def s33_0 (f39 : T39) (f44 : T44) (f79 : T79) (t2 : Int × List Device × List Device × Int × Int × Unit) (rec K : Int × List Device × List Device × Int × Int × Unit → Option (List Device × Unit)) : Option (List Device × Unit) :=
  cond (decide (t2.2.2.2.2.1 < t2.2.2.2.1)) (rdL t2.2.2.1 t2.2.2.2.2.1 fun d3 => (f44 (d3.At, t2.1, ())).bind fun x4 => cond (decide (d3.Kind = 2)) ((f79 (d3.Heading, t2.1, ())).bind fun x5 => capK (List.length t2.2.1 + List.length ([(⟨d3.Name, d3.Kind, d3.Line, ⟨x4.1.X, x4.1.Y⟩, x5.1, d3.Tilt, d3.Most⟩ : Device)] : List Device)) (rec (t2.1, (t2.2.1 ++ ([(⟨d3.Name, d3.Kind, d3.Line, ⟨x4.1.X, x4.1.Y⟩, x5.1, d3.Tilt, d3.Most⟩ : Device)] : List Device)), t2.2.2.1, t2.2.2.2.1, (w64 (t2.2.2.2.2.1 + 1)), ()))) (capK (List.length t2.2.1 + List.length ([(⟨d3.Name, d3.Kind, d3.Line, ⟨x4.1.X, x4.1.Y⟩, d3.Heading, d3.Tilt, d3.Most⟩ : Device)] : List Device)) (rec (t2.1, (t2.2.1 ++ ([(⟨d3.Name, d3.Kind, d3.Line, ⟨x4.1.X, x4.1.Y⟩, d3.Heading, d3.Tilt, d3.Most⟩ : Device)] : List Device)), t2.2.2.1, t2.2.2.2.1, (w64 (t2.2.2.2.2.1 + 1)), ())))) (K (t2.1, t2.2.1, t2.2.2.1, t2.2.2.2.1, t2.2.2.2.2.1, ()))
noncomputable def F33 (f39 : T39) (f44 : T44) (f79 : T79) (a : List Device × Int × Unit) : Option (List Device × Unit) :=
  (f39 (a.1, ())).bind fun x1 => cond (!x1.1) (some (([] : List Device), ())) (iterF (s33_0 f39 f44 f79) fuel (a.2.1, ([] : List Device), a.1, (Int.ofNat (List.length a.1)), 0, ()) fun t6 => some (t6.2.1, ()))
def E33 (f39 : T39) (f44 : T44) (f79 : T79) : Env := envL [(39, N39 f39), (44, N44 f44), (79, N79 f79)]
noncomputable def L33 (f39 : T39) (f44 : T44) (f79 : T79) : LEnv (densS (muts p33 ++ r33)) := lenv [(0, loopL (R := densS (muts p33 ++ r33)) q33_0 (s33_0 f39 f44 f79))]
theorem e33_0 (f39 : T39) (f44 : T44) (f79 : T79) (X : Nat → St → Option (densS (muts p33 ++ r33))) (rec K : densS q33_0 → Option (densS (muts p33 ++ r33))) (t : densS q33_0) :
    ev (E33 f39 f44 f79) tab2 (fun _ => false) (L33 f39 f44 f79) (retK tab2 p33 r33 Proofs.Tryz.f33.results.toList) (loopC Proofs.Tryz.f33 0) (fun i s => cond (Nat.beq i 0) (decK 100 q33_0 s K) (X i s)) (fun s => decK 100 q33_0 s rec) (enc q33_0 t) = s33_0 f39 f44 f79 t rec K := by kernel_rfl
theorem e33 (f39 : T39) (f44 : T44) (f79 : T79) (a : densS p33) : runF (E33 f39 f44 f79) tab2 (fun _ => false) p33 r33 Proofs.Tryz.f33 (L33 f39 f44 f79) a = F33 f39 f44 f79 a := by kernel_rfl
theorem ok33 {f39 : T39} {f44 : T44} {f79 : T79} (h39 : OK Proofs.Tryz.prog 39 (N39 f39)) (h44 : OK Proofs.Tryz.prog 44 (N44 f44)) (h79 : OK Proofs.Tryz.prog 79 (N79 f79)) : OK Proofs.Tryz.prog 33 (mkE p33 r33 false (F33 f39 f44 f79)) :=
  fn_ok (E := E33 f39 f44 f79) tab_ok2 (envL_ok (OKs.cons h39 (OKs.cons h44 (OKs.cons h79 OKs.nil)))) mixed2 (ann := (fun _ => false)) (L := L33 f39 f44 f79) (fn := Proofs.Tryz.f33) (c := bodyC Proofs.Tryz.f33) (ls := [(0, loopC Proofs.Tryz.f33 0)]) Proofs.Tryz.func33 (by kernel_rfl) (by kernel_rfl) (by kernel_rfl) (by kernel_rfl)
    (LoopsP.cons q33_0 (s33_0 f39 f44 f79) rfl (e33_0 f39 f44 f79) LoopsP.nil) (e33 f39 f44 f79)
/-! slices.Clone[[]impl.Cue,impl.Cue] -/
def p34 : List SP := [.one (.r .cue)]
def r34 : List SP := [.one (.o 0 .cue)]
abbrev T34 := List Cue × Unit → Option (List Cue × Unit)
abbrev N34 (f : T34) : Entry := mkE p34 r34 false f
noncomputable def F34 (a : List Cue × Unit) : Option (List Cue × Unit) :=
  emptyK (List.isEmpty a.1) (some ([], ())) (capK (List.length ([] : List Cue) + List.length a.1) (some ((([] : List Cue) ++ a.1), ())))
def E34 : Env := envL []
noncomputable def L34 : LEnv (densS (muts p34 ++ r34)) := lenv []
theorem e34 (a : densS p34) : runF (E34) tab2 (fun _ => false) p34 r34 Proofs.Tryz.f34 (L34) a = F34 a := by kernel_rfl
theorem ok34 : OK Proofs.Tryz.prog 34 (mkE p34 r34 false (F34)) :=
  fn_ok (E := E34) tab_ok2 (envL_ok OKs.nil) mixed2 (ann := (fun _ => false)) (L := L34) (fn := Proofs.Tryz.f34) (c := bodyC Proofs.Tryz.f34) (ls := []) Proofs.Tryz.func34 (by kernel_rfl) (by kernel_rfl) (by kernel_rfl) (by kernel_rfl)
    LoopsP.nil (e34)
/-! impl.TurnWind -/
def p35 : List SP := [.one (.r .gust), .one (.int .i64)]
def r35 : List SP := [.one (.o 0 .gust)]
abbrev T35 := List Gust × Int × Unit → Option (List Gust × Unit)
abbrev N35 (f : T35) : Entry := mkE p35 r35 false f
def q35_0 : List SP := pat 31 0 [(1, .one (.int .i64)), (5, .one (.o 5000001 .gust)), (13, .one (.r .gust)), (14, .one (.int .i64)), (15, .one (.int .i64))]
noncomputable def s35_0 (f41 : T41) (f44 : T44) (t2 : Int × List Gust × List Gust × Int × Int × Unit) (rec K : Int × List Gust × List Gust × Int × Int × Unit → Option (List Gust × Unit)) : Option (List Gust × Unit) :=
  cond (decide (t2.2.2.2.2.1 < t2.2.2.2.1)) (rdL t2.2.2.1 t2.2.2.2.2.1 fun d3 => (f44 (d3.Drift, t2.1, ())).bind fun x4 => capK (List.length t2.2.1 + List.length ([(⟨d3.From, ⟨x4.1.X, x4.1.Y⟩⟩ : Gust)] : List Gust)) (rec (t2.1, (t2.2.1 ++ ([(⟨d3.From, ⟨x4.1.X, x4.1.Y⟩⟩ : Gust)] : List Gust)), t2.2.2.1, t2.2.2.2.1, (w64 (t2.2.2.2.2.1 + 1)), ()))) (K (t2.1, t2.2.1, t2.2.2.1, t2.2.2.2.1, t2.2.2.2.2.1, ()))
noncomputable def F35 (f41 : T41) (f44 : T44) (a : List Gust × Int × Unit) : Option (List Gust × Unit) :=
  (f41 (a.1, ())).bind fun x1 => cond (!x1.1) (some (([] : List Gust), ())) (iterF (s35_0 f41 f44) fuel (a.2.1, ([] : List Gust), a.1, (Int.ofNat (List.length a.1)), 0, ()) fun t5 => some (t5.2.1, ()))
def E35 (f41 : T41) (f44 : T44) : Env := envL [(41, N41 f41), (44, N44 f44)]
noncomputable def L35 (f41 : T41) (f44 : T44) : LEnv (densS (muts p35 ++ r35)) := lenv [(0, loopL (R := densS (muts p35 ++ r35)) q35_0 (s35_0 f41 f44))]
theorem e35_0 (f41 : T41) (f44 : T44) (X : Nat → St → Option (densS (muts p35 ++ r35))) (rec K : densS q35_0 → Option (densS (muts p35 ++ r35))) (t : densS q35_0) :
    ev (E35 f41 f44) tab2 (fun _ => false) (L35 f41 f44) (retK tab2 p35 r35 Proofs.Tryz.f35.results.toList) (loopC Proofs.Tryz.f35 0) (fun i s => cond (Nat.beq i 0) (decK 100 q35_0 s K) (X i s)) (fun s => decK 100 q35_0 s rec) (enc q35_0 t) = s35_0 f41 f44 t rec K := by kernel_rfl
theorem e35 (f41 : T41) (f44 : T44) (a : densS p35) : runF (E35 f41 f44) tab2 (fun _ => false) p35 r35 Proofs.Tryz.f35 (L35 f41 f44) a = F35 f41 f44 a := by kernel_rfl
theorem ok35 {f41 : T41} {f44 : T44} (h41 : OK Proofs.Tryz.prog 41 (N41 f41)) (h44 : OK Proofs.Tryz.prog 44 (N44 f44)) : OK Proofs.Tryz.prog 35 (mkE p35 r35 false (F35 f41 f44)) :=
  fn_ok (E := E35 f41 f44) tab_ok2 (envL_ok (OKs.cons h41 (OKs.cons h44 OKs.nil))) mixed2 (ann := (fun _ => false)) (L := L35 f41 f44) (fn := Proofs.Tryz.f35) (c := bodyC Proofs.Tryz.f35) (ls := [(0, loopC Proofs.Tryz.f35 0)]) Proofs.Tryz.func35 (by kernel_rfl) (by kernel_rfl) (by kernel_rfl) (by kernel_rfl)
    (LoopsP.cons q35_0 (s35_0 f41 f44) rfl (e35_0 f41 f44) LoopsP.nil) (e35 f41 f44)
/-! impl.TurnShow -/
def p9 : List SP := [.agg [.r .device, .r .cue, .r .gust, .int .i64], .one (.int .i64)]
def r9 : List SP := [.agg [.o 0 .device, .o 1 .cue, .o 2 .gust, .int .i64]]
abbrev T9 := ShD × Int × Unit → Option (ShD × Unit)
abbrev N9 (f : T9) : Entry := mkE p9 r9 false f
noncomputable def F9 (f12 : T12) (f33 : T33) (f34 : T34) (f35 : T35) (a : ShD × Int × Unit) : Option (ShD × Unit) :=
  (f12 ((a.1.1, a.1.2.1, a.1.2.2.1, a.1.2.2.2.1, ()), ())).bind fun x1 => cond (!x1.1) (some (([], [], [], 0, ()), ())) ((f33 (a.1.1, a.2.1, ())).bind fun x2 => (f34 (a.1.2.1, ())).bind fun x3 => (f35 (a.1.2.2.1, a.2.1, ())).bind fun x4 => some ((x2.1, x3.1, x4.1, a.1.2.2.2.1, ()), ()))
def E9 (f12 : T12) (f33 : T33) (f34 : T34) (f35 : T35) : Env := envL [(12, N12 f12), (33, N33 f33), (34, N34 f34), (35, N35 f35)]
noncomputable def L9 (f12 : T12) (f33 : T33) (f34 : T34) (f35 : T35) : LEnv (densS (muts p9 ++ r9)) := lenv []
theorem e9 (f12 : T12) (f33 : T33) (f34 : T34) (f35 : T35) (a : densS p9) : runF (E9 f12 f33 f34 f35) tab2 (fun _ => false) p9 r9 Proofs.Tryz.f9 (L9 f12 f33 f34 f35) a = F9 f12 f33 f34 f35 a := by kernel_rfl
theorem ok9 {f12 : T12} {f33 : T33} {f34 : T34} {f35 : T35} (h12 : OK Proofs.Tryz.prog 12 (N12 f12)) (h33 : OK Proofs.Tryz.prog 33 (N33 f33)) (h34 : OK Proofs.Tryz.prog 34 (N34 f34)) (h35 : OK Proofs.Tryz.prog 35 (N35 f35)) : OK Proofs.Tryz.prog 9 (mkE p9 r9 false (F9 f12 f33 f34 f35)) :=
  fn_ok (E := E9 f12 f33 f34 f35) tab_ok2 (envL_ok (OKs.cons h12 (OKs.cons h33 (OKs.cons h34 (OKs.cons h35 OKs.nil))))) mixed2 (ann := (fun _ => false)) (L := L9 f12 f33 f34 f35) (fn := Proofs.Tryz.f9) (c := bodyC Proofs.Tryz.f9) (ls := []) Proofs.Tryz.func9 (by kernel_rfl) (by kernel_rfl) (by kernel_rfl) (by kernel_rfl)
    LoopsP.nil (e9 f12 f33 f34 f35)
/-! impl.ComparePlaces -/
def p65 : List SP := [.t .place, .t .place]
def r65 : List SP := [.one (.int .i64)]
abbrev T65 := Place × Place × Unit → Option (Int × Unit)
abbrev N65 (f : T65) : Entry := mkE p65 r65 false f
noncomputable def F65 (f115 : T115) (f114 : T114) (a : Place × Place × Unit) : Option (Int × Unit) :=
  (f115 (a.1.X, a.2.1.X, ())).bind fun x1 => (f115 (a.1.Y, a.2.1.Y, ())).bind fun x2 => (f114 (([x1.1, x2.1] : List Int), ())).bind fun x3 => some (x3.1, ())
def E65 (f115 : T115) (f114 : T114) : Env := envL [(115, N115 f115), (114, N114 f114)]
noncomputable def L65 (f115 : T115) (f114 : T114) : LEnv (densS (muts p65 ++ r65)) := lenv []
theorem e65 (f115 : T115) (f114 : T114) (a : densS p65) : runF (E65 f115 f114) tab2 (fun _ => false) p65 r65 Proofs.Tryz.f65 (L65 f115 f114) a = F65 f115 f114 a := by kernel_rfl
theorem ok65 {f115 : T115} {f114 : T114} (h115 : OK Proofs.Tryz.prog 115 (N115 f115)) (h114 : OK Proofs.Tryz.prog 114 (N114 f114)) : OK Proofs.Tryz.prog 65 (mkE p65 r65 false (F65 f115 f114)) :=
  fn_ok (E := E65 f115 f114) tab_ok2 (envL_ok (OKs.cons h115 (OKs.cons h114 OKs.nil))) mixed2 (ann := (fun _ => false)) (L := L65 f115 f114) (fn := Proofs.Tryz.f65) (c := bodyC Proofs.Tryz.f65) (ls := []) Proofs.Tryz.func65 (by kernel_rfl) (by kernel_rfl) (by kernel_rfl) (by kernel_rfl)
    LoopsP.nil (e65 f115 f114)
/-! impl.IsRose -/
def p57 : List SP := [.one (.r .place)]
def r57 : List SP := [.one (.bool)]
abbrev T57 := List Place × Unit → Option (Bool × Unit)
abbrev N57 (f : T57) : Entry := mkE p57 r57 false f
def q57_0 : List SP := pat 33 0 [(0, .one (.r .place)), (5, .one (.r .place)), (6, .one (.int .i64)), (7, .one (.int .i64))]
noncomputable def s57_0 (f89 : T89) (f65 : T65) (f42 : T42) (t1 : List Place × List Place × Int × Int × Unit) (rec K : List Place × List Place × Int × Int × Unit → Option (Bool × Unit)) : Option (Bool × Unit) :=
  cond (decide (t1.2.2.2.1 < t1.2.2.1)) (rdL t1.2.1 t1.2.2.2.1 fun d2 => (f89 (d2, ())).bind fun x3 => cond (!(!x3.1)) (cond (decide (t1.2.2.2.1 > 0)) (rdL t1.1 (w64 (t1.2.2.2.1 - 1)) fun d4 => (f65 (d4, d2, ())).bind fun x5 => cond (decide (x5.1 ≥ 0)) (some (false, ())) (rec (t1.1, t1.2.1, t1.2.2.1, (w64 (t1.2.2.2.1 + 1)), ()))) (rec (t1.1, t1.2.1, t1.2.2.1, (w64 (t1.2.2.2.1 + 1)), ()))) (some (false, ()))) (K (t1.1, t1.2.1, t1.2.2.1, t1.2.2.2.1, ()))
noncomputable def F57 (f89 : T89) (f65 : T65) (f42 : T42) (a : List Place × Unit) : Option (Bool × Unit) :=
  iterF (s57_0 f89 f65 f42) fuel (a.1, a.1, (Int.ofNat (List.length a.1)), 0, ()) fun t6 => (f42 ((Int.ofNat (List.length t6.1)), 1, 4, ())).bind fun x7 => some (x7.1, ())
def E57 (f89 : T89) (f65 : T65) (f42 : T42) : Env := envL [(89, N89 f89), (65, N65 f65), (42, N42 f42)]
noncomputable def L57 (f89 : T89) (f65 : T65) (f42 : T42) : LEnv (densS (muts p57 ++ r57)) := lenv [(0, loopL (R := densS (muts p57 ++ r57)) q57_0 (s57_0 f89 f65 f42))]
theorem e57_0 (f89 : T89) (f65 : T65) (f42 : T42) (X : Nat → St → Option (densS (muts p57 ++ r57))) (rec K : densS q57_0 → Option (densS (muts p57 ++ r57))) (t : densS q57_0) :
    ev (E57 f89 f65 f42) tab2 (fun _ => false) (L57 f89 f65 f42) (retK tab2 p57 r57 Proofs.Tryz.f57.results.toList) (loopC Proofs.Tryz.f57 0) (fun i s => cond (Nat.beq i 0) (decK 100 q57_0 s K) (X i s)) (fun s => decK 100 q57_0 s rec) (enc q57_0 t) = s57_0 f89 f65 f42 t rec K := by kernel_rfl
theorem e57 (f89 : T89) (f65 : T65) (f42 : T42) (a : densS p57) : runF (E57 f89 f65 f42) tab2 (fun _ => false) p57 r57 Proofs.Tryz.f57 (L57 f89 f65 f42) a = F57 f89 f65 f42 a := by kernel_rfl
theorem ok57 {f89 : T89} {f65 : T65} {f42 : T42} (h89 : OK Proofs.Tryz.prog 89 (N89 f89)) (h65 : OK Proofs.Tryz.prog 65 (N65 f65)) (h42 : OK Proofs.Tryz.prog 42 (N42 f42)) : OK Proofs.Tryz.prog 57 (mkE p57 r57 false (F57 f89 f65 f42)) :=
  fn_ok (E := E57 f89 f65 f42) tab_ok2 (envL_ok (OKs.cons h89 (OKs.cons h65 (OKs.cons h42 OKs.nil)))) mixed2 (ann := (fun _ => false)) (L := L57 f89 f65 f42) (fn := Proofs.Tryz.f57) (c := bodyC Proofs.Tryz.f57) (ls := [(0, loopC Proofs.Tryz.f57 0)]) Proofs.Tryz.func57 (by kernel_rfl) (by kernel_rfl) (by kernel_rfl) (by kernel_rfl)
    (LoopsP.cons q57_0 (s57_0 f89 f65 f42) rfl (e57_0 f89 f65 f42) LoopsP.nil) (e57 f89 f65 f42)
/-! impl.floorDiv -/
def p189 : List SP := [.one (.int .i64), .one (.int .i64)]
def r189 : List SP := [.one (.int .i64)]
abbrev T189 := Int × Int × Unit → Option (Int × Unit)
abbrev N189 (f : T189) : Entry := mkE p189 r189 false f
noncomputable def F189 (a : Int × Int × Unit) : Option (Int × Unit) :=
  cond (decide (a.2.1 = 0)) none (cond (decide (a.2.1 = 0)) none (cond (decide ((Int.tmod a.1 a.2.1) < 0)) (some ((w64 ((w64 (Int.tdiv a.1 a.2.1)) - 1)), ())) (some ((w64 (Int.tdiv a.1 a.2.1)), ()))))
def E189 : Env := envL []
noncomputable def L189 : LEnv (densS (muts p189 ++ r189)) := lenv []
theorem e189 (a : densS p189) : runF (E189) tab2 (fun _ => false) p189 r189 Proofs.Tryz.f189 (L189) a = F189 a := by kernel_rfl
theorem ok189 : OK Proofs.Tryz.prog 189 (mkE p189 r189 false (F189)) :=
  fn_ok (E := E189) tab_ok2 (envL_ok OKs.nil) mixed2 (ann := (fun _ => false)) (L := L189) (fn := Proofs.Tryz.f189) (c := bodyC Proofs.Tryz.f189) (ls := []) Proofs.Tryz.func189 (by kernel_rfl) (by kernel_rfl) (by kernel_rfl) (by kernel_rfl)
    LoopsP.nil (e189)
/-! impl.RampAt -/
def p167 : List SP := [.one (.int .i64), .one (.int .i64), .one (.int .i64), .one (.int .i64)]
def r167 : List SP := [.one (.int .i64)]
abbrev T167 := Int × Int × Int × Int × Unit → Option (Int × Unit)
abbrev N167 (f : T167) : Entry := mkE p167 r167 false f
noncomputable def F167 (f90 : T90) (f189 : T189) (a : Int × Int × Int × Int × Unit) : Option (Int × Unit) :=
  (f90 (a.1, ())).bind fun x1 => cond (!(!x1.1)) ((f90 (a.2.1, ())).bind fun x2 => cond (!x2.1) (some (0, ())) (cond (decide (a.2.2.1 ≥ a.2.2.2.1)) (some (a.2.1, ())) (cond (!(decide (a.2.2.1 ≤ 0))) (cond (decide (a.2.2.2.1 > 999)) (some (a.1, ())) ((f189 ((w64 (a.2.2.1 * (w64 (a.2.1 - a.1)))), a.2.2.2.1, ())).bind fun x3 => some ((w64 (a.1 + x3.1)), ()))) (some (a.1, ()))))) (some (0, ()))
def E167 (f90 : T90) (f189 : T189) : Env := envL [(90, N90 f90), (189, N189 f189)]
noncomputable def L167 (f90 : T90) (f189 : T189) : LEnv (densS (muts p167 ++ r167)) := lenv []
theorem e167 (f90 : T90) (f189 : T189) (a : densS p167) : runF (E167 f90 f189) tab2 (fun _ => false) p167 r167 Proofs.Tryz.f167 (L167 f90 f189) a = F167 f90 f189 a := by kernel_rfl
theorem ok167 {f90 : T90} {f189 : T189} (h90 : OK Proofs.Tryz.prog 90 (N90 f90)) (h189 : OK Proofs.Tryz.prog 189 (N189 f189)) : OK Proofs.Tryz.prog 167 (mkE p167 r167 false (F167 f90 f189)) :=
  fn_ok (E := E167 f90 f189) tab_ok2 (envL_ok (OKs.cons h90 (OKs.cons h189 OKs.nil))) mixed2 (ann := (fun _ => false)) (L := L167 f90 f189) (fn := Proofs.Tryz.f167) (c := bodyC Proofs.Tryz.f167) (ls := []) Proofs.Tryz.func167 (by kernel_rfl) (by kernel_rfl) (by kernel_rfl) (by kernel_rfl)
    LoopsP.nil (e167 f90 f189)
/-! impl.LevelAt -/
def p127 : List SP := [.one (.r .cue), .one (.str), .one (.int .i64)]
def r127 : List SP := [.one (.int .i64)]
abbrev T127 := List Cue × Str × Int × Unit → Option (Int × Unit)
abbrev N127 (f : T127) : Entry := mkE p127 r127 false f
def q127_0 : List SP := pat 58 0 [(1, .one (.str)), (2, .one (.int .i64)), (7, .one (.int .i64)), (8, .boxt 5000001 .cue), (19, .one (.r .cue)), (20, .one (.int .i64)), (21, .one (.int .i64))]
noncomputable def s127_0 (f40 : T40) (f167 : T167) (t2 : Str × Int × Int × Cue × List Cue × Int × Int × Unit) (rec K : Str × Int × Int × Cue × List Cue × Int × Int × Unit → Option (Int × Unit)) : Option (Int × Unit) :=
  cond (decide (t2.2.2.2.2.2.2.1 < t2.2.2.2.2.2.1)) (rdL t2.2.2.2.2.1 t2.2.2.2.2.2.2.1 fun d3 => cond (decide (d3.Name = t2.1)) (cond (decide (d3.Tick ≤ t2.2.1)) ((f167 (t2.2.2.1, t2.2.2.2.1.Level, (w64 (d3.Tick - t2.2.2.2.1.Tick)), t2.2.2.2.1.Ramp, ())).bind fun x4 => rec (t2.1, t2.2.1, x4.1, d3, t2.2.2.2.2.1, t2.2.2.2.2.2.1, (w64 (t2.2.2.2.2.2.2.1 + 1)), ())) (rec (t2.1, t2.2.1, t2.2.2.1, t2.2.2.2.1, t2.2.2.2.2.1, t2.2.2.2.2.2.1, (w64 (t2.2.2.2.2.2.2.1 + 1)), ()))) (rec (t2.1, t2.2.1, t2.2.2.1, t2.2.2.2.1, t2.2.2.2.2.1, t2.2.2.2.2.2.1, (w64 (t2.2.2.2.2.2.2.1 + 1)), ()))) (K (t2.1, t2.2.1, t2.2.2.1, t2.2.2.2.1, t2.2.2.2.2.1, t2.2.2.2.2.2.1, t2.2.2.2.2.2.2.1, ()))
noncomputable def F127 (f40 : T40) (f167 : T167) (a : List Cue × Str × Int × Unit) : Option (Int × Unit) :=
  (f40 (a.1, ())).bind fun x1 => cond (!(!x1.1)) (cond (decide (a.2.2.1 < 0)) (some (0, ())) (iterF (s127_0 f40 f167) fuel (a.2.1, a.2.2.1, 0, (⟨0, [], 0, 0⟩ : Cue), a.1, (Int.ofNat (List.length a.1)), 0, ()) fun t5 => (f167 (t5.2.2.1, t5.2.2.2.1.Level, (w64 (t5.2.1 - t5.2.2.2.1.Tick)), t5.2.2.2.1.Ramp, ())).bind fun x6 => some (x6.1, ()))) (some (0, ()))
def E127 (f40 : T40) (f167 : T167) : Env := envL [(40, N40 f40), (167, N167 f167)]
noncomputable def L127 (f40 : T40) (f167 : T167) : LEnv (densS (muts p127 ++ r127)) := lenv [(0, loopL (R := densS (muts p127 ++ r127)) q127_0 (s127_0 f40 f167))]
theorem e127_0 (f40 : T40) (f167 : T167) (X : Nat → St → Option (densS (muts p127 ++ r127))) (rec K : densS q127_0 → Option (densS (muts p127 ++ r127))) (t : densS q127_0) :
    ev (E127 f40 f167) tab2 (fun _ => false) (L127 f40 f167) (retK tab2 p127 r127 Proofs.Tryz.f127.results.toList) (loopC Proofs.Tryz.f127 0) (fun i s => cond (Nat.beq i 0) (decK 100 q127_0 s K) (X i s)) (fun s => decK 100 q127_0 s rec) (enc q127_0 t) = s127_0 f40 f167 t rec K := by kernel_rfl
theorem e127 (f40 : T40) (f167 : T167) (a : densS p127) : runF (E127 f40 f167) tab2 (fun _ => false) p127 r127 Proofs.Tryz.f127 (L127 f40 f167) a = F127 f40 f167 a := by kernel_rfl
theorem ok127 {f40 : T40} {f167 : T167} (h40 : OK Proofs.Tryz.prog 40 (N40 f40)) (h167 : OK Proofs.Tryz.prog 167 (N167 f167)) : OK Proofs.Tryz.prog 127 (mkE p127 r127 false (F127 f40 f167)) :=
  fn_ok (E := E127 f40 f167) tab_ok2 (envL_ok (OKs.cons h40 (OKs.cons h167 OKs.nil))) mixed2 (ann := (fun _ => false)) (L := L127 f40 f167) (fn := Proofs.Tryz.f127) (c := bodyC Proofs.Tryz.f127) (ls := [(0, loopC Proofs.Tryz.f127 0)]) Proofs.Tryz.func127 (by kernel_rfl) (by kernel_rfl) (by kernel_rfl) (by kernel_rfl)
    (LoopsP.cons q127_0 (s127_0 f40 f167) rfl (e127_0 f40 f167) LoopsP.nil) (e127 f40 f167)
/-! impl.IsDemands -/
def p168 : List SP := [.one (.r .int)]
def r168 : List SP := [.one (.bool)]
abbrev T168 := List Int × Unit → Option (Bool × Unit)
abbrev N168 (f : T168) : Entry := mkE p168 r168 false f
def q168_0 : List SP := pat 18 0 [(0, .one (.r .int)), (5, .one (.r .int)), (6, .one (.int .i64)), (7, .one (.int .i64))]
noncomputable def s168_0 (f42 : T42) (t1 : List Int × List Int × Int × Int × Unit) (rec K : List Int × List Int × Int × Int × Unit → Option (Bool × Unit)) : Option (Bool × Unit) :=
  cond (decide (t1.2.2.2.1 < t1.2.2.1)) (rdL t1.2.1 t1.2.2.2.1 fun d2 => (f42 (d2, 0, 64, ())).bind fun x3 => cond (!x3.1) (some (false, ())) (rec (t1.1, t1.2.1, t1.2.2.1, (w64 (t1.2.2.2.1 + 1)), ()))) (K (t1.1, t1.2.1, t1.2.2.1, t1.2.2.2.1, ()))
noncomputable def F168 (f42 : T42) (a : List Int × Unit) : Option (Bool × Unit) :=
  iterF (s168_0 f42) fuel (a.1, a.1, (Int.ofNat (List.length a.1)), 0, ()) fun t4 => some ((decide ((Int.ofNat (List.length t4.1)) ≤ 8)), ())
def E168 (f42 : T42) : Env := envL [(42, N42 f42)]
noncomputable def L168 (f42 : T42) : LEnv (densS (muts p168 ++ r168)) := lenv [(0, loopL (R := densS (muts p168 ++ r168)) q168_0 (s168_0 f42))]
theorem e168_0 (f42 : T42) (X : Nat → St → Option (densS (muts p168 ++ r168))) (rec K : densS q168_0 → Option (densS (muts p168 ++ r168))) (t : densS q168_0) :
    ev (E168 f42) tab2 (fun _ => false) (L168 f42) (retK tab2 p168 r168 Proofs.Tryz.f168.results.toList) (loopC Proofs.Tryz.f168 0) (fun i s => cond (Nat.beq i 0) (decK 100 q168_0 s K) (X i s)) (fun s => decK 100 q168_0 s rec) (enc q168_0 t) = s168_0 f42 t rec K := by kernel_rfl
theorem e168 (f42 : T42) (a : densS p168) : runF (E168 f42) tab2 (fun _ => false) p168 r168 Proofs.Tryz.f168 (L168 f42) a = F168 f42 a := by kernel_rfl
theorem ok168 {f42 : T42} (h42 : OK Proofs.Tryz.prog 42 (N42 f42)) : OK Proofs.Tryz.prog 168 (mkE p168 r168 false (F168 f42)) :=
  fn_ok (E := E168 f42) tab_ok2 (envL_ok (OKs.cons h42 OKs.nil)) mixed2 (ann := (fun _ => false)) (L := L168 f42) (fn := Proofs.Tryz.f168) (c := bodyC Proofs.Tryz.f168) (ls := [(0, loopC Proofs.Tryz.f168 0)]) Proofs.Tryz.func168 (by kernel_rfl) (by kernel_rfl) (by kernel_rfl) (by kernel_rfl)
    (LoopsP.cons q168_0 (s168_0 f42) rfl (e168_0 f42) LoopsP.nil) (e168 f42)
/-! impl.CutAt -/
def p170 : List SP := [.one (.r .int), .one (.int .i64)]
def r170 : List SP := [.one (.o 0 .int)]
abbrev T170 := List Int × Int × Unit → Option (List Int × Unit)
abbrev N170 (f : T170) : Entry := mkE p170 r170 false f
def q170_0 : List SP := pat 31 0 [(1, .one (.int .i64)), (5, .one (.o 5000001 .int)), (17, .one (.r .int)), (18, .one (.int .i64)), (19, .one (.int .i64))]
noncomputable def s170_0 (f168 : T168) (t2 : Int × List Int × List Int × Int × Int × Unit) (rec K : Int × List Int × List Int × Int × Int × Unit → Option (List Int × Unit)) : Option (List Int × Unit) :=
  cond (decide (t2.2.2.2.2.1 < t2.2.2.2.1)) (rdL t2.2.2.1 t2.2.2.2.2.1 fun d3 => capK (List.length t2.2.1 + List.length ([(mn d3 t2.1)] : List Int)) (rec (t2.1, (t2.2.1 ++ ([(mn d3 t2.1)] : List Int)), t2.2.2.1, t2.2.2.2.1, (w64 (t2.2.2.2.2.1 + 1)), ()))) (K (t2.1, t2.2.1, t2.2.2.1, t2.2.2.2.1, t2.2.2.2.2.1, ()))
noncomputable def F170 (f168 : T168) (a : List Int × Int × Unit) : Option (List Int × Unit) :=
  (f168 (a.1, ())).bind fun x1 => cond (!(!x1.1)) (cond (decide (a.2.1 < 0)) (some (([] : List Int), ())) (iterF (s170_0 f168) fuel (a.2.1, ([] : List Int), a.1, (Int.ofNat (List.length a.1)), 0, ()) fun t4 => some (t4.2.1, ()))) (some (([] : List Int), ()))
def E170 (f168 : T168) : Env := envL [(168, N168 f168)]
noncomputable def L170 (f168 : T168) : LEnv (densS (muts p170 ++ r170)) := lenv [(0, loopL (R := densS (muts p170 ++ r170)) q170_0 (s170_0 f168))]
theorem e170_0 (f168 : T168) (X : Nat → St → Option (densS (muts p170 ++ r170))) (rec K : densS q170_0 → Option (densS (muts p170 ++ r170))) (t : densS q170_0) :
    ev (E170 f168) tab2 (fun _ => false) (L170 f168) (retK tab2 p170 r170 Proofs.Tryz.f170.results.toList) (loopC Proofs.Tryz.f170 0) (fun i s => cond (Nat.beq i 0) (decK 100 q170_0 s K) (X i s)) (fun s => decK 100 q170_0 s rec) (enc q170_0 t) = s170_0 f168 t rec K := by kernel_rfl
theorem e170 (f168 : T168) (a : densS p170) : runF (E170 f168) tab2 (fun _ => false) p170 r170 Proofs.Tryz.f170 (L170 f168) a = F170 f168 a := by kernel_rfl
theorem ok170 {f168 : T168} (h168 : OK Proofs.Tryz.prog 168 (N168 f168)) : OK Proofs.Tryz.prog 170 (mkE p170 r170 false (F170 f168)) :=
  fn_ok (E := E170 f168) tab_ok2 (envL_ok (OKs.cons h168 OKs.nil)) mixed2 (ann := (fun _ => false)) (L := L170 f168) (fn := Proofs.Tryz.f170) (c := bodyC Proofs.Tryz.f170) (ls := [(0, loopC Proofs.Tryz.f170 0)]) Proofs.Tryz.func170 (by kernel_rfl) (by kernel_rfl) (by kernel_rfl) (by kernel_rfl)
    (LoopsP.cons q170_0 (s170_0 f168) rfl (e170_0 f168) LoopsP.nil) (e170 f168)
/-! impl.sumOf -/
def p171 : List SP := [.one (.r .int)]
def r171 : List SP := [.one (.int .i64)]
abbrev T171 := List Int × Unit → Option (Int × Unit)
abbrev N171 (f : T171) : Entry := mkE p171 r171 false f
def q171_0 : List SP := pat 17 0 [(3, .one (.int .i64)), (6, .one (.r .int)), (7, .one (.int .i64)), (8, .one (.int .i64))]
noncomputable def s171_0 (t1 : Int × List Int × Int × Int × Unit) (rec K : Int × List Int × Int × Int × Unit → Option (Int × Unit)) : Option (Int × Unit) :=
  cond (decide (t1.2.2.2.1 < t1.2.2.1)) (rdL t1.2.1 t1.2.2.2.1 fun d2 => rec ((w64 (t1.1 + d2)), t1.2.1, t1.2.2.1, (w64 (t1.2.2.2.1 + 1)), ())) (K (t1.1, t1.2.1, t1.2.2.1, t1.2.2.2.1, ()))
noncomputable def F171 (a : List Int × Unit) : Option (Int × Unit) :=
  iterF (s171_0) fuel (0, a.1, (Int.ofNat (List.length a.1)), 0, ()) fun t3 => some (t3.1, ())
def E171 : Env := envL []
noncomputable def L171 : LEnv (densS (muts p171 ++ r171)) := lenv [(0, loopL (R := densS (muts p171 ++ r171)) q171_0 (s171_0))]
theorem e171_0 (X : Nat → St → Option (densS (muts p171 ++ r171))) (rec K : densS q171_0 → Option (densS (muts p171 ++ r171))) (t : densS q171_0) :
    ev (E171) tab2 (fun _ => false) (L171) (retK tab2 p171 r171 Proofs.Tryz.f171.results.toList) (loopC Proofs.Tryz.f171 0) (fun i s => cond (Nat.beq i 0) (decK 100 q171_0 s K) (X i s)) (fun s => decK 100 q171_0 s rec) (enc q171_0 t) = s171_0 t rec K := by kernel_rfl
theorem e171 (a : densS p171) : runF (E171) tab2 (fun _ => false) p171 r171 Proofs.Tryz.f171 (L171) a = F171 a := by kernel_rfl
theorem ok171 : OK Proofs.Tryz.prog 171 (mkE p171 r171 false (F171)) :=
  fn_ok (E := E171) tab_ok2 (envL_ok OKs.nil) mixed2 (ann := (fun _ => false)) (L := L171) (fn := Proofs.Tryz.f171) (c := bodyC Proofs.Tryz.f171) (ls := [(0, loopC Proofs.Tryz.f171 0)]) Proofs.Tryz.func171 (by kernel_rfl) (by kernel_rfl) (by kernel_rfl) (by kernel_rfl)
    (LoopsP.cons q171_0 (s171_0) rfl (e171_0) LoopsP.nil) (e171)
/-! impl.LevelFor -/
def p169 : List SP := [.one (.int .i64), .one (.r .int)]
def r169 : List SP := [.one (.int .i64)]
abbrev T169 := Int × List Int × Unit → Option (Int × Unit)
abbrev N169 (f : T169) : Entry := mkE p169 r169 false f
def q169_0 : List SP := pat 23 0 [(0, .one (.int .i64)), (1, .one (.r .int)), (5, .one (.int .i64))]
noncomputable def s169_0 (f168 : T168) (f134 : T134) (f170 : T170) (f171 : T171) (t3 : Int × List Int × Int × Unit) (rec K : Int × List Int × Int × Unit → Option (Int × Unit)) : Option (Int × Unit) :=
  (f170 (t3.2.1, t3.2.2.1, ())).bind fun x4 => (f171 (x4.1, ())).bind fun x5 => cond (decide (x5.1 > t3.1)) (rec (t3.1, t3.2.1, (w64 (t3.2.2.1 - 1)), ())) (K (t3.1, t3.2.1, t3.2.2.1, ()))
noncomputable def F169 (f168 : T168) (f134 : T134) (f170 : T170) (f171 : T171) (a : Int × List Int × Unit) : Option (Int × Unit) :=
  (f168 (a.2.1, ())).bind fun x1 => cond (!(!x1.1)) ((f134 (a.1, ())).bind fun x2 => cond (!x2.1) (some (0, ())) (iterF (s169_0 f168 f134 f170 f171) fuel (a.1, a.2.1, 64, ()) fun t6 => some (t6.2.2.1, ()))) (some (0, ()))
def E169 (f168 : T168) (f134 : T134) (f170 : T170) (f171 : T171) : Env := envL [(168, N168 f168), (134, N134 f134), (170, N170 f170), (171, N171 f171)]
noncomputable def L169 (f168 : T168) (f134 : T134) (f170 : T170) (f171 : T171) : LEnv (densS (muts p169 ++ r169)) := lenv [(0, loopL (R := densS (muts p169 ++ r169)) q169_0 (s169_0 f168 f134 f170 f171))]
theorem e169_0 (f168 : T168) (f134 : T134) (f170 : T170) (f171 : T171) (X : Nat → St → Option (densS (muts p169 ++ r169))) (rec K : densS q169_0 → Option (densS (muts p169 ++ r169))) (t : densS q169_0) :
    ev (E169 f168 f134 f170 f171) tab2 (fun _ => false) (L169 f168 f134 f170 f171) (retK tab2 p169 r169 Proofs.Tryz.f169.results.toList) (loopC Proofs.Tryz.f169 0) (fun i s => cond (Nat.beq i 0) (decK 100 q169_0 s K) (X i s)) (fun s => decK 100 q169_0 s rec) (enc q169_0 t) = s169_0 f168 f134 f170 f171 t rec K := by kernel_rfl
theorem e169 (f168 : T168) (f134 : T134) (f170 : T170) (f171 : T171) (a : densS p169) : runF (E169 f168 f134 f170 f171) tab2 (fun _ => false) p169 r169 Proofs.Tryz.f169 (L169 f168 f134 f170 f171) a = F169 f168 f134 f170 f171 a := by kernel_rfl
theorem ok169 {f168 : T168} {f134 : T134} {f170 : T170} {f171 : T171} (h168 : OK Proofs.Tryz.prog 168 (N168 f168)) (h134 : OK Proofs.Tryz.prog 134 (N134 f134)) (h170 : OK Proofs.Tryz.prog 170 (N170 f170)) (h171 : OK Proofs.Tryz.prog 171 (N171 f171)) : OK Proofs.Tryz.prog 169 (mkE p169 r169 false (F169 f168 f134 f170 f171)) :=
  fn_ok (E := E169 f168 f134 f170 f171) tab_ok2 (envL_ok (OKs.cons h168 (OKs.cons h134 (OKs.cons h170 (OKs.cons h171 OKs.nil))))) mixed2 (ann := (fun _ => false)) (L := L169 f168 f134 f170 f171) (fn := Proofs.Tryz.f169) (c := bodyC Proofs.Tryz.f169) (ls := [(0, loopC Proofs.Tryz.f169 0)]) Proofs.Tryz.func169 (by kernel_rfl) (by kernel_rfl) (by kernel_rfl) (by kernel_rfl)
    (LoopsP.cons q169_0 (s169_0 f168 f134 f170 f171) rfl (e169_0 f168 f134 f170 f171) LoopsP.nil) (e169 f168 f134 f170 f171)
/-! impl.ShareOut -/
def p128 : List SP := [.one (.int .i64), .one (.r .int)]
def r128 : List SP := [.one (.o 0 .int)]
abbrev T128 := Int × List Int × Unit → Option (List Int × Unit)
abbrev N128 (f : T128) : Entry := mkE p128 r128 false f
def q128_0 : List SP := pat 53 0 [(5, .one (.int .i64)), (6, .one (.o 5000001 .int)), (7, .one (.int .i64)), (29, .one (.r .int)), (30, .one (.int .i64)), (31, .one (.int .i64))]
noncomputable def s128_0 (f168 : T168) (f134 : T134) (f169 : T169) (f170 : T170) (f171 : T171) (t6 : Int × List Int × Int × List Int × Int × Int × Unit) (rec K : Int × List Int × Int × List Int × Int × Int × Unit → Option (List Int × Unit)) : Option (List Int × Unit) :=
  cond (decide (t6.2.2.2.2.2.1 < t6.2.2.2.2.1)) (rdL t6.2.2.2.1 t6.2.2.2.2.2.1 fun d7 => cond (decide (d7 > t6.1)) (cond (decide (t6.2.2.1 > 0)) (rdL t6.2.1 t6.2.2.2.2.2.1 fun _ => (t6.2.1[(Int.toNat t6.2.2.2.2.2.1)]?).bind fun d8 => rdL t6.2.1 t6.2.2.2.2.2.1 fun _ => (t6.2.1[(Int.toNat t6.2.2.2.2.2.1)]?).bind fun d9 => rec (t6.1, (List.set t6.2.1 (Int.toNat t6.2.2.2.2.2.1) (w64 (d8 + 1))), (w64 (t6.2.2.1 - 1)), t6.2.2.2.1, t6.2.2.2.2.1, (w64 (t6.2.2.2.2.2.1 + 1)), ())) (rec (t6.1, t6.2.1, t6.2.2.1, t6.2.2.2.1, t6.2.2.2.2.1, (w64 (t6.2.2.2.2.2.1 + 1)), ()))) (rec (t6.1, t6.2.1, t6.2.2.1, t6.2.2.2.1, t6.2.2.2.2.1, (w64 (t6.2.2.2.2.2.1 + 1)), ()))) (K (t6.1, t6.2.1, t6.2.2.1, t6.2.2.2.1, t6.2.2.2.2.1, t6.2.2.2.2.2.1, ()))
noncomputable def F128 (f168 : T168) (f134 : T134) (f169 : T169) (f170 : T170) (f171 : T171) (a : Int × List Int × Unit) : Option (List Int × Unit) :=
  (f168 (a.2.1, ())).bind fun x1 => cond (!(!x1.1)) ((f134 (a.1, ())).bind fun x2 => cond (!x2.1) (some (([] : List Int), ())) ((f169 (a.1, a.2.1, ())).bind fun x3 => (f170 (a.2.1, x3.1, ())).bind fun x4 => (f171 (x4.1, ())).bind fun x5 => iterF (s128_0 f168 f134 f169 f170 f171) fuel (x3.1, x4.1, (w64 (a.1 - x5.1)), a.2.1, (Int.ofNat (List.length a.2.1)), 0, ()) fun t10 => some (t10.2.1, ()))) (some (([] : List Int), ()))
def E128 (f168 : T168) (f134 : T134) (f169 : T169) (f170 : T170) (f171 : T171) : Env := envL [(168, N168 f168), (134, N134 f134), (169, N169 f169), (170, N170 f170), (171, N171 f171)]
noncomputable def L128 (f168 : T168) (f134 : T134) (f169 : T169) (f170 : T170) (f171 : T171) : LEnv (densS (muts p128 ++ r128)) := lenv [(0, loopL (R := densS (muts p128 ++ r128)) q128_0 (s128_0 f168 f134 f169 f170 f171))]
theorem e128_0 (f168 : T168) (f134 : T134) (f169 : T169) (f170 : T170) (f171 : T171) (X : Nat → St → Option (densS (muts p128 ++ r128))) (rec K : densS q128_0 → Option (densS (muts p128 ++ r128))) (t : densS q128_0) :
    ev (E128 f168 f134 f169 f170 f171) tab2 (fun _ => false) (L128 f168 f134 f169 f170 f171) (retK tab2 p128 r128 Proofs.Tryz.f128.results.toList) (loopC Proofs.Tryz.f128 0) (fun i s => cond (Nat.beq i 0) (decK 100 q128_0 s K) (X i s)) (fun s => decK 100 q128_0 s rec) (enc q128_0 t) = s128_0 f168 f134 f169 f170 f171 t rec K := by kernel_rfl
theorem e128 (f168 : T168) (f134 : T134) (f169 : T169) (f170 : T170) (f171 : T171) (a : densS p128) : runF (E128 f168 f134 f169 f170 f171) tab2 (fun _ => false) p128 r128 Proofs.Tryz.f128 (L128 f168 f134 f169 f170 f171) a = F128 f168 f134 f169 f170 f171 a := by kernel_rfl
theorem ok128 {f168 : T168} {f134 : T134} {f169 : T169} {f170 : T170} {f171 : T171} (h168 : OK Proofs.Tryz.prog 168 (N168 f168)) (h134 : OK Proofs.Tryz.prog 134 (N134 f134)) (h169 : OK Proofs.Tryz.prog 169 (N169 f169)) (h170 : OK Proofs.Tryz.prog 170 (N170 f170)) (h171 : OK Proofs.Tryz.prog 171 (N171 f171)) : OK Proofs.Tryz.prog 128 (mkE p128 r128 false (F128 f168 f134 f169 f170 f171)) :=
  fn_ok (E := E128 f168 f134 f169 f170 f171) tab_ok2 (envL_ok (OKs.cons h168 (OKs.cons h134 (OKs.cons h169 (OKs.cons h170 (OKs.cons h171 OKs.nil)))))) mixed2 (ann := (fun _ => false)) (L := L128 f168 f134 f169 f170 f171) (fn := Proofs.Tryz.f128) (c := bodyC Proofs.Tryz.f128) (ls := [(0, loopC Proofs.Tryz.f128 0)]) Proofs.Tryz.func128 (by kernel_rfl) (by kernel_rfl) (by kernel_rfl) (by kernel_rfl)
    (LoopsP.cons q128_0 (s128_0 f168 f134 f169 f170 f171) rfl (e128_0 f168 f134 f169 f170 f171) LoopsP.nil) (e128 f168 f134 f169 f170 f171)
/-! impl.LiftsAt -/
def p80 : List SP := [.agg [.r .device, .r .cue, .r .gust, .int .i64], .one (.int .i64)]
def r80 : List SP := [.one (.o 0 .int)]
abbrev T80 := ShD × Int × Unit → Option (List Int × Unit)
abbrev N80 (f : T80) : Entry := mkE p80 r80 false f
def q80_2 : List SP := pat 91 0 [(1, .one (.int .i64)), (2, .box 5002001 [.r .device, .r .cue, .r .gust, .int .i64]), (5, .one (.o 5002002 .int)), (7, .boxt 5002003 .device), (8, .one (.o 5002004 .int)), (9, .one (.o 5002005 .int)), (30, .one (.r .device)), (31, .one (.int .i64)), (32, .one (.int .i64)), (42, .one (.r .device)), (43, .one (.int .i64)), (44, .one (.int .i64))]
noncomputable def s80_2 (f12 : T12) (f42 : T42) (f127 : T127) (f128 : T128) (t5 : Int × ShD × List Int × Device × List Int × List Int × List Device × Int × Int × List Device × Int × Int × Unit) (rec K : Int × ShD × List Int × Device × List Int × List Int × List Device × Int × Int × List Device × Int × Int × Unit → Option (List Int × Unit)) : Option (List Int × Unit) :=
  cond (decide (t5.2.2.2.2.2.2.2.2.2.2.2.1 < t5.2.2.2.2.2.2.2.2.2.2.1)) (rdL t5.2.2.2.2.2.2.2.2.2.1 t5.2.2.2.2.2.2.2.2.2.2.2.1 fun d6 => cond (decide (d6.Line = t5.2.2.2.1.Name)) (capK (List.length t5.2.2.2.2.1 + List.length ([t5.2.2.2.2.2.2.2.2.2.2.2.1] : List Int)) ((f127 (t5.2.1.2.1, d6.Name, t5.1, ())).bind fun x7 => capK (List.length t5.2.2.2.2.2.1 + List.length ([(mn x7.1 d6.Most)] : List Int)) (rec (t5.1, (t5.2.1.1, t5.2.1.2.1, t5.2.1.2.2.1, t5.2.1.2.2.2.1, ()), t5.2.2.1, t5.2.2.2.1, (t5.2.2.2.2.1 ++ ([t5.2.2.2.2.2.2.2.2.2.2.2.1] : List Int)), (t5.2.2.2.2.2.1 ++ ([(mn x7.1 d6.Most)] : List Int)), t5.2.2.2.2.2.2.1, t5.2.2.2.2.2.2.2.1, t5.2.2.2.2.2.2.2.2.1, t5.2.2.2.2.2.2.2.2.2.1, t5.2.2.2.2.2.2.2.2.2.2.1, (w64 (t5.2.2.2.2.2.2.2.2.2.2.2.1 + 1)), ())))) (rec (t5.1, (t5.2.1.1, t5.2.1.2.1, t5.2.1.2.2.1, t5.2.1.2.2.2.1, ()), t5.2.2.1, t5.2.2.2.1, t5.2.2.2.2.1, t5.2.2.2.2.2.1, t5.2.2.2.2.2.2.1, t5.2.2.2.2.2.2.2.1, t5.2.2.2.2.2.2.2.2.1, t5.2.2.2.2.2.2.2.2.2.1, t5.2.2.2.2.2.2.2.2.2.2.1, (w64 (t5.2.2.2.2.2.2.2.2.2.2.2.1 + 1)), ()))) (K (t5.1, (t5.2.1.1, t5.2.1.2.1, t5.2.1.2.2.1, t5.2.1.2.2.2.1, ()), t5.2.2.1, t5.2.2.2.1, t5.2.2.2.2.1, t5.2.2.2.2.2.1, t5.2.2.2.2.2.2.1, t5.2.2.2.2.2.2.2.1, t5.2.2.2.2.2.2.2.2.1, t5.2.2.2.2.2.2.2.2.2.1, t5.2.2.2.2.2.2.2.2.2.2.1, t5.2.2.2.2.2.2.2.2.2.2.2.1, ()))
def q80_4 : List SP := pat 91 0 [(1, .one (.int .i64)), (2, .box 5004001 [.r .device, .r .cue, .r .gust, .int .i64]), (5, .one (.o 5004002 .int)), (8, .one (.o 5004003 .int)), (30, .one (.r .device)), (31, .one (.int .i64)), (32, .one (.int .i64)), (74, .one (.o 5004004 .int)), (75, .one (.int .i64)), (76, .one (.int .i64))]
noncomputable def s80_4 (f12 : T12) (f42 : T42) (f127 : T127) (f128 : T128) (t10 : Int × ShD × List Int × List Int × List Device × Int × Int × List Int × Int × Int × Unit) (rec K : Int × ShD × List Int × List Int × List Device × Int × Int × List Int × Int × Int × Unit → Option (List Int × Unit)) : Option (List Int × Unit) :=
  cond (decide (t10.2.2.2.2.2.2.2.2.2.1 < t10.2.2.2.2.2.2.2.2.1)) (rdL t10.2.2.2.2.2.2.2.1 t10.2.2.2.2.2.2.2.2.2.1 fun _ => (t10.2.2.2.2.2.2.2.1[(Int.toNat t10.2.2.2.2.2.2.2.2.2.1)]?).bind fun d11 => rdL t10.2.2.2.1 t10.2.2.2.2.2.2.2.2.2.1 fun _ => (t10.2.2.2.1[(Int.toNat t10.2.2.2.2.2.2.2.2.2.1)]?).bind fun d12 => rdL t10.2.2.1 d12 fun _ => (t10.2.2.1[(Int.toNat d12)]?).bind fun d13 => rec (t10.1, (t10.2.1.1, t10.2.1.2.1, t10.2.1.2.2.1, t10.2.1.2.2.2.1, ()), (List.set t10.2.2.1 (Int.toNat d12) d11), t10.2.2.2.1, t10.2.2.2.2.1, t10.2.2.2.2.2.1, t10.2.2.2.2.2.2.1, t10.2.2.2.2.2.2.2.1, t10.2.2.2.2.2.2.2.2.1, (w64 (t10.2.2.2.2.2.2.2.2.2.1 + 1)), ())) (K (t10.1, (t10.2.1.1, t10.2.1.2.1, t10.2.1.2.2.1, t10.2.1.2.2.2.1, ()), t10.2.2.1, t10.2.2.2.1, t10.2.2.2.2.1, t10.2.2.2.2.2.1, t10.2.2.2.2.2.2.1, t10.2.2.2.2.2.2.2.1, t10.2.2.2.2.2.2.2.2.1, t10.2.2.2.2.2.2.2.2.2.1, ()))
def q80_0 : List SP := pat 91 0 [(1, .one (.int .i64)), (2, .box 5000001 [.r .device, .r .cue, .r .gust, .int .i64]), (5, .one (.o 5000002 .int)), (30, .one (.r .device)), (31, .one (.int .i64)), (32, .one (.int .i64))]
noncomputable def s80_0 (f12 : T12) (f42 : T42) (f127 : T127) (f128 : T128) (t3 : Int × ShD × List Int × List Device × Int × Int × Unit) (rec K : Int × ShD × List Int × List Device × Int × Int × Unit → Option (List Int × Unit)) : Option (List Int × Unit) :=
  cond (decide (t3.2.2.2.2.2.1 < t3.2.2.2.2.1)) (rdL t3.2.2.2.1 t3.2.2.2.2.2.1 fun d4 => cond (!(decide (d4.Kind = 1))) (rec (t3.1, (t3.2.1.1, t3.2.1.2.1, t3.2.1.2.2.1, t3.2.1.2.2.2.1, ()), t3.2.2.1, t3.2.2.2.1, t3.2.2.2.2.1, (w64 (t3.2.2.2.2.2.1 + 1)), ())) (iterF (s80_2 f12 f42 f127 f128) fuel (t3.1, (t3.2.1.1, t3.2.1.2.1, t3.2.1.2.2.1, t3.2.1.2.2.2.1, ()), t3.2.2.1, d4, ([] : List Int), ([] : List Int), t3.2.2.2.1, t3.2.2.2.2.1, t3.2.2.2.2.2.1, t3.2.1.1, (Int.ofNat (List.length t3.2.1.1)), 0, ()) fun t8 => (f128 (t8.2.2.2.1.Most, t8.2.2.2.2.2.1, ())).bind fun x9 => iterF (s80_4 f12 f42 f127 f128) fuel (t8.1, (t8.2.1.1, t8.2.1.2.1, t8.2.1.2.2.1, t8.2.1.2.2.2.1, ()), t8.2.2.1, t8.2.2.2.2.1, t8.2.2.2.2.2.2.1, t8.2.2.2.2.2.2.2.1, t8.2.2.2.2.2.2.2.2.1, x9.1, (Int.ofNat (List.length x9.1)), 0, ()) fun t14 => rec (t14.1, (t14.2.1.1, t14.2.1.2.1, t14.2.1.2.2.1, t14.2.1.2.2.2.1, ()), t14.2.2.1, t14.2.2.2.2.1, t14.2.2.2.2.2.1, (w64 (t14.2.2.2.2.2.2.1 + 1)), ()))) (K (t3.1, (t3.2.1.1, t3.2.1.2.1, t3.2.1.2.2.1, t3.2.1.2.2.2.1, ()), t3.2.2.1, t3.2.2.2.1, t3.2.2.2.2.1, t3.2.2.2.2.2.1, ()))
noncomputable def F80 (f12 : T12) (f42 : T42) (f127 : T127) (f128 : T128) (a : ShD × Int × Unit) : Option (List Int × Unit) :=
  (f12 ((a.1.1, a.1.2.1, a.1.2.2.1, a.1.2.2.2.1, ()), ())).bind fun x1 => cond (!x1.1) (some (([] : List Int), ())) (okIf ((0 : Int) ≤ (Int.ofNat (List.length a.1.1))) (capK (Int.toNat (Int.ofNat (List.length a.1.1))) ((f42 (a.2.1, 0, (w64 (a.1.2.2.2.1 - 1)), ())).bind fun x2 => cond (!x2.1) (some ((List.replicate (Int.toNat (Int.ofNat (List.length a.1.1))) (Ty.zero .int)), ())) (iterF (s80_0 f12 f42 f127 f128) fuel (a.2.1, (a.1.1, a.1.2.1, a.1.2.2.1, a.1.2.2.2.1, ()), (List.replicate (Int.toNat (Int.ofNat (List.length a.1.1))) (Ty.zero .int)), a.1.1, (Int.ofNat (List.length a.1.1)), 0, ()) fun t15 => some (t15.2.2.1, ())))))
def E80 (f12 : T12) (f42 : T42) (f127 : T127) (f128 : T128) : Env := envL [(12, N12 f12), (42, N42 f42), (127, N127 f127), (128, N128 f128)]
noncomputable def L80 (f12 : T12) (f42 : T42) (f127 : T127) (f128 : T128) : LEnv (densS (muts p80 ++ r80)) := lenv [(0, loopL (R := densS (muts p80 ++ r80)) q80_0 (s80_0 f12 f42 f127 f128)), (2, loopL (R := densS (muts p80 ++ r80)) q80_2 (s80_2 f12 f42 f127 f128)), (4, loopL (R := densS (muts p80 ++ r80)) q80_4 (s80_4 f12 f42 f127 f128))]
theorem e80_0 (f12 : T12) (f42 : T42) (f127 : T127) (f128 : T128) (X : Nat → St → Option (densS (muts p80 ++ r80))) (rec K : densS q80_0 → Option (densS (muts p80 ++ r80))) (t : densS q80_0) :
    ev (E80 f12 f42 f127 f128) tab2 (fun _ => false) (L80 f12 f42 f127 f128) (retK tab2 p80 r80 Proofs.Tryz.f80.results.toList) (loopC Proofs.Tryz.f80 0) (fun i s => cond (Nat.beq i 0) (decK 100 q80_0 s K) (X i s)) (fun s => decK 100 q80_0 s rec) (enc q80_0 t) = s80_0 f12 f42 f127 f128 t rec K := by kernel_rfl
theorem e80_2 (f12 : T12) (f42 : T42) (f127 : T127) (f128 : T128) (X : Nat → St → Option (densS (muts p80 ++ r80))) (rec K : densS q80_2 → Option (densS (muts p80 ++ r80))) (t : densS q80_2) :
    ev (E80 f12 f42 f127 f128) tab2 (fun _ => false) (L80 f12 f42 f127 f128) (retK tab2 p80 r80 Proofs.Tryz.f80.results.toList) (loopC Proofs.Tryz.f80 1) (fun i s => cond (Nat.beq i 2) (decK 100 q80_2 s K) (X i s)) (fun s => decK 100 q80_2 s rec) (enc q80_2 t) = s80_2 f12 f42 f127 f128 t rec K := by kernel_rfl
theorem e80_4 (f12 : T12) (f42 : T42) (f127 : T127) (f128 : T128) (X : Nat → St → Option (densS (muts p80 ++ r80))) (rec K : densS q80_4 → Option (densS (muts p80 ++ r80))) (t : densS q80_4) :
    ev (E80 f12 f42 f127 f128) tab2 (fun _ => false) (L80 f12 f42 f127 f128) (retK tab2 p80 r80 Proofs.Tryz.f80.results.toList) (loopC Proofs.Tryz.f80 2) (fun i s => cond (Nat.beq i 4) (decK 100 q80_4 s K) (X i s)) (fun s => decK 100 q80_4 s rec) (enc q80_4 t) = s80_4 f12 f42 f127 f128 t rec K := by kernel_rfl
theorem e80 (f12 : T12) (f42 : T42) (f127 : T127) (f128 : T128) (a : densS p80) : runF (E80 f12 f42 f127 f128) tab2 (fun _ => false) p80 r80 Proofs.Tryz.f80 (L80 f12 f42 f127 f128) a = F80 f12 f42 f127 f128 a := by kernel_rfl
theorem ok80 {f12 : T12} {f42 : T42} {f127 : T127} {f128 : T128} (h12 : OK Proofs.Tryz.prog 12 (N12 f12)) (h42 : OK Proofs.Tryz.prog 42 (N42 f42)) (h127 : OK Proofs.Tryz.prog 127 (N127 f127)) (h128 : OK Proofs.Tryz.prog 128 (N128 f128)) : OK Proofs.Tryz.prog 80 (mkE p80 r80 false (F80 f12 f42 f127 f128)) :=
  fn_ok (E := E80 f12 f42 f127 f128) tab_ok2 (envL_ok (OKs.cons h12 (OKs.cons h42 (OKs.cons h127 (OKs.cons h128 OKs.nil))))) mixed2 (ann := (fun _ => false)) (L := L80 f12 f42 f127 f128) (fn := Proofs.Tryz.f80) (c := bodyC Proofs.Tryz.f80) (ls := [(0, loopC Proofs.Tryz.f80 0), (2, loopC Proofs.Tryz.f80 1), (4, loopC Proofs.Tryz.f80 2)]) Proofs.Tryz.func80 (by kernel_rfl) (by kernel_rfl) (by kernel_rfl) (by kernel_rfl)
    (LoopsP.cons q80_0 (s80_0 f12 f42 f127 f128) rfl (e80_0 f12 f42 f127 f128) (LoopsP.cons q80_2 (s80_2 f12 f42 f127 f128) rfl (e80_2 f12 f42 f127 f128) (LoopsP.cons q80_4 (s80_4 f12 f42 f127 f128) rfl (e80_4 f12 f42 f127 f128) LoopsP.nil))) (e80 f12 f42 f127 f128)
/-! impl.throwsOf -/
def p36 : List SP := [.agg [.r .device, .r .cue, .r .gust, .int .i64]]
def r36 : List SP := [.one (.o 0 .throw)]
abbrev T36 := ShD × Unit → Option (List Throw × Unit)
abbrev N36 (f : T36) : Entry := mkE p36 r36 false f
def q36_2 : List SP := pat 52 0 [(1, .box 5002001 [.r .device, .r .cue, .r .gust, .int .i64]), (3, .one (.o 5002002 .throw)), (4, .one (.int .i64)), (14, .one (.int .i64)), (15, .one (.int .i64)), (20, .one (.o 5002003 .int)), (21, .one (.int .i64)), (22, .one (.int .i64))]
noncomputable def s36_2 (f12 : T12) (f80 : T80) (t4 : ShD × List Throw × Int × Int × Int × List Int × Int × Int × Unit) (rec K : ShD × List Throw × Int × Int × Int × List Int × Int × Int × Unit → Option (List Throw × Unit)) : Option (List Throw × Unit) :=
  cond (decide (t4.2.2.2.2.2.2.2.1 < t4.2.2.2.2.2.2.1)) (rdL t4.2.2.2.2.2.1 t4.2.2.2.2.2.2.2.1 fun _ => (t4.2.2.2.2.2.1[(Int.toNat t4.2.2.2.2.2.2.2.1)]?).bind fun d5 => cond (decide (d5 > 0)) (rdL t4.1.1 t4.2.2.2.2.2.2.2.1 fun d6 => capK (List.length t4.2.1 + List.length ([(⟨d6.Name, t4.2.2.1, ⟨⟨d6.At.X, d6.At.Y⟩, d6.Heading, d6.Tilt, d5⟩⟩ : Throw)] : List Throw)) (rec ((t4.1.1, t4.1.2.1, t4.1.2.2.1, t4.1.2.2.2.1, ()), (t4.2.1 ++ ([(⟨d6.Name, t4.2.2.1, ⟨⟨d6.At.X, d6.At.Y⟩, d6.Heading, d6.Tilt, d5⟩⟩ : Throw)] : List Throw)), t4.2.2.1, t4.2.2.2.1, t4.2.2.2.2.1, t4.2.2.2.2.2.1, t4.2.2.2.2.2.2.1, (w64 (t4.2.2.2.2.2.2.2.1 + 1)), ()))) (rec ((t4.1.1, t4.1.2.1, t4.1.2.2.1, t4.1.2.2.2.1, ()), t4.2.1, t4.2.2.1, t4.2.2.2.1, t4.2.2.2.2.1, t4.2.2.2.2.2.1, t4.2.2.2.2.2.2.1, (w64 (t4.2.2.2.2.2.2.2.1 + 1)), ()))) (K ((t4.1.1, t4.1.2.1, t4.1.2.2.1, t4.1.2.2.2.1, ()), t4.2.1, t4.2.2.1, t4.2.2.2.1, t4.2.2.2.2.1, t4.2.2.2.2.2.1, t4.2.2.2.2.2.2.1, t4.2.2.2.2.2.2.2.1, ()))
def q36_0 : List SP := pat 52 0 [(1, .box 5000001 [.r .device, .r .cue, .r .gust, .int .i64]), (3, .one (.o 5000002 .throw)), (14, .one (.int .i64)), (15, .one (.int .i64))]
noncomputable def s36_0 (f12 : T12) (f80 : T80) (t2 : ShD × List Throw × Int × Int × Unit) (rec K : ShD × List Throw × Int × Int × Unit → Option (List Throw × Unit)) : Option (List Throw × Unit) :=
  cond (decide (t2.2.2.2.1 < t2.2.2.1)) ((f80 ((t2.1.1, t2.1.2.1, t2.1.2.2.1, t2.1.2.2.2.1, ()), t2.2.2.2.1, ())).bind fun x3 => iterF (s36_2 f12 f80) fuel ((t2.1.1, t2.1.2.1, t2.1.2.2.1, t2.1.2.2.2.1, ()), t2.2.1, t2.2.2.2.1, t2.2.2.1, t2.2.2.2.1, x3.1, (Int.ofNat (List.length x3.1)), 0, ()) fun t7 => rec ((t7.1.1, t7.1.2.1, t7.1.2.2.1, t7.1.2.2.2.1, ()), t7.2.1, t7.2.2.2.1, (w64 (t7.2.2.2.2.1 + 1)), ())) (K ((t2.1.1, t2.1.2.1, t2.1.2.2.1, t2.1.2.2.2.1, ()), t2.2.1, t2.2.2.1, t2.2.2.2.1, ()))
noncomputable def F36 (f12 : T12) (f80 : T80) (a : ShD × Unit) : Option (List Throw × Unit) :=
  (f12 ((a.1.1, a.1.2.1, a.1.2.2.1, a.1.2.2.2.1, ()), ())).bind fun x1 => cond (!x1.1) (some (([] : List Throw), ())) (iterF (s36_0 f12 f80) fuel ((a.1.1, a.1.2.1, a.1.2.2.1, a.1.2.2.2.1, ()), ([] : List Throw), a.1.2.2.2.1, 0, ()) fun t8 => some (t8.2.1, ()))
def E36 (f12 : T12) (f80 : T80) : Env := envL [(12, N12 f12), (80, N80 f80)]
noncomputable def L36 (f12 : T12) (f80 : T80) : LEnv (densS (muts p36 ++ r36)) := lenv [(0, loopL (R := densS (muts p36 ++ r36)) q36_0 (s36_0 f12 f80)), (2, loopL (R := densS (muts p36 ++ r36)) q36_2 (s36_2 f12 f80))]
theorem e36_0 (f12 : T12) (f80 : T80) (X : Nat → St → Option (densS (muts p36 ++ r36))) (rec K : densS q36_0 → Option (densS (muts p36 ++ r36))) (t : densS q36_0) :
    ev (E36 f12 f80) tab2 (fun _ => false) (L36 f12 f80) (retK tab2 p36 r36 Proofs.Tryz.f36.results.toList) (loopC Proofs.Tryz.f36 0) (fun i s => cond (Nat.beq i 0) (decK 100 q36_0 s K) (X i s)) (fun s => decK 100 q36_0 s rec) (enc q36_0 t) = s36_0 f12 f80 t rec K := by kernel_rfl
theorem e36_2 (f12 : T12) (f80 : T80) (X : Nat → St → Option (densS (muts p36 ++ r36))) (rec K : densS q36_2 → Option (densS (muts p36 ++ r36))) (t : densS q36_2) :
    ev (E36 f12 f80) tab2 (fun _ => false) (L36 f12 f80) (retK tab2 p36 r36 Proofs.Tryz.f36.results.toList) (loopC Proofs.Tryz.f36 1) (fun i s => cond (Nat.beq i 2) (decK 100 q36_2 s K) (X i s)) (fun s => decK 100 q36_2 s rec) (enc q36_2 t) = s36_2 f12 f80 t rec K := by kernel_rfl
theorem e36 (f12 : T12) (f80 : T80) (a : densS p36) : runF (E36 f12 f80) tab2 (fun _ => false) p36 r36 Proofs.Tryz.f36 (L36 f12 f80) a = F36 f12 f80 a := by kernel_rfl
theorem ok36 {f12 : T12} {f80 : T80} (h12 : OK Proofs.Tryz.prog 12 (N12 f12)) (h80 : OK Proofs.Tryz.prog 80 (N80 f80)) : OK Proofs.Tryz.prog 36 (mkE p36 r36 false (F36 f12 f80)) :=
  fn_ok (E := E36 f12 f80) tab_ok2 (envL_ok (OKs.cons h12 (OKs.cons h80 OKs.nil))) mixed2 (ann := (fun _ => false)) (L := L36 f12 f80) (fn := Proofs.Tryz.f36) (c := bodyC Proofs.Tryz.f36) (ls := [(0, loopC Proofs.Tryz.f36 0), (2, loopC Proofs.Tryz.f36 1)]) Proofs.Tryz.func36 (by kernel_rfl) (by kernel_rfl) (by kernel_rfl) (by kernel_rfl)
    (LoopsP.cons q36_0 (s36_0 f12 f80) rfl (e36_0 f12 f80) (LoopsP.cons q36_2 (s36_2 f12 f80) rfl (e36_2 f12 f80) LoopsP.nil)) (e36 f12 f80)
/-! impl.FlightOf -/
def p81 : List SP := [.t .jet]
def r81 : List SP := [.one (.int .i64)]
abbrev T81 := Jet × Unit → Option (Int × Unit)
abbrev N81 (f : T81) : Entry := mkE p81 r81 false f
noncomputable def F81 (f129 : T129) (a : Jet × Unit) : Option (Int × Unit) :=
  (f129 (a.1, ())).bind fun x1 => cond (!x1.1) (some (0, ())) (some ((w64 (a.1.Lift + 1)), ()))
def E81 (f129 : T129) : Env := envL [(129, N129 f129)]
noncomputable def L81 (f129 : T129) : LEnv (densS (muts p81 ++ r81)) := lenv []
theorem e81 (f129 : T129) (a : densS p81) : runF (E81 f129) tab2 (fun _ => false) p81 r81 Proofs.Tryz.f81 (L81 f129) a = F81 f129 a := by kernel_rfl
theorem ok81 {f129 : T129} (h129 : OK Proofs.Tryz.prog 129 (N129 f129)) : OK Proofs.Tryz.prog 81 (mkE p81 r81 false (F81 f129)) :=
  fn_ok (E := E81 f129) tab_ok2 (envL_ok (OKs.cons h129 OKs.nil)) mixed2 (ann := (fun _ => false)) (L := L81 f129) (fn := Proofs.Tryz.f81) (c := bodyC Proofs.Tryz.f81) (ls := []) Proofs.Tryz.func81 (by kernel_rfl) (by kernel_rfl) (by kernel_rfl) (by kernel_rfl)
    LoopsP.nil (e81 f129)
/-! impl.isInAir -/
def p130 : List SP := [.t .jet, .one (.int .i64)]
def r130 : List SP := [.one (.bool)]
abbrev T130 := Jet × Int × Unit → Option (Bool × Unit)
abbrev N130 (f : T130) : Entry := mkE p130 r130 false f
noncomputable def F130 (f129 : T129) (f81 : T81) (f42 : T42) (a : Jet × Int × Unit) : Option (Bool × Unit) :=
  (f129 (a.1, ())).bind fun x1 => cond x1.1 ((f81 (a.1, ())).bind fun x2 => (f42 (a.2.1, 0, x2.1, ())).bind fun x3 => some (x3.1, ())) (some (false, ()))
def E130 (f129 : T129) (f81 : T81) (f42 : T42) : Env := envL [(129, N129 f129), (81, N81 f81), (42, N42 f42)]
noncomputable def L130 (f129 : T129) (f81 : T81) (f42 : T42) : LEnv (densS (muts p130 ++ r130)) := lenv []
theorem e130 (f129 : T129) (f81 : T81) (f42 : T42) (a : densS p130) : runF (E130 f129 f81 f42) tab2 (fun _ => false) p130 r130 Proofs.Tryz.f130 (L130 f129 f81 f42) a = F130 f129 f81 f42 a := by kernel_rfl
theorem ok130 {f129 : T129} {f81 : T81} {f42 : T42} (h129 : OK Proofs.Tryz.prog 129 (N129 f129)) (h81 : OK Proofs.Tryz.prog 81 (N81 f81)) (h42 : OK Proofs.Tryz.prog 42 (N42 f42)) : OK Proofs.Tryz.prog 130 (mkE p130 r130 false (F130 f129 f81 f42)) :=
  fn_ok (E := E130 f129 f81 f42) tab_ok2 (envL_ok (OKs.cons h129 (OKs.cons h81 (OKs.cons h42 OKs.nil)))) mixed2 (ann := (fun _ => false)) (L := L130 f129 f81 f42) (fn := Proofs.Tryz.f130) (c := bodyC Proofs.Tryz.f130) (ls := []) Proofs.Tryz.func130 (by kernel_rfl) (by kernel_rfl) (by kernel_rfl) (by kernel_rfl)
    LoopsP.nil (e130 f129 f81 f42)
/-! impl.checked -/
def p172 : List SP := [.t .place]
def r172 : List SP := [.t .place, .one (.bool)]
abbrev T172 := Place × Unit → Option (Place × Bool × Unit)
abbrev N172 (f : T172) : Entry := mkE p172 r172 false f
noncomputable def F172 (f43 : T43) (a : Place × Unit) : Option (Place × Bool × Unit) :=
  (f43 (a.1, ())).bind fun x1 => cond (!x1.1) (some ((⟨0, 0⟩ : Place), false, ())) (some (a.1, true, ()))
def E172 (f43 : T43) : Env := envL [(43, N43 f43)]
noncomputable def L172 (f43 : T43) : LEnv (densS (muts p172 ++ r172)) := lenv []
theorem e172 (f43 : T43) (a : densS p172) : runF (E172 f43) tab2 (fun _ => false) p172 r172 Proofs.Tryz.f172 (L172 f43) a = F172 f43 a := by kernel_rfl
theorem ok172 {f43 : T43} (h43 : OK Proofs.Tryz.prog 43 (N43 f43)) : OK Proofs.Tryz.prog 172 (mkE p172 r172 false (F172 f43)) :=
  fn_ok (E := E172 f43) tab_ok2 (envL_ok (OKs.cons h43 OKs.nil)) mixed2 (ann := (fun _ => false)) (L := L172 f43) (fn := Proofs.Tryz.f172) (c := bodyC Proofs.Tryz.f172) (ls := []) Proofs.Tryz.func172 (by kernel_rfl) (by kernel_rfl) (by kernel_rfl) (by kernel_rfl)
    LoopsP.nil (e172 f43)
/-! impl.StepFrom -/
def p131 : List SP := [.t .place, .one (.int .i64), .one (.int .i64)]
def r131 : List SP := [.t .place, .one (.bool)]
abbrev T131 := Place × Int × Int × Unit → Option (Place × Bool × Unit)
abbrev N131 (f : T131) : Entry := mkE p131 r131 false f
noncomputable def F131 (f43 : T43) (f126 : T126) (f90 : T90) (f44 : T44) (f172 : T172) (a : Place × Int × Int × Unit) : Option (Place × Bool × Unit) :=
  (f43 (a.1, ())).bind fun x1 => cond (!(!x1.1)) ((f126 (a.2.1, ())).bind fun x2 => cond (!(!x2.1)) ((f90 (a.2.2.1, ())).bind fun x3 => cond (!x3.1) (some ((⟨0, 0⟩ : Place), false, ())) ((f44 ((⟨a.2.2.1, 0⟩ : Place), a.2.1, ())).bind fun x4 => (f172 ((⟨(w64 (a.1.X + x4.1.X)), (w64 (a.1.Y + x4.1.Y))⟩ : Place), ())).bind fun x5 => some (x5.1, x5.2.1, ()))) (some ((⟨0, 0⟩ : Place), false, ()))) (some ((⟨0, 0⟩ : Place), false, ()))
def E131 (f43 : T43) (f126 : T126) (f90 : T90) (f44 : T44) (f172 : T172) : Env := envL [(43, N43 f43), (126, N126 f126), (90, N90 f90), (44, N44 f44), (172, N172 f172)]
noncomputable def L131 (f43 : T43) (f126 : T126) (f90 : T90) (f44 : T44) (f172 : T172) : LEnv (densS (muts p131 ++ r131)) := lenv []
theorem e131 (f43 : T43) (f126 : T126) (f90 : T90) (f44 : T44) (f172 : T172) (a : densS p131) : runF (E131 f43 f126 f90 f44 f172) tab2 (fun _ => false) p131 r131 Proofs.Tryz.f131 (L131 f43 f126 f90 f44 f172) a = F131 f43 f126 f90 f44 f172 a := by kernel_rfl
theorem ok131 {f43 : T43} {f126 : T126} {f90 : T90} {f44 : T44} {f172 : T172} (h43 : OK Proofs.Tryz.prog 43 (N43 f43)) (h126 : OK Proofs.Tryz.prog 126 (N126 f126)) (h90 : OK Proofs.Tryz.prog 90 (N90 f90)) (h44 : OK Proofs.Tryz.prog 44 (N44 f44)) (h172 : OK Proofs.Tryz.prog 172 (N172 f172)) : OK Proofs.Tryz.prog 131 (mkE p131 r131 false (F131 f43 f126 f90 f44 f172)) :=
  fn_ok (E := E131 f43 f126 f90 f44 f172) tab_ok2 (envL_ok (OKs.cons h43 (OKs.cons h126 (OKs.cons h90 (OKs.cons h44 (OKs.cons h172 OKs.nil)))))) mixed2 (ann := (fun _ => false)) (L := L131 f43 f126 f90 f44 f172) (fn := Proofs.Tryz.f131) (c := bodyC Proofs.Tryz.f131) (ls := []) Proofs.Tryz.func131 (by kernel_rfl) (by kernel_rfl) (by kernel_rfl) (by kernel_rfl)
    LoopsP.nil (e131 f43 f126 f90 f44 f172)
/-! impl.PlaceAt -/
def p82 : List SP := [.t .jet, .one (.int .i64)]
def r82 : List SP := [.t .place, .one (.bool)]
abbrev T82 := Jet × Int × Unit → Option (Place × Bool × Unit)
abbrev N82 (f : T82) : Entry := mkE p82 r82 false f
noncomputable def F82 (f130 : T130) (f131 : T131) (a : Jet × Int × Unit) : Option (Place × Bool × Unit) :=
  (f130 (a.1, a.2.1, ())).bind fun x1 => cond (!x1.1) (some ((⟨0, 0⟩ : Place), false, ())) ((f131 (a.1.At, a.1.Heading, (w64 (a.2.1 * a.1.Tilt)), ())).bind fun x2 => some (x2.1, x2.2.1, ()))
def E82 (f130 : T130) (f131 : T131) : Env := envL [(130, N130 f130), (131, N131 f131)]
noncomputable def L82 (f130 : T130) (f131 : T131) : LEnv (densS (muts p82 ++ r82)) := lenv []
theorem e82 (f130 : T130) (f131 : T131) (a : densS p82) : runF (E82 f130 f131) tab2 (fun _ => false) p82 r82 Proofs.Tryz.f82 (L82 f130 f131) a = F82 f130 f131 a := by kernel_rfl
theorem ok82 {f130 : T130} {f131 : T131} (h130 : OK Proofs.Tryz.prog 130 (N130 f130)) (h131 : OK Proofs.Tryz.prog 131 (N131 f131)) : OK Proofs.Tryz.prog 82 (mkE p82 r82 false (F82 f130 f131)) :=
  fn_ok (E := E82 f130 f131) tab_ok2 (envL_ok (OKs.cons h130 (OKs.cons h131 OKs.nil))) mixed2 (ann := (fun _ => false)) (L := L82 f130 f131) (fn := Proofs.Tryz.f82) (c := bodyC Proofs.Tryz.f82) (ls := []) Proofs.Tryz.func82 (by kernel_rfl) (by kernel_rfl) (by kernel_rfl) (by kernel_rfl)
    LoopsP.nil (e82 f130 f131)
/-! impl.LandingOf -/
def p104 : List SP := [.t .jet]
def r104 : List SP := [.t .place, .one (.bool)]
abbrev T104 := Jet × Unit → Option (Place × Bool × Unit)
abbrev N104 (f : T104) : Entry := mkE p104 r104 false f
noncomputable def F104 (f81 : T81) (f82 : T82) (a : Jet × Unit) : Option (Place × Bool × Unit) :=
  (f81 (a.1, ())).bind fun x1 => (f82 (a.1, x1.1, ())).bind fun x2 => some (x2.1, x2.2.1, ())
def E104 (f81 : T81) (f82 : T82) : Env := envL [(81, N81 f81), (82, N82 f82)]
noncomputable def L104 (f81 : T81) (f82 : T82) : LEnv (densS (muts p104 ++ r104)) := lenv []
theorem e104 (f81 : T81) (f82 : T82) (a : densS p104) : runF (E104 f81 f82) tab2 (fun _ => false) p104 r104 Proofs.Tryz.f104 (L104 f81 f82) a = F104 f81 f82 a := by kernel_rfl
theorem ok104 {f81 : T81} {f82 : T82} (h81 : OK Proofs.Tryz.prog 81 (N81 f81)) (h82 : OK Proofs.Tryz.prog 82 (N82 f82)) : OK Proofs.Tryz.prog 104 (mkE p104 r104 false (F104 f81 f82)) :=
  fn_ok (E := E104 f81 f82) tab_ok2 (envL_ok (OKs.cons h81 (OKs.cons h82 OKs.nil))) mixed2 (ann := (fun _ => false)) (L := L104 f81 f82) (fn := Proofs.Tryz.f104) (c := bodyC Proofs.Tryz.f104) (ls := []) Proofs.Tryz.func104 (by kernel_rfl) (by kernel_rfl) (by kernel_rfl) (by kernel_rfl)
    LoopsP.nil (e104 f81 f82)
/-! impl.BoxOf -/
def p59 : List SP := [.one (.r .place)]
def r59 : List SP := [.t .box, .one (.bool)]
abbrev T59 := List Place × Unit → Option (Box × Bool × Unit)
abbrev N59 (f : T59) : Entry := mkE p59 r59 false f
def q59_0 : List SP := pat 58 0 [(2, .boxt 5000001 .box), (4, .boxt 5000002 .box), (18, .one (.r .place)), (19, .one (.int .i64)), (20, .one (.int .i64))]
noncomputable def s59_0 (f43 : T43) (t3 : Box × Box × List Place × Int × Int × Unit) (rec K : Box × Box × List Place × Int × Int × Unit → Option (Box × Bool × Unit)) : Option (Box × Bool × Unit) :=
  cond (decide (t3.2.2.2.2.1 < t3.2.2.2.1)) (rdL t3.2.2.1 t3.2.2.2.2.1 fun d4 => (f43 (d4, ())).bind fun x5 => cond (!x5.1) (some ((⟨⟨0, 0⟩, ⟨0, 0⟩⟩ : Box), false, ())) (rec (t3.1, (⟨⟨(mn t3.2.1.Low.X d4.X), (mn t3.2.1.Low.Y d4.Y)⟩, ⟨(mx t3.2.1.High.X d4.X), (mx t3.2.1.High.Y d4.Y)⟩⟩ : Box), t3.2.2.1, t3.2.2.2.1, (w64 (t3.2.2.2.2.1 + 1)), ()))) (K (t3.1, t3.2.1, t3.2.2.1, t3.2.2.2.1, t3.2.2.2.2.1, ()))
noncomputable def F59 (f43 : T43) (a : List Place × Unit) : Option (Box × Bool × Unit) :=
  cond (decide ((Int.ofNat (List.length a.1)) = 0)) (some ((⟨⟨0, 0⟩, ⟨0, 0⟩⟩ : Box), false, ())) (rdL a.1 0 fun d1 => rdL a.1 0 fun d2 => iterF (s59_0 f43) fuel ((⟨⟨0, 0⟩, ⟨0, 0⟩⟩ : Box), (⟨⟨d1.X, d1.Y⟩, ⟨d2.X, d2.Y⟩⟩ : Box), a.1, (Int.ofNat (List.length a.1)), 0, ()) fun t6 => some (t6.2.1, true, ()))
def E59 (f43 : T43) : Env := envL [(43, N43 f43)]
noncomputable def L59 (f43 : T43) : LEnv (densS (muts p59 ++ r59)) := lenv [(0, loopL (R := densS (muts p59 ++ r59)) q59_0 (s59_0 f43))]
theorem e59_0 (f43 : T43) (X : Nat → St → Option (densS (muts p59 ++ r59))) (rec K : densS q59_0 → Option (densS (muts p59 ++ r59))) (t : densS q59_0) :
    ev (E59 f43) tab2 (fun _ => false) (L59 f43) (retK tab2 p59 r59 Proofs.Tryz.f59.results.toList) (loopC Proofs.Tryz.f59 0) (fun i s => cond (Nat.beq i 0) (decK 100 q59_0 s K) (X i s)) (fun s => decK 100 q59_0 s rec) (enc q59_0 t) = s59_0 f43 t rec K := by kernel_rfl
theorem e59 (f43 : T43) (a : densS p59) : runF (E59 f43) tab2 (fun _ => false) p59 r59 Proofs.Tryz.f59 (L59 f43) a = F59 f43 a := by kernel_rfl
theorem ok59 {f43 : T43} (h43 : OK Proofs.Tryz.prog 43 (N43 f43)) : OK Proofs.Tryz.prog 59 (mkE p59 r59 false (F59 f43)) :=
  fn_ok (E := E59 f43) tab_ok2 (envL_ok (OKs.cons h43 OKs.nil)) mixed2 (ann := (fun _ => false)) (L := L59 f43) (fn := Proofs.Tryz.f59) (c := bodyC Proofs.Tryz.f59) (ls := [(0, loopC Proofs.Tryz.f59 0)]) Proofs.Tryz.func59 (by kernel_rfl) (by kernel_rfl) (by kernel_rfl) (by kernel_rfl)
    (LoopsP.cons q59_0 (s59_0 f43) rfl (e59_0 f43) LoopsP.nil) (e59 f43)
/-! impl.RoseBox -/
def p105 : List SP := [.one (.r .place), .one (.int .i64)]
def r105 : List SP := [.t .box, .one (.bool)]
abbrev T105 := List Place × Int × Unit → Option (Box × Bool × Unit)
abbrev N105 (f : T105) : Entry := mkE p105 r105 false f
noncomputable def F105 (f57 : T57) (f42 : T42) (f59 : T59) (a : List Place × Int × Unit) : Option (Box × Bool × Unit) :=
  (f57 (a.1, ())).bind fun x1 => cond (!(!x1.1)) ((f42 (a.2.1, 0, 128, ())).bind fun x2 => cond (!x2.1) (some ((⟨⟨0, 0⟩, ⟨0, 0⟩⟩ : Box), false, ())) ((f59 (a.1, ())).bind fun x3 => some ((⟨⟨(w64 (a.2.1 * x3.1.Low.X)), (w64 (a.2.1 * x3.1.Low.Y))⟩, ⟨(w64 (a.2.1 * x3.1.High.X)), (w64 (a.2.1 * x3.1.High.Y))⟩⟩ : Box), true, ()))) (some ((⟨⟨0, 0⟩, ⟨0, 0⟩⟩ : Box), false, ()))
def E105 (f57 : T57) (f42 : T42) (f59 : T59) : Env := envL [(57, N57 f57), (42, N42 f42), (59, N59 f59)]
noncomputable def L105 (f57 : T57) (f42 : T42) (f59 : T59) : LEnv (densS (muts p105 ++ r105)) := lenv []
theorem e105 (f57 : T57) (f42 : T42) (f59 : T59) (a : densS p105) : runF (E105 f57 f42 f59) tab2 (fun _ => false) p105 r105 Proofs.Tryz.f105 (L105 f57 f42 f59) a = F105 f57 f42 f59 a := by kernel_rfl
theorem ok105 {f57 : T57} {f42 : T42} {f59 : T59} (h57 : OK Proofs.Tryz.prog 57 (N57 f57)) (h42 : OK Proofs.Tryz.prog 42 (N42 f42)) (h59 : OK Proofs.Tryz.prog 59 (N59 f59)) : OK Proofs.Tryz.prog 105 (mkE p105 r105 false (F105 f57 f42 f59)) :=
  fn_ok (E := E105 f57 f42 f59) tab_ok2 (envL_ok (OKs.cons h57 (OKs.cons h42 (OKs.cons h59 OKs.nil)))) mixed2 (ann := (fun _ => false)) (L := L105 f57 f42 f59) (fn := Proofs.Tryz.f105) (c := bodyC Proofs.Tryz.f105) (ls := []) Proofs.Tryz.func105 (by kernel_rfl) (by kernel_rfl) (by kernel_rfl) (by kernel_rfl)
    LoopsP.nil (e105 f57 f42 f59)
/-! impl.LandingBox -/
def p58 : List SP := [.t .jet, .one (.r .place)]
def r58 : List SP := [.t .box, .one (.bool)]
abbrev T58 := Jet × List Place × Unit → Option (Box × Bool × Unit)
abbrev N58 (f : T58) : Entry := mkE p58 r58 false f
noncomputable def F58 (f104 : T104) (f81 : T81) (f105 : T105) (a : Jet × List Place × Unit) : Option (Box × Bool × Unit) :=
  (f104 (a.1, ())).bind fun x1 => (f81 (a.1, ())).bind fun x2 => (f105 (a.2.1, x2.1, ())).bind fun x3 => cond (!(!x1.2.1)) (cond (!x3.2.1) (some ((⟨⟨0, 0⟩, ⟨0, 0⟩⟩ : Box), false, ())) (some ((⟨⟨(w64 (x1.1.X + x3.1.Low.X)), (w64 (x1.1.Y + x3.1.Low.Y))⟩, ⟨(w64 (x1.1.X + x3.1.High.X)), (w64 (x1.1.Y + x3.1.High.Y))⟩⟩ : Box), true, ()))) (some ((⟨⟨0, 0⟩, ⟨0, 0⟩⟩ : Box), false, ()))
def E58 (f104 : T104) (f81 : T81) (f105 : T105) : Env := envL [(104, N104 f104), (81, N81 f81), (105, N105 f105)]
noncomputable def L58 (f104 : T104) (f81 : T81) (f105 : T105) : LEnv (densS (muts p58 ++ r58)) := lenv []
theorem e58 (f104 : T104) (f81 : T81) (f105 : T105) (a : densS p58) : runF (E58 f104 f81 f105) tab2 (fun _ => false) p58 r58 Proofs.Tryz.f58 (L58 f104 f81 f105) a = F58 f104 f81 f105 a := by kernel_rfl
theorem ok58 {f104 : T104} {f81 : T81} {f105 : T105} (h104 : OK Proofs.Tryz.prog 104 (N104 f104)) (h81 : OK Proofs.Tryz.prog 81 (N81 f81)) (h105 : OK Proofs.Tryz.prog 105 (N105 f105)) : OK Proofs.Tryz.prog 58 (mkE p58 r58 false (F58 f104 f81 f105)) :=
  fn_ok (E := E58 f104 f81 f105) tab_ok2 (envL_ok (OKs.cons h104 (OKs.cons h81 (OKs.cons h105 OKs.nil)))) mixed2 (ann := (fun _ => false)) (L := L58 f104 f81 f105) (fn := Proofs.Tryz.f58) (c := bodyC Proofs.Tryz.f58) (ls := []) Proofs.Tryz.func58 (by kernel_rfl) (by kernel_rfl) (by kernel_rfl) (by kernel_rfl)
    LoopsP.nil (e58 f104 f81 f105)
/-! impl.LeastBasin -/
def p23 : List SP := [.agg [.r .device, .r .cue, .r .gust, .int .i64], .one (.r .place)]
def r23 : List SP := [.t .box, .one (.bool)]
abbrev T23 := ShD × List Place × Unit → Option (Box × Bool × Unit)
abbrev N23 (f : T23) : Entry := mkE p23 r23 false f
def q23_0 : List SP := pat 42 0 [(1, .one (.r .place)), (4, .boxt 5000001 .box), (6, .one (.o 5000002 .place)), (17, .one (.o 5000003 .throw)), (18, .one (.int .i64)), (19, .one (.int .i64))]
noncomputable def s23_0 (f57 : T57) (f36 : T36) (f58 : T58) (f59 : T59) (t3 : List Place × Box × List Place × List Throw × Int × Int × Unit) (rec K : List Place × Box × List Place × List Throw × Int × Int × Unit → Option (Box × Bool × Unit)) : Option (Box × Bool × Unit) :=
  cond (decide (t3.2.2.2.2.2.1 < t3.2.2.2.2.1)) (rdL t3.2.2.2.1 t3.2.2.2.2.2.1 fun _ => (t3.2.2.2.1[(Int.toNat t3.2.2.2.2.2.1)]?).bind fun d4 => (f58 (d4.jet, t3.1, ())).bind fun x5 => capK (List.length t3.2.2.1 + List.length ([x5.1.Low, x5.1.High] : List Place)) (rec (t3.1, t3.2.1, (t3.2.2.1 ++ ([x5.1.Low, x5.1.High] : List Place)), t3.2.2.2.1, t3.2.2.2.2.1, (w64 (t3.2.2.2.2.2.1 + 1)), ()))) (K (t3.1, t3.2.1, t3.2.2.1, t3.2.2.2.1, t3.2.2.2.2.1, t3.2.2.2.2.2.1, ()))
noncomputable def F23 (f57 : T57) (f36 : T36) (f58 : T58) (f59 : T59) (a : ShD × List Place × Unit) : Option (Box × Bool × Unit) :=
  (f57 (a.2.1, ())).bind fun x1 => cond (!x1.1) (some ((⟨⟨0, 0⟩, ⟨0, 0⟩⟩ : Box), false, ())) ((f36 ((a.1.1, a.1.2.1, a.1.2.2.1, a.1.2.2.2.1, ()), ())).bind fun x2 => iterF (s23_0 f57 f36 f58 f59) fuel (a.2.1, (⟨⟨0, 0⟩, ⟨0, 0⟩⟩ : Box), ([] : List Place), x2.1, (Int.ofNat (List.length x2.1)), 0, ()) fun t6 => (f59 (t6.2.2.1, ())).bind fun x7 => some (x7.1, x7.2.1, ()))
def E23 (f57 : T57) (f36 : T36) (f58 : T58) (f59 : T59) : Env := envL [(57, N57 f57), (36, N36 f36), (58, N58 f58), (59, N59 f59)]
noncomputable def L23 (f57 : T57) (f36 : T36) (f58 : T58) (f59 : T59) : LEnv (densS (muts p23 ++ r23)) := lenv [(0, loopL (R := densS (muts p23 ++ r23)) q23_0 (s23_0 f57 f36 f58 f59))]
theorem e23_0 (f57 : T57) (f36 : T36) (f58 : T58) (f59 : T59) (X : Nat → St → Option (densS (muts p23 ++ r23))) (rec K : densS q23_0 → Option (densS (muts p23 ++ r23))) (t : densS q23_0) :
    ev (E23 f57 f36 f58 f59) tab2 (fun _ => false) (L23 f57 f36 f58 f59) (retK tab2 p23 r23 Proofs.Tryz.f23.results.toList) (loopC Proofs.Tryz.f23 0) (fun i s => cond (Nat.beq i 0) (decK 100 q23_0 s K) (X i s)) (fun s => decK 100 q23_0 s rec) (enc q23_0 t) = s23_0 f57 f36 f58 f59 t rec K := by kernel_rfl
theorem e23 (f57 : T57) (f36 : T36) (f58 : T58) (f59 : T59) (a : densS p23) : runF (E23 f57 f36 f58 f59) tab2 (fun _ => false) p23 r23 Proofs.Tryz.f23 (L23 f57 f36 f58 f59) a = F23 f57 f36 f58 f59 a := by kernel_rfl
theorem ok23 {f57 : T57} {f36 : T36} {f58 : T58} {f59 : T59} (h57 : OK Proofs.Tryz.prog 57 (N57 f57)) (h36 : OK Proofs.Tryz.prog 36 (N36 f36)) (h58 : OK Proofs.Tryz.prog 58 (N58 f58)) (h59 : OK Proofs.Tryz.prog 59 (N59 f59)) : OK Proofs.Tryz.prog 23 (mkE p23 r23 false (F23 f57 f36 f58 f59)) :=
  fn_ok (E := E23 f57 f36 f58 f59) tab_ok2 (envL_ok (OKs.cons h57 (OKs.cons h36 (OKs.cons h58 (OKs.cons h59 OKs.nil))))) mixed2 (ann := (fun _ => false)) (L := L23 f57 f36 f58 f59) (fn := Proofs.Tryz.f23) (c := bodyC Proofs.Tryz.f23) (ls := [(0, loopC Proofs.Tryz.f23 0)]) Proofs.Tryz.func23 (by kernel_rfl) (by kernel_rfl) (by kernel_rfl) (by kernel_rfl)
    (LoopsP.cons q23_0 (s23_0 f57 f36 f58 f59) rfl (e23_0 f57 f36 f58 f59) LoopsP.nil) (e23 f57 f36 f58 f59)
/-! slices.Clone[[]impl.Place,impl.Place] -/
def p63 : List SP := [.one (.r .place)]
def r63 : List SP := [.one (.o 0 .place)]
abbrev T63 := List Place × Unit → Option (List Place × Unit)
abbrev N63 (f : T63) : Entry := mkE p63 r63 false f
noncomputable def F63 (a : List Place × Unit) : Option (List Place × Unit) :=
  emptyK (List.isEmpty a.1) (some ([], ())) (capK (List.length ([] : List Place) + List.length a.1) (some ((([] : List Place) ++ a.1), ())))
def E63 : Env := envL []
noncomputable def L63 : LEnv (densS (muts p63 ++ r63)) := lenv []
theorem e63 (a : densS p63) : runF (E63) tab2 (fun _ => false) p63 r63 Proofs.Tryz.f63 (L63) a = F63 a := by kernel_rfl
theorem ok63 : OK Proofs.Tryz.prog 63 (mkE p63 r63 false (F63)) :=
  fn_ok (E := E63) tab_ok2 (envL_ok OKs.nil) mixed2 (ann := (fun _ => false)) (L := L63) (fn := Proofs.Tryz.f63) (c := bodyC Proofs.Tryz.f63) (ls := []) Proofs.Tryz.func63 (by kernel_rfl) (by kernel_rfl) (by kernel_rfl) (by kernel_rfl)
    LoopsP.nil (e63)
/-! slices.Compact[[]impl.Place,impl.Place] -/
def p66 : List SP := [.one (.o 0 .place)]
def r66 : List SP := [.one (.al 0 .place)]
abbrev T66 := List Place × Unit → Option (List Place × Unit × Unit)
abbrev N66 (f : T66) : Entry := mkE p66 r66 false f
def q66_2 : List SP := pat 61 0 [(0, .one (.o 0 .place)), (3, .one (.int .i64)), (4, .one (.r .place)), (5, .one (.int .i64))]
noncomputable def s66_2 (t4 : List Place × Int × List Place × Int × Unit) (rec K : List Place × Int × List Place × Int × Unit → Option (List Place × Unit × Unit)) : Option (List Place × Unit × Unit) :=
  cond (decide (t4.2.2.2.1 < (Int.ofNat (List.length t4.2.2.1)))) (rdL t4.2.2.1 t4.2.2.2.1 fun d5 => rdL t4.2.2.1 (w64 (t4.2.2.2.1 - 1)) fun d6 => cond (!(decide (d5.X = d6.X) && (decide (d5.Y = d6.Y) && true))) (rdL t4.2.2.1 t4.2.2.2.1 fun d7 => rdL t4.1 t4.2.1 fun _ => (t4.1[(Int.toNat t4.2.1)]?).bind fun d8 => rec ((List.set t4.1 (Int.toNat t4.2.1) d7), (w64 (t4.2.1 + 1)), t4.2.2.1, (w64 (t4.2.2.2.1 + 1)), ())) (rec (t4.1, t4.2.1, t4.2.2.1, (w64 (t4.2.2.2.1 + 1)), ()))) (K (t4.1, t4.2.1, t4.2.2.1, t4.2.2.2.1, ()))
def q66_0 : List SP := pat 61 0 [(0, .one (.o 0 .place)), (3, .one (.int .i64))]
noncomputable def s66_0 (t1 : List Place × Int × Unit) (rec K : List Place × Int × Unit → Option (List Place × Unit × Unit)) : Option (List Place × Unit × Unit) :=
  cond (decide (t1.2.1 < (Int.ofNat (List.length t1.1)))) (rdL t1.1 t1.2.1 fun _ => (t1.1[(Int.toNat t1.2.1)]?).bind fun d2 => rdL t1.1 (w64 (t1.2.1 - 1)) fun _ => (t1.1[(Int.toNat (w64 (t1.2.1 - 1)))]?).bind fun d3 => cond (decide (d2.X = d3.X) && (decide (d2.Y = d3.Y) && true)) (okIf ((0 : Int) ≤ t1.2.1 ∧ (t1.2.1 : Int) ≤ List.length t1.1) (none)) (rec (t1.1, (w64 (t1.2.1 + 1)), ()))) (K (t1.1, t1.2.1, ()))
noncomputable def F66 (a : List Place × Unit) : Option (List Place × Unit × Unit) :=
  cond (decide ((Int.ofNat (List.length a.1)) < 2)) (some (a.1, (), ())) (iterF (s66_0) fuel (a.1, 1, ()) fun t9 => some (t9.1, (), ()))
def E66 : Env := envL []
noncomputable def L66 : LEnv (densS (muts p66 ++ r66)) := lenv [(0, loopL (R := densS (muts p66 ++ r66)) q66_0 (s66_0)), (2, loopL (R := densS (muts p66 ++ r66)) q66_2 (s66_2))]
theorem e66_0 (X : Nat → St → Option (densS (muts p66 ++ r66))) (rec K : densS q66_0 → Option (densS (muts p66 ++ r66))) (t : densS q66_0) :
    ev (E66) tab2 (fun _ => false) (L66) (retK tab2 p66 r66 Proofs.Tryz.f66.results.toList) (loopC Proofs.Tryz.f66 0) (fun i s => cond (Nat.beq i 0) (decK 100 q66_0 s K) (X i s)) (fun s => decK 100 q66_0 s rec) (enc q66_0 t) = s66_0 t rec K := by kernel_rfl
theorem e66_2 (X : Nat → St → Option (densS (muts p66 ++ r66))) (rec K : densS q66_2 → Option (densS (muts p66 ++ r66))) (t : densS q66_2) :
    ev (E66) tab2 (fun _ => false) (L66) (retK tab2 p66 r66 Proofs.Tryz.f66.results.toList) (loopC Proofs.Tryz.f66 1) (fun i s => cond (Nat.beq i 2) (decK 100 q66_2 s K) (X i s)) (fun s => decK 100 q66_2 s rec) (enc q66_2 t) = s66_2 t rec K := by kernel_rfl
theorem e66 (a : densS p66) : runF (E66) tab2 (fun _ => false) p66 r66 Proofs.Tryz.f66 (L66) a = F66 a := by kernel_rfl
theorem ok66 : OK Proofs.Tryz.prog 66 (mkE p66 r66 false (F66)) :=
  fn_ok (E := E66) tab_ok2 (envL_ok OKs.nil) mixed2 (ann := (fun _ => false)) (L := L66) (fn := Proofs.Tryz.f66) (c := bodyC Proofs.Tryz.f66) (ls := [(0, loopC Proofs.Tryz.f66 0), (2, loopC Proofs.Tryz.f66 1)]) Proofs.Tryz.func66 (by kernel_rfl) (by kernel_rfl) (by kernel_rfl) (by kernel_rfl)
    (LoopsP.cons q66_0 (s66_0) rfl (e66_0) (LoopsP.cons q66_2 (s66_2) rfl (e66_2) LoopsP.nil)) (e66)
/-! impl.SortedPlaces -/
def p25 : List SP := [.one (.r .place)]
def r25 : List SP := [.one (.o 0 .place)]
abbrev T25 := List Place × Unit → Option (List Place × Unit)
abbrev N25 (f : T25) : Entry := mkE p25 r25 false f
noncomputable def F25 (f63 : T63) (f64 : T64) (f66 : T66) (a : List Place × Unit) : Option (List Place × Unit) :=
  (f63 (a.1, ())).bind fun x1 => (f64 (x1.1, ())).bind fun x2 => (f66 (x2.1, ())).bind fun x3 => some (x3.1, ())
def E25 (f63 : T63) (f64 : T64) (f66 : T66) : Env := envL [(63, N63 f63), (64, N64 f64), (66, N66 f66)]
noncomputable def L25 (f63 : T63) (f64 : T64) (f66 : T66) : LEnv (densS (muts p25 ++ r25)) := lenv []
theorem e25 (f63 : T63) (f64 : T64) (f66 : T66) (a : densS p25) : runF (E25 f63 f64 f66) tab2 (fun _ => false) p25 r25 Proofs.Tryz.f25 (L25 f63 f64 f66) a = F25 f63 f64 f66 a := by kernel_rfl
theorem ok25 {f63 : T63} {f64 : T64} {f66 : T66} (h63 : OK Proofs.Tryz.prog 63 (N63 f63)) (h64 : OK Proofs.Tryz.prog 64 (N64 f64)) (h66 : OK Proofs.Tryz.prog 66 (N66 f66)) : OK Proofs.Tryz.prog 25 (mkE p25 r25 false (F25 f63 f64 f66)) :=
  fn_ok (E := E25 f63 f64 f66) tab_ok2 (envL_ok (OKs.cons h63 (OKs.cons h64 (OKs.cons h66 OKs.nil)))) mixed2 (ann := (fun _ => false)) (L := L25 f63 f64 f66) (fn := Proofs.Tryz.f25) (c := bodyC Proofs.Tryz.f25) (ls := []) Proofs.Tryz.func25 (by kernel_rfl) (by kernel_rfl) (by kernel_rfl) (by kernel_rfl)
    LoopsP.nil (e25 f63 f64 f66)
/-! impl.IsBox -/
def p17 : List SP := [.t .box]
def r17 : List SP := [.one (.bool)]
abbrev T17 := Box × Unit → Option (Bool × Unit)
abbrev N17 (f : T17) : Entry := mkE p17 r17 false f
noncomputable def F17 (f43 : T43) (a : Box × Unit) : Option (Bool × Unit) :=
  (f43 (a.1.Low, ())).bind fun x1 => cond x1.1 ((f43 (a.1.High, ())).bind fun x2 => cond x2.1 (cond (decide (a.1.Low.X ≤ a.1.High.X)) (some ((decide (a.1.Low.Y ≤ a.1.High.Y)), ())) (some (false, ()))) (some (false, ()))) (some (false, ()))
def E17 (f43 : T43) : Env := envL [(43, N43 f43)]
noncomputable def L17 (f43 : T43) : LEnv (densS (muts p17 ++ r17)) := lenv []
theorem e17 (f43 : T43) (a : densS p17) : runF (E17 f43) tab2 (fun _ => false) p17 r17 Proofs.Tryz.f17 (L17 f43) a = F17 f43 a := by kernel_rfl
theorem ok17 {f43 : T43} (h43 : OK Proofs.Tryz.prog 43 (N43 f43)) : OK Proofs.Tryz.prog 17 (mkE p17 r17 false (F17 f43)) :=
  fn_ok (E := E17 f43) tab_ok2 (envL_ok (OKs.cons h43 OKs.nil)) mixed2 (ann := (fun _ => false)) (L := L17 f43) (fn := Proofs.Tryz.f17) (c := bodyC Proofs.Tryz.f17) (ls := []) Proofs.Tryz.func17 (by kernel_rfl) (by kernel_rfl) (by kernel_rfl) (by kernel_rfl)
    LoopsP.nil (e17 f43)
/-! impl.TurnBox -/
def p27 : List SP := [.t .box, .one (.int .i64)]
def r27 : List SP := [.t .box]
abbrev T27 := Box × Int × Unit → Option (Box × Unit)
abbrev N27 (f : T27) : Entry := mkE p27 r27 false f
noncomputable def F27 (f17 : T17) (f44 : T44) (f59 : T59) (a : Box × Int × Unit) : Option (Box × Unit) :=
  (f17 (a.1, ())).bind fun x1 => cond (!x1.1) (some ((⟨⟨0, 0⟩, ⟨0, 0⟩⟩ : Box), ())) ((f44 (a.1.Low, a.2.1, ())).bind fun x5 => (f44 (a.1.High, a.2.1, ())).bind fun x6 => (f59 (([x5.1, x6.1] : List Place), ())).bind fun x7 => some (x7.1, ()))
def E27 (f17 : T17) (f44 : T44) (f59 : T59) : Env := envL [(17, N17 f17), (44, N44 f44), (59, N59 f59)]
noncomputable def L27 (f17 : T17) (f44 : T44) (f59 : T59) : LEnv (densS (muts p27 ++ r27)) := lenv []
theorem e27 (f17 : T17) (f44 : T44) (f59 : T59) (a : densS p27) : runF (E27 f17 f44 f59) tab2 (fun n => Nat.beq n 900005 || Nat.beq n 1399999) p27 r27 Proofs.Tryz.f27 (L27 f17 f44 f59) a = F27 f17 f44 f59 a := by kernel_rfl
theorem ok27 {f17 : T17} {f44 : T44} {f59 : T59} (h17 : OK Proofs.Tryz.prog 17 (N17 f17)) (h44 : OK Proofs.Tryz.prog 44 (N44 f44)) (h59 : OK Proofs.Tryz.prog 59 (N59 f59)) : OK Proofs.Tryz.prog 27 (mkE p27 r27 false (F27 f17 f44 f59)) :=
  fn_ok (E := E27 f17 f44 f59) tab_ok2 (envL_ok (OKs.cons h17 (OKs.cons h44 (OKs.cons h59 OKs.nil)))) mixed2 (ann := (fun n => Nat.beq n 900005 || Nat.beq n 1399999)) (L := L27 f17 f44 f59) (fn := Proofs.Tryz.f27) (c := bodyC Proofs.Tryz.f27) (ls := []) Proofs.Tryz.func27 (by kernel_rfl) (by kernel_rfl) (by kernel_rfl) (by kernel_rfl)
    LoopsP.nil (e27 f17 f44 f59)
/-! impl.InBox -/
def p20 : List SP := [.t .box, .t .place]
def r20 : List SP := [.one (.bool)]
abbrev T20 := Box × Place × Unit → Option (Bool × Unit)
abbrev N20 (f : T20) : Entry := mkE p20 r20 false f
noncomputable def F20 (f17 : T17) (f42 : T42) (a : Box × Place × Unit) : Option (Bool × Unit) :=
  (f17 (a.1, ())).bind fun x1 => cond x1.1 ((f42 (a.2.1.X, a.1.Low.X, a.1.High.X, ())).bind fun x2 => cond x2.1 ((f42 (a.2.1.Y, a.1.Low.Y, a.1.High.Y, ())).bind fun x3 => some (x3.1, ())) (some (false, ()))) (some (false, ()))
def E20 (f17 : T17) (f42 : T42) : Env := envL [(17, N17 f17), (42, N42 f42)]
noncomputable def L20 (f17 : T17) (f42 : T42) : LEnv (densS (muts p20 ++ r20)) := lenv []
theorem e20 (f17 : T17) (f42 : T42) (a : densS p20) : runF (E20 f17 f42) tab2 (fun _ => false) p20 r20 Proofs.Tryz.f20 (L20 f17 f42) a = F20 f17 f42 a := by kernel_rfl
theorem ok20 {f17 : T17} {f42 : T42} (h17 : OK Proofs.Tryz.prog 17 (N17 f17)) (h42 : OK Proofs.Tryz.prog 42 (N42 f42)) : OK Proofs.Tryz.prog 20 (mkE p20 r20 false (F20 f17 f42)) :=
  fn_ok (E := E20 f17 f42) tab_ok2 (envL_ok (OKs.cons h17 (OKs.cons h42 OKs.nil))) mixed2 (ann := (fun _ => false)) (L := L20 f17 f42) (fn := Proofs.Tryz.f20) (c := bodyC Proofs.Tryz.f20) (ls := []) Proofs.Tryz.func20 (by kernel_rfl) (by kernel_rfl) (by kernel_rfl) (by kernel_rfl)
    LoopsP.nil (e20 f17 f42)
/-! impl.isIn -/
def p67 : List SP := [.t .box, .t .box]
def r67 : List SP := [.one (.bool)]
abbrev T67 := Box × Box × Unit → Option (Bool × Unit)
abbrev N67 (f : T67) : Entry := mkE p67 r67 false f
noncomputable def F67 (f20 : T20) (a : Box × Box × Unit) : Option (Bool × Unit) :=
  (f20 (a.2.1, a.1.Low, ())).bind fun x1 => cond x1.1 ((f20 (a.2.1, a.1.High, ())).bind fun x2 => some (x2.1, ())) (some (false, ()))
def E67 (f20 : T20) : Env := envL [(20, N20 f20)]
noncomputable def L67 (f20 : T20) : LEnv (densS (muts p67 ++ r67)) := lenv []
theorem e67 (f20 : T20) (a : densS p67) : runF (E67 f20) tab2 (fun _ => false) p67 r67 Proofs.Tryz.f67 (L67 f20) a = F67 f20 a := by kernel_rfl
theorem ok67 {f20 : T20} (h20 : OK Proofs.Tryz.prog 20 (N20 f20)) : OK Proofs.Tryz.prog 67 (mkE p67 r67 false (F67 f20)) :=
  fn_ok (E := E67 f20) tab_ok2 (envL_ok (OKs.cons h20 OKs.nil)) mixed2 (ann := (fun _ => false)) (L := L67 f20) (fn := Proofs.Tryz.f67) (c := bodyC Proofs.Tryz.f67) (ls := []) Proofs.Tryz.func67 (by kernel_rfl) (by kernel_rfl) (by kernel_rfl) (by kernel_rfl)
    LoopsP.nil (e67 f20)
/-! impl.IsSafe -/
def p26 : List SP := [.agg [.r .device, .r .cue, .r .gust, .int .i64], .one (.r .place), .t .box]
def r26 : List SP := [.one (.bool)]
abbrev T26 := ShD × List Place × Box × Unit → Option (Bool × Unit)
abbrev N26 (f : T26) : Entry := mkE p26 r26 false f
noncomputable def F26 (f12 : T12) (f57 : T57) (f17 : T17) (f23 : T23) (f67 : T67) (a : ShD × List Place × Box × Unit) : Option (Bool × Unit) :=
  (f12 ((a.1.1, a.1.2.1, a.1.2.2.1, a.1.2.2.2.1, ()), ())).bind fun x1 => cond (!(!x1.1)) ((f57 (a.2.1, ())).bind fun x2 => cond (!(!x2.1)) ((f17 (a.2.2.1, ())).bind fun x3 => cond (!x3.1) (some (false, ())) ((f23 ((a.1.1, a.1.2.1, a.1.2.2.1, a.1.2.2.2.1, ()), a.2.1, ())).bind fun x4 => cond (!(!x4.2.1)) ((f67 (x4.1, a.2.2.1, ())).bind fun x5 => some (x5.1, ())) (some (true, ())))) (some (false, ()))) (some (false, ()))
def E26 (f12 : T12) (f57 : T57) (f17 : T17) (f23 : T23) (f67 : T67) : Env := envL [(12, N12 f12), (57, N57 f57), (17, N17 f17), (23, N23 f23), (67, N67 f67)]
noncomputable def L26 (f12 : T12) (f57 : T57) (f17 : T17) (f23 : T23) (f67 : T67) : LEnv (densS (muts p26 ++ r26)) := lenv []
theorem e26 (f12 : T12) (f57 : T57) (f17 : T17) (f23 : T23) (f67 : T67) (a : densS p26) : runF (E26 f12 f57 f17 f23 f67) tab2 (fun _ => false) p26 r26 Proofs.Tryz.f26 (L26 f12 f57 f17 f23 f67) a = F26 f12 f57 f17 f23 f67 a := by kernel_rfl
theorem ok26 {f12 : T12} {f57 : T57} {f17 : T17} {f23 : T23} {f67 : T67} (h12 : OK Proofs.Tryz.prog 12 (N12 f12)) (h57 : OK Proofs.Tryz.prog 57 (N57 f57)) (h17 : OK Proofs.Tryz.prog 17 (N17 f17)) (h23 : OK Proofs.Tryz.prog 23 (N23 f23)) (h67 : OK Proofs.Tryz.prog 67 (N67 f67)) : OK Proofs.Tryz.prog 26 (mkE p26 r26 false (F26 f12 f57 f17 f23 f67)) :=
  fn_ok (E := E26 f12 f57 f17 f23 f67) tab_ok2 (envL_ok (OKs.cons h12 (OKs.cons h57 (OKs.cons h17 (OKs.cons h23 (OKs.cons h67 OKs.nil)))))) mixed2 (ann := (fun _ => false)) (L := L26 f12 f57 f17 f23 f67) (fn := Proofs.Tryz.f26) (c := bodyC Proofs.Tryz.f26) (ls := []) Proofs.Tryz.func26 (by kernel_rfl) (by kernel_rfl) (by kernel_rfl) (by kernel_rfl)
    LoopsP.nil (e26 f12 f57 f17 f23 f67)
/-! laws.FnSafeTurned -/
def p5 : List SP := [.one (.r .u8)]
def r5 : List SP := [.one (.bool)]
abbrev T5 := List Int × Unit → Option (Bool × Unit)
abbrev N5 (f : T5) : Entry := mkE p5 r5 false f
def q5_0 : List SP := pat 90 0 [(3, .box 5000001 [.r .device, .r .cue, .r .gust, .int .i64]), (4, .one (.r .place)), (5, .boxt 5000002 .box), (7, .one (.o 5000003 .place)), (8, .one (.int .i64))]
noncomputable def s5_0 (f6 : T6) (f22 : T22) (f14 : T14) (f9 : T9) (f23 : T23) (f24 : T24) (f25 : T25) (f27 : T27) (f26 : T26) (t3 : ShD × List Place × Box × List Place × Int × Unit) (rec K : ShD × List Place × Box × List Place × Int × Unit → Option (Bool × Unit)) : Option (Bool × Unit) :=
  cond (decide (t3.2.2.2.2.1 < (Int.ofNat (List.length t3.2.1)))) (rdL t3.2.1 t3.2.2.2.2.1 fun d4 => (f14 (d4, 1, ())).bind fun x5 => capK (List.length t3.2.2.2.1 + List.length ([x5.1] : List Place)) (rec ((t3.1.1, t3.1.2.1, t3.1.2.2.1, t3.1.2.2.2.1, ()), t3.2.1, t3.2.2.1, (t3.2.2.2.1 ++ ([x5.1] : List Place)), (w64 (t3.2.2.2.2.1 + 1)), ()))) (K ((t3.1.1, t3.1.2.1, t3.1.2.2.1, t3.1.2.2.2.1, ()), t3.2.1, t3.2.2.1, t3.2.2.2.1, t3.2.2.2.2.1, ()))
noncomputable def F5 (f6 : T6) (f22 : T22) (f14 : T14) (f9 : T9) (f23 : T23) (f24 : T24) (f25 : T25) (f27 : T27) (f26 : T26) (a : List Int × Unit) : Option (Bool × Unit) :=
  (f6 (a.1, ())).bind fun x1 => cond x1.1 (some (true, ())) ((f22 (a.1, ())).bind fun x2 => iterF (s5_0 f6 f22 f14 f9 f23 f24 f25 f27 f26) fuel ((x2.1.1, x2.1.2.1, x2.1.2.2.1, x2.1.2.2.2.1, ()), x2.2.1, x2.2.2.1, ([] : List Place), 0, ()) fun t6 => (f9 ((t6.1.1, t6.1.2.1, t6.1.2.2.1, t6.1.2.2.2.1, ()), 1, ())).bind fun x7 => (f23 ((t6.1.1, t6.1.2.1, t6.1.2.2.1, t6.1.2.2.2.1, ()), t6.2.1, ())).bind fun x8 => (f24 ((t6.1.1, t6.1.2.1, t6.1.2.2.1, t6.1.2.2.2.1, ()), t6.2.1, ())).bind fun x9 => cond (!(decide (x8.2.1 = x9.2.1))) (some (false, ())) ((f25 (t6.2.2.2.1, ())).bind fun x12 => (f23 ((x7.1.1, x7.1.2.1, x7.1.2.2.1, x7.1.2.2.2.1, ()), x12.1, ())).bind fun x13 => (f25 (t6.2.2.2.1, ())).bind fun x14 => (f27 (t6.2.2.1, 1, ())).bind fun x15 => (f26 ((x7.1.1, x7.1.2.1, x7.1.2.2.1, x7.1.2.2.2.1, ()), x14.1, x15.1, ())).bind fun x16 => (f26 ((t6.1.1, t6.1.2.1, t6.1.2.2.1, t6.1.2.2.2.1, ()), t6.2.1, t6.2.2.1, ())).bind fun x17 => cond (decide (x16.1 = x17.1)) (cond (decide (x8.2.1 = x13.2.1)) (cond (!(!x8.2.1)) ((f27 (x8.1, 1, ())).bind fun x18 => some ((decide (x13.1.Low.X = x18.1.Low.X) && (decide (x13.1.Low.Y = x18.1.Low.Y) && (decide (x13.1.High.X = x18.1.High.X) && (decide (x13.1.High.Y = x18.1.High.Y) && true)))), ())) (some (true, ()))) (some (false, ()))) (some (false, ()))))
def E5 (f6 : T6) (f22 : T22) (f14 : T14) (f9 : T9) (f23 : T23) (f24 : T24) (f25 : T25) (f27 : T27) (f26 : T26) : Env := envL [(6, N6 f6), (22, N22 f22), (14, N14 f14), (9, N9 f9), (23, N23 f23), (24, N24 f24), (25, N25 f25), (27, N27 f27), (26, N26 f26)]
noncomputable def L5 (f6 : T6) (f22 : T22) (f14 : T14) (f9 : T9) (f23 : T23) (f24 : T24) (f25 : T25) (f27 : T27) (f26 : T26) : LEnv (densS (muts p5 ++ r5)) := lenv [(0, loopL (R := densS (muts p5 ++ r5)) q5_0 (s5_0 f6 f22 f14 f9 f23 f24 f25 f27 f26))]
theorem e5_0 (f6 : T6) (f22 : T22) (f14 : T14) (f9 : T9) (f23 : T23) (f24 : T24) (f25 : T25) (f27 : T27) (f26 : T26) (X : Nat → St → Option (densS (muts p5 ++ r5))) (rec K : densS q5_0 → Option (densS (muts p5 ++ r5))) (t : densS q5_0) :
    ev (E5 f6 f22 f14 f9 f23 f24 f25 f27 f26) tab2 (fun n => Nat.beq n 900014 || Nat.beq n 2499999) (L5 f6 f22 f14 f9 f23 f24 f25 f27 f26) (retK tab2 p5 r5 Proofs.Tryz.f5.results.toList) (loopC Proofs.Tryz.f5 0) (fun i s => cond (Nat.beq i 0) (decK 100 q5_0 s K) (X i s)) (fun s => decK 100 q5_0 s rec) (enc q5_0 t) = s5_0 f6 f22 f14 f9 f23 f24 f25 f27 f26 t rec K := by kernel_rfl
theorem e5 (f6 : T6) (f22 : T22) (f14 : T14) (f9 : T9) (f23 : T23) (f24 : T24) (f25 : T25) (f27 : T27) (f26 : T26) (a : densS p5) : runF (E5 f6 f22 f14 f9 f23 f24 f25 f27 f26) tab2 (fun n => Nat.beq n 900014 || Nat.beq n 2499999) p5 r5 Proofs.Tryz.f5 (L5 f6 f22 f14 f9 f23 f24 f25 f27 f26) a = F5 f6 f22 f14 f9 f23 f24 f25 f27 f26 a := by kernel_rfl
theorem ok5 {f6 : T6} {f22 : T22} {f14 : T14} {f9 : T9} {f23 : T23} {f24 : T24} {f25 : T25} {f27 : T27} {f26 : T26} (h6 : OK Proofs.Tryz.prog 6 (N6 f6)) (h22 : OK Proofs.Tryz.prog 22 (N22 f22)) (h14 : OK Proofs.Tryz.prog 14 (N14 f14)) (h9 : OK Proofs.Tryz.prog 9 (N9 f9)) (h23 : OK Proofs.Tryz.prog 23 (N23 f23)) (h24 : OK Proofs.Tryz.prog 24 (N24 f24)) (h25 : OK Proofs.Tryz.prog 25 (N25 f25)) (h27 : OK Proofs.Tryz.prog 27 (N27 f27)) (h26 : OK Proofs.Tryz.prog 26 (N26 f26)) : OK Proofs.Tryz.prog 5 (mkE p5 r5 false (F5 f6 f22 f14 f9 f23 f24 f25 f27 f26)) :=
  fn_ok (E := E5 f6 f22 f14 f9 f23 f24 f25 f27 f26) tab_ok2 (envL_ok (OKs.cons h6 (OKs.cons h22 (OKs.cons h14 (OKs.cons h9 (OKs.cons h23 (OKs.cons h24 (OKs.cons h25 (OKs.cons h27 (OKs.cons h26 OKs.nil)))))))))) mixed2 (ann := (fun n => Nat.beq n 900014 || Nat.beq n 2499999)) (L := L5 f6 f22 f14 f9 f23 f24 f25 f27 f26) (fn := Proofs.Tryz.f5) (c := bodyC Proofs.Tryz.f5) (ls := [(0, loopC Proofs.Tryz.f5 0)]) Proofs.Tryz.func5 (by kernel_rfl) (by kernel_rfl) (by kernel_rfl) (by kernel_rfl)
    (LoopsP.cons q5_0 (s5_0 f6 f22 f14 f9 f23 f24 f25 f27 f26) rfl (e5_0 f6 f22 f14 f9 f23 f24 f25 f27 f26) LoopsP.nil) (e5 f6 f22 f14 f9 f23 f24 f25 f27 f26)
end Ev
