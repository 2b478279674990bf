/- Functions of the program, as the evaluator sees them. -/
import Derived.Test.YtpnlcamcnhpbhaaGreatFn
set_option linter.unusedVariables false
set_option maxRecDepth 100000
namespace Ev
open Go
def tab2 : Tab := [(3, ⟨1, false, 8, [.int .i64 0], [], .int .i64, false⟩),
  (4, ⟨1, false, 1, [.bool false], [], .bool, false⟩),
  (5, ⟨1, false, 1, [.int .u8 0], [], .int .u8, false⟩),
  (9, ⟨1, false, 16, [.str []], [], .str, false⟩),
  (22, ⟨1, false, 24, [.nils], [], .sl .u8, false⟩),
  (24, ⟨1, false, 24, [.nils], [], .sl .device, false⟩),
  (25, ⟨1, false, 24, [.nils], [], .sl .cue, false⟩),
  (26, ⟨1, false, 24, [.nils], [], .sl .gust, false⟩),
  (28, ⟨4, true, 80, [.nils, .nils, .nils, .int .i64 0], [(0, 1, false), (1, 1, false), (2, 1, false), (3, 1, false)], .struct, false⟩),
  (32, ⟨1, false, 24, [.nils], [], .sl .drop, false⟩),
  (38, ⟨2, true, 16, [.int .i64 0, .int .i64 0], [(0, 1, false), (1, 1, false)], .struct, false⟩),
  (40, ⟨5, true, 48, [.str [], .int .i64 0, .int .i64 0, .int .i64 0, .int .i64 0], [(0, 1, false), (1, 1, false), (2, 2, true), (4, 1, false)], .struct, true⟩),
  (43, ⟨4, true, 32, [.int .i64 0, .int .i64 0, .int .i64 0, .int .i64 0], [(0, 2, true), (2, 2, true)], .struct, false⟩),
  (67, ⟨4, true, 40, [.int .i64 0, .str [], .int .i64 0, .int .i64 0], [(0, 1, false), (1, 1, false), (2, 1, false), (3, 1, false)], .struct, false⟩),
  (69, ⟨1, false, 24, [.nils], [], .sl .throw, false⟩),
  (72, ⟨5, true, 40, [.int .i64 0, .int .i64 0, .int .i64 0, .int .i64 0, .int .i64 0], [(0, 2, true), (2, 1, false), (3, 1, false), (4, 1, false)], .struct, false⟩),
  (74, ⟨7, true, 64, [.str [], .int .i64 0, .int .i64 0, .int .i64 0, .int .i64 0, .int .i64 0, .int .i64 0], [(0, 1, false), (1, 1, false), (2, 5, true)], .struct, false⟩),
  (106, ⟨1, false, 24, [.nils], [], .sl .int, false⟩),
  (109, ⟨8, true, 80, [.str [], .int .i64 0, .str [], .int .i64 0, .int .i64 0, .int .i64 0, .int .i64 0, .int .i64 0], [(0, 1, false), (1, 1, false), (2, 1, false), (3, 2, true), (5, 1, false), (6, 1, false), (7, 1, false)], .struct, true⟩),
  (111, ⟨3, true, 24, [.int .i64 0, .int .i64 0, .int .i64 0], [(0, 1, false), (1, 2, true)], .struct, false⟩)]
theorem tab_ok2 : TabOK Proofs.Tryz.prog tab2 := tab_of2 (by kernel_rfl) (by kernel_rfl)
theorem mixed2 : Proofs.Tryz.prog.follows .mixedOrders = true := by kernel_rfl
/-! laws.big -/
def p6 : List SP := [.one (.r .u8)]
def r6 : List SP := [.one (.bool)]
noncomputable def F6 (a : List Int × Unit) : Option (Bool × Unit) :=
  some ((decide ((Int.ofNat (List.length a.1)) > 4096)), ())
def E6 : Env := envL []
noncomputable def L6 : LEnv (densS (muts p6 ++ r6)) := lenv []
theorem e6 (a : densS p6) : runF (E6) tab2 (fun _ => false) p6 r6 Proofs.Tryz.f6 (L6) a = F6 a := by kernel_rfl
theorem ok6 : OK Proofs.Tryz.prog 6 (mkE p6 r6 false (F6)) :=
  fn_ok tab_ok2 (envL_ok (l := []) OKs.nil) mixed2 (ann := (fun _ => false)) (L := L6) (fn := Proofs.Tryz.f6) (c := bodyC Proofs.Tryz.f6) (ls := []) Proofs.Tryz.func6 (by kernel_rfl) (by kernel_rfl) (by kernel_rfl) (by kernel_rfl)
    LoopsP.nil (e6)
/-! spec.DrawShow -/
def p7 : List SP := [.one (.r .u8)]
def r7 : List SP := [.agg [.o 0 .device, .o 1 .cue, .o 2 .gust, .int .i64], .one (.int .i64)]
noncomputable def F7 (f28 : List Int × Unit → Option (CuD × Unit)) (f29 : CuD × Unit → Option (CuD × ShD × Unit)) (f30 : CuD × Int × Unit → Option (CuD × Int × Unit)) (a : List Int × Unit) : Option (ShD × Int × Unit) :=
  (f28 (a.1, ())).bind fun x1 => (f29 ((x1.1.1, x1.1.2.1, x1.1.2.2.1, ()), ())).bind fun x2 => (f30 ((x2.1.1, x2.1.2.1, x2.1.2.2.1, ()), 30, ())).bind fun x3 => some ((x2.2.1.1, x2.2.1.2.1, x2.2.1.2.2.1, x2.2.1.2.2.2.1, ()), x3.2.1, ())
def E7 (f28 : List Int × Unit → Option (CuD × Unit)) (f29 : CuD × Unit → Option (CuD × ShD × Unit)) (f30 : CuD × Int × Unit → Option (CuD × Int × Unit)) : Env := envL [(28, mkE p28 r28 true f28), (29, mkE p29 r29 true f29), (30, mkE p30 r30 true f30)]
noncomputable def L7 (f28 : List Int × Unit → Option (CuD × Unit)) (f29 : CuD × Unit → Option (CuD × ShD × Unit)) (f30 : CuD × Int × Unit → Option (CuD × Int × Unit)) : LEnv (densS (muts p7 ++ r7)) := lenv []
theorem e7 (f28 : List Int × Unit → Option (CuD × Unit)) (f29 : CuD × Unit → Option (CuD × ShD × Unit)) (f30 : CuD × Int × Unit → Option (CuD × Int × Unit)) (a : densS p7) : runF (E7 f28 f29 f30) tab2 (fun _ => false) p7 r7 Proofs.Tryz.f7 (L7 f28 f29 f30) a = F7 f28 f29 f30 a := by kernel_rfl
theorem ok7 {f28 : List Int × Unit → Option (CuD × Unit)} {f29 : CuD × Unit → Option (CuD × ShD × Unit)} {f30 : CuD × Int × Unit → Option (CuD × Int × Unit)} (h28 : OK Proofs.Tryz.prog 28 (mkE p28 r28 true f28)) (h29 : OK Proofs.Tryz.prog 29 (mkE p29 r29 true f29)) (h30 : OK Proofs.Tryz.prog 30 (mkE p30 r30 true f30)) : OK Proofs.Tryz.prog 7 (mkE p7 r7 false (F7 f28 f29 f30)) :=
  fn_ok tab_ok2 (envL_ok (l := [(28, mkE p28 r28 true f28), (29, mkE p29 r29 true f29), (30, mkE p30 r30 true f30)]) (OKs.cons h28 (OKs.cons h29 (OKs.cons h30 OKs.nil)))) mixed2 (ann := (fun _ => false)) (L := L7 f28 f29 f30) (fn := Proofs.Tryz.f7) (c := bodyC Proofs.Tryz.f7) (ls := []) Proofs.Tryz.func7 (by kernel_rfl) (by kernel_rfl) (by kernel_rfl) (by kernel_rfl)
    LoopsP.nil (e7 f28 f29 f30)
/-! impl.isWithin -/
def p42 : List SP := [.one (.int .i64), .one (.int .i64), .one (.int .i64)]
def r42 : List SP := [.one (.bool)]
noncomputable def F42 (a : Int × Int × Int × Unit) : Option (Bool × Unit) :=
  cond (decide (a.2.1 ≤ a.1)) (some ((decide (a.1 ≤ a.2.2.1)), ())) (some (false, ()))
def E42 : Env := envL []
noncomputable def L42 : LEnv (densS (muts p42 ++ r42)) := lenv []
theorem e42 (a : densS p42) : runF (E42) tab2 (fun _ => false) p42 r42 Proofs.Tryz.f42 (L42) a = F42 a := by kernel_rfl
theorem ok42 : OK Proofs.Tryz.prog 42 (mkE p42 r42 false (F42)) :=
  fn_ok tab_ok2 (envL_ok (l := []) OKs.nil) mixed2 (ann := (fun _ => false)) (L := L42) (fn := Proofs.Tryz.f42) (c := bodyC Proofs.Tryz.f42) (ls := []) Proofs.Tryz.func42 (by kernel_rfl) (by kernel_rfl) (by kernel_rfl) (by kernel_rfl)
    LoopsP.nil (e42)
/-! impl.IsName -/
def p133 : List SP := [.one (.str)]
def r133 : List SP := [.one (.bool)]
def q133_0 : List SP := pat 42 0 [(0, .one (.str)), (6, .one (.int .i64)), (7, .one (.int .i64))]
noncomputable def s133_0 (f42 : Int × Int × Int × Unit → Option (Bool × Unit)) (t1 : Str × Int × Int × Unit) (rec K : Str × Int × Int × Unit → Option (Bool × Unit)) : Option (Bool × Unit) :=
  cond (decide (t1.2.2.1 < t1.2.1)) (rdL t1.1 t1.2.2.1 fun d2 => cond (decide ((Int.ofNat (UInt8.toNat d2)) ≥ 97)) (rdL t1.1 t1.2.2.1 fun d3 => cond (!(decide ((Int.ofNat (UInt8.toNat d3)) ≤ 122))) (cond (!(decide (t1.2.2.1 = 0))) (rdL t1.1 t1.2.2.1 fun d4 => cond (!(decide ((Int.ofNat (UInt8.toNat d4)) < 48))) (rdL t1.1 t1.2.2.1 fun d5 => cond (decide ((Int.ofNat (UInt8.toNat d5)) > 57)) (some (false, ())) (rec (t1.1, t1.2.1, (w64 (t1.2.2.1 + 1)), ()))) (some (false, ()))) (some (false, ()))) (rec (t1.1, t1.2.1, (w64 (t1.2.2.1 + 1)), ()))) (cond (!(decide (t1.2.2.1 = 0))) (rdL t1.1 t1.2.2.1 fun d6 => cond (!(decide ((Int.ofNat (UInt8.toNat d6)) < 48))) (rdL t1.1 t1.2.2.1 fun d7 => cond (decide ((Int.ofNat (UInt8.toNat d7)) > 57)) (some (false, ())) (rec (t1.1, t1.2.1, (w64 (t1.2.2.1 + 1)), ()))) (some (false, ()))) (some (false, ())))) (K (t1.1, t1.2.1, t1.2.2.1, ()))
noncomputable def F133 (f42 : Int × Int × Int × Unit → Option (Bool × Unit)) (a : Str × Unit) : Option (Bool × Unit) :=
  iterF (s133_0 f42) fuel (a.1, (Int.ofNat (List.length a.1)), 0, ()) fun t8 => (f42 ((Int.ofNat (List.length t8.1)), 1, 8, ())).bind fun x9 => some (x9.1, ())
def E133 (f42 : Int × Int × Int × Unit → Option (Bool × Unit)) : Env := envL [(42, mkE p42 r42 false f42)]
noncomputable def L133 (f42 : Int × Int × Int × Unit → Option (Bool × Unit)) : LEnv (densS (muts p133 ++ r133)) := lenv [(0, loopL (R := densS (muts p133 ++ r133)) q133_0 (s133_0 f42))]
theorem e133_0 (f42 : Int × Int × Int × Unit → Option (Bool × Unit)) (X : Nat → St → Option (densS (muts p133 ++ r133))) (rec K : densS q133_0 → Option (densS (muts p133 ++ r133))) (t : densS q133_0) :
    ev (E133 f42) tab2 (fun _ => false) (L133 f42) (retK tab2 p133 r133 Proofs.Tryz.f133.results.toList) (loopC Proofs.Tryz.f133 0) (fun i s => cond (Nat.beq i 0) (decK 100 q133_0 s K) (X i s)) (fun s => decK 100 q133_0 s rec) (enc q133_0 t) = s133_0 f42 t rec K := by kernel_rfl
theorem e133 (f42 : Int × Int × Int × Unit → Option (Bool × Unit)) (a : densS p133) : runF (E133 f42) tab2 (fun _ => false) p133 r133 Proofs.Tryz.f133 (L133 f42) a = F133 f42 a := by kernel_rfl
theorem ok133 {f42 : Int × Int × Int × Unit → Option (Bool × Unit)} (h42 : OK Proofs.Tryz.prog 42 (mkE p42 r42 false f42)) : OK Proofs.Tryz.prog 133 (mkE p133 r133 false (F133 f42)) :=
  fn_ok tab_ok2 (envL_ok (l := [(42, mkE p42 r42 false f42)]) (OKs.cons h42 OKs.nil)) mixed2 (ann := (fun _ => false)) (L := L133 f42) (fn := Proofs.Tryz.f133) (c := bodyC Proofs.Tryz.f133) (ls := [(0, loopC Proofs.Tryz.f133 0)]) Proofs.Tryz.func133 (by kernel_rfl) (by kernel_rfl) (by kernel_rfl) (by kernel_rfl)
    (LoopsP.cons q133_0 (s133_0 f42) rfl (e133_0 f42) LoopsP.nil) (e133 f42)
/-! impl.isSupply -/
def p134 : List SP := [.one (.int .i64)]
def r134 : List SP := [.one (.bool)]
noncomputable def F134 (f42 : Int × Int × Int × Unit → Option (Bool × Unit)) (a : Int × Unit) : Option (Bool × Unit) :=
  (f42 (a.1, 0, 512, ())).bind fun x1 => some (x1.1, ())
def E134 (f42 : Int × Int × Int × Unit → Option (Bool × Unit)) : Env := envL [(42, mkE p42 r42 false f42)]
noncomputable def L134 (f42 : Int × Int × Int × Unit → Option (Bool × Unit)) : LEnv (densS (muts p134 ++ r134)) := lenv []
theorem e134 (f42 : Int × Int × Int × Unit → Option (Bool × Unit)) (a : densS p134) : runF (E134 f42) tab2 (fun _ => false) p134 r134 Proofs.Tryz.f134 (L134 f42) a = F134 f42 a := by kernel_rfl
theorem ok134 {f42 : Int × Int × Int × Unit → Option (Bool × Unit)} (h42 : OK Proofs.Tryz.prog 42 (mkE p42 r42 false f42)) : OK Proofs.Tryz.prog 134 (mkE p134 r134 false (F134 f42)) :=
  fn_ok tab_ok2 (envL_ok (l := [(42, mkE p42 r42 false f42)]) (OKs.cons h42 OKs.nil)) mixed2 (ann := (fun _ => false)) (L := L134 f42) (fn := Proofs.Tryz.f134) (c := bodyC Proofs.Tryz.f134) (ls := []) Proofs.Tryz.func134 (by kernel_rfl) (by kernel_rfl) (by kernel_rfl) (by kernel_rfl)
    LoopsP.nil (e134 f42)
/-! impl.IsHeading -/
def p126 : List SP := [.one (.int .i64)]
def r126 : List SP := [.one (.bool)]
noncomputable def F126 (f42 : Int × Int × Int × Unit → Option (Bool × Unit)) (a : Int × Unit) : Option (Bool × Unit) :=
  (f42 (a.1, 0, 3, ())).bind fun x1 => some (x1.1, ())
def E126 (f42 : Int × Int × Int × Unit → Option (Bool × Unit)) : Env := envL [(42, mkE p42 r42 false f42)]
noncomputable def L126 (f42 : Int × Int × Int × Unit → Option (Bool × Unit)) : LEnv (densS (muts p126 ++ r126)) := lenv []
theorem e126 (f42 : Int × Int × Int × Unit → Option (Bool × Unit)) (a : densS p126) : runF (E126 f42) tab2 (fun _ => false) p126 r126 Proofs.Tryz.f126 (L126 f42) a = F126 f42 a := by kernel_rfl
theorem ok126 {f42 : Int × Int × Int × Unit → Option (Bool × Unit)} (h42 : OK Proofs.Tryz.prog 42 (mkE p42 r42 false f42)) : OK Proofs.Tryz.prog 126 (mkE p126 r126 false (F126 f42)) :=
  fn_ok tab_ok2 (envL_ok (l := [(42, mkE p42 r42 false f42)]) (OKs.cons h42 OKs.nil)) mixed2 (ann := (fun _ => false)) (L := L126 f42) (fn := Proofs.Tryz.f126) (c := bodyC Proofs.Tryz.f126) (ls := []) Proofs.Tryz.func126 (by kernel_rfl) (by kernel_rfl) (by kernel_rfl) (by kernel_rfl)
    LoopsP.nil (e126 f42)
/-! impl.IsJet -/
def p129 : List SP := [.t .jet]
def r129 : List SP := [.one (.bool)]
noncomputable def F129 (f42 : Int × Int × Int × Unit → Option (Bool × Unit)) (f126 : Int × Unit → Option (Bool × Unit)) (a : Jet × Unit) : Option (Bool × Unit) :=
  (f42 (a.1.At.X, (-1024), 1024, ())).bind fun x1 => cond x1.1 ((f42 (a.1.At.Y, (-1024), 1024, ())).bind fun x2 => cond x2.1 ((f126 (a.1.Heading, ())).bind fun x3 => cond x3.1 ((f42 (a.1.Tilt, 0, 16, ())).bind fun x4 => cond x4.1 ((f42 (a.1.Lift, 1, 32, ())).bind fun x5 => some (x5.1, ())) (some (false, ()))) (some (false, ()))) (some (false, ()))) (some (false, ()))
def E129 (f42 : Int × Int × Int × Unit → Option (Bool × Unit)) (f126 : Int × Unit → Option (Bool × Unit)) : Env := envL [(42, mkE p42 r42 false f42), (126, mkE p126 r126 false f126)]
noncomputable def L129 (f42 : Int × Int × Int × Unit → Option (Bool × Unit)) (f126 : Int × Unit → Option (Bool × Unit)) : LEnv (densS (muts p129 ++ r129)) := lenv []
theorem e129 (f42 : Int × Int × Int × Unit → Option (Bool × Unit)) (f126 : Int × Unit → Option (Bool × Unit)) (a : densS p129) : runF (E129 f42 f126) tab2 (fun _ => false) p129 r129 Proofs.Tryz.f129 (L129 f42 f126) a = F129 f42 f126 a := by kernel_rfl
theorem ok129 {f42 : Int × Int × Int × Unit → Option (Bool × Unit)} {f126 : Int × Unit → Option (Bool × Unit)} (h42 : OK Proofs.Tryz.prog 42 (mkE p42 r42 false f42)) (h126 : OK Proofs.Tryz.prog 126 (mkE p126 r126 false f126)) : OK Proofs.Tryz.prog 129 (mkE p129 r129 false (F129 f42 f126)) :=
  fn_ok tab_ok2 (envL_ok (l := [(42, mkE p42 r42 false f42), (126, mkE p126 r126 false f126)]) (OKs.cons h42 (OKs.cons h126 OKs.nil))) mixed2 (ann := (fun _ => false)) (L := L129 f42 f126) (fn := Proofs.Tryz.f129) (c := bodyC Proofs.Tryz.f129) (ls := []) Proofs.Tryz.func129 (by kernel_rfl) (by kernel_rfl) (by kernel_rfl) (by kernel_rfl)
    LoopsP.nil (e129 f42 f126)
/-! impl.IsMeasure -/
def p90 : List SP := [.one (.int .i64)]
def r90 : List SP := [.one (.bool)]
noncomputable def F90 (f42 : Int × Int × Int × Unit → Option (Bool × Unit)) (a : Int × Unit) : Option (Bool × Unit) :=
  (f42 (a.1, (-4096), 4096, ())).bind fun x1 => some (x1.1, ())
def E90 (f42 : Int × Int × Int × Unit → Option (Bool × Unit)) : Env := envL [(42, mkE p42 r42 false f42)]
noncomputable def L90 (f42 : Int × Int × Int × Unit → Option (Bool × Unit)) : LEnv (densS (muts p90 ++ r90)) := lenv []
theorem e90 (f42 : Int × Int × Int × Unit → Option (Bool × Unit)) (a : densS p90) : runF (E90 f42) tab2 (fun _ => false) p90 r90 Proofs.Tryz.f90 (L90 f42) a = F90 f42 a := by kernel_rfl
theorem ok90 {f42 : Int × Int × Int × Unit → Option (Bool × Unit)} (h42 : OK Proofs.Tryz.prog 42 (mkE p42 r42 false f42)) : OK Proofs.Tryz.prog 90 (mkE p90 r90 false (F90 f42)) :=
  fn_ok tab_ok2 (envL_ok (l := [(42, mkE p42 r42 false f42)]) (OKs.cons h42 OKs.nil)) mixed2 (ann := (fun _ => false)) (L := L90 f42) (fn := Proofs.Tryz.f90) (c := bodyC Proofs.Tryz.f90) (ls := []) Proofs.Tryz.func90 (by kernel_rfl) (by kernel_rfl) (by kernel_rfl) (by kernel_rfl)
    LoopsP.nil (e90 f42)
/-! impl.IsPlace -/
def p43 : List SP := [.t .place]
def r43 : List SP := [.one (.bool)]
noncomputable def F43 (f90 : Int × Unit → Option (Bool × Unit)) (a : Place × Unit) : Option (Bool × Unit) :=
  (f90 (a.1.X, ())).bind fun x1 => cond x1.1 ((f90 (a.1.Y, ())).bind fun x2 => some (x2.1, ())) (some (false, ()))
def E43 (f90 : Int × Unit → Option (Bool × Unit)) : Env := envL [(90, mkE p90 r90 false f90)]
noncomputable def L43 (f90 : Int × Unit → Option (Bool × Unit)) : LEnv (densS (muts p43 ++ r43)) := lenv []
theorem e43 (f90 : Int × Unit → Option (Bool × Unit)) (a : densS p43) : runF (E43 f90) tab2 (fun _ => false) p43 r43 Proofs.Tryz.f43 (L43 f90) a = F43 f90 a := by kernel_rfl
theorem ok43 {f90 : Int × Unit → Option (Bool × Unit)} (h90 : OK Proofs.Tryz.prog 90 (mkE p90 r90 false f90)) : OK Proofs.Tryz.prog 43 (mkE p43 r43 false (F43 f90)) :=
  fn_ok tab_ok2 (envL_ok (l := [(90, mkE p90 r90 false f90)]) (OKs.cons h90 OKs.nil)) mixed2 (ann := (fun _ => false)) (L := L43 f90) (fn := Proofs.Tryz.f43) (c := bodyC Proofs.Tryz.f43) (ls := []) Proofs.Tryz.func43 (by kernel_rfl) (by kernel_rfl) (by kernel_rfl) (by kernel_rfl)
    LoopsP.nil (e43 f90)
/-! impl.IsDevice -/
def p85 : List SP := [.t .device]
def r85 : List SP := [.one (.bool)]
noncomputable def F85 (f133 : Str × Unit → Option (Bool × Unit)) (f134 : Int × Unit → Option (Bool × Unit)) (f129 : Jet × Unit → Option (Bool × Unit)) (f42 : Int × Int × Int × Unit → Option (Bool × Unit)) (f43 : Place × Unit → Option (Bool × Unit)) (a : Device × Unit) : Option (Bool × Unit) :=
  (f133 (a.1.Name, ())).bind fun x1 => cond (!x1.1) (some (false, ())) (cond (decide (a.1.Kind = 1)) (cond (decide (a.1.Name = a.1.Name) && (decide (a.1.Kind = a.1.Kind) && (decide (a.1.Line = []) && (decide (a.1.At.X = 0) && (decide (a.1.At.Y = 0) && (decide (a.1.Heading = 0) && (decide (a.1.Tilt = 0) && (decide (a.1.Most = a.1.Most) && true)))))))) ((f134 (a.1.Most, ())).bind fun x2 => some (x2.1, ())) (some (false, ()))) (cond (decide (a.1.Kind = 2)) ((f133 (a.1.Line, ())).bind fun x3 => cond x3.1 (cond (!decide (a.1.Line = a.1.Name)) ((f129 ((⟨⟨a.1.At.X, a.1.At.Y⟩, a.1.Heading, a.1.Tilt, 1⟩ : Jet), ())).bind fun x4 => cond x4.1 ((f42 (a.1.Most, 0, 32, ())).bind fun x5 => some (x5.1, ())) (some (false, ()))) (some (false, ()))) (some (false, ()))) (cond (decide (a.1.Kind = 3)) (cond (decide (a.1.Name = a.1.Name) && (decide (a.1.Kind = a.1.Kind) && (decide (a.1.Line = a.1.Line) && (decide (a.1.At.X = a.1.At.X) && (decide (a.1.At.Y = a.1.At.Y) && (decide (a.1.Heading = 0) && (decide (a.1.Tilt = 0) && (decide (a.1.Most = 0) && true)))))))) ((f133 (a.1.Line, ())).bind fun x6 => cond x6.1 (cond (!decide (a.1.Line = a.1.Name)) ((f43 (a.1.At, ())).bind fun x7 => some (x7.1, ())) (some (false, ()))) (some (false, ()))) (some (false, ()))) (some (false, ())))))
def E85 (f133 : Str × Unit → Option (Bool × Unit)) (f134 : Int × Unit → Option (Bool × Unit)) (f129 : Jet × Unit → Option (Bool × Unit)) (f42 : Int × Int × Int × Unit → Option (Bool × Unit)) (f43 : Place × Unit → Option (Bool × Unit)) : Env := envL [(133, mkE p133 r133 false f133), (134, mkE p134 r134 false f134), (129, mkE p129 r129 false f129), (42, mkE p42 r42 false f42), (43, mkE p43 r43 false f43)]
noncomputable def L85 (f133 : Str × Unit → Option (Bool × Unit)) (f134 : Int × Unit → Option (Bool × Unit)) (f129 : Jet × Unit → Option (Bool × Unit)) (f42 : Int × Int × Int × Unit → Option (Bool × Unit)) (f43 : Place × Unit → Option (Bool × Unit)) : LEnv (densS (muts p85 ++ r85)) := lenv []
theorem e85 (f133 : Str × Unit → Option (Bool × Unit)) (f134 : Int × Unit → Option (Bool × Unit)) (f129 : Jet × Unit → Option (Bool × Unit)) (f42 : Int × Int × Int × Unit → Option (Bool × Unit)) (f43 : Place × Unit → Option (Bool × Unit)) (a : densS p85) : runF (E85 f133 f134 f129 f42 f43) tab2 (fun _ => false) p85 r85 Proofs.Tryz.f85 (L85 f133 f134 f129 f42 f43) a = F85 f133 f134 f129 f42 f43 a := by kernel_rfl
theorem ok85 {f133 : Str × Unit → Option (Bool × Unit)} {f134 : Int × Unit → Option (Bool × Unit)} {f129 : Jet × Unit → Option (Bool × Unit)} {f42 : Int × Int × Int × Unit → Option (Bool × Unit)} {f43 : Place × Unit → Option (Bool × Unit)} (h133 : OK Proofs.Tryz.prog 133 (mkE p133 r133 false f133)) (h134 : OK Proofs.Tryz.prog 134 (mkE p134 r134 false f134)) (h129 : OK Proofs.Tryz.prog 129 (mkE p129 r129 false f129)) (h42 : OK Proofs.Tryz.prog 42 (mkE p42 r42 false f42)) (h43 : OK Proofs.Tryz.prog 43 (mkE p43 r43 false f43)) : OK Proofs.Tryz.prog 85 (mkE p85 r85 false (F85 f133 f134 f129 f42 f43)) :=
  fn_ok tab_ok2 (envL_ok (l := [(133, mkE p133 r133 false f133), (134, mkE p134 r134 false f134), (129, mkE p129 r129 false f129), (42, mkE p42 r42 false f42), (43, mkE p43 r43 false f43)]) (OKs.cons h133 (OKs.cons h134 (OKs.cons h129 (OKs.cons h42 (OKs.cons h43 OKs.nil)))))) mixed2 (ann := (fun _ => false)) (L := L85 f133 f134 f129 f42 f43) (fn := Proofs.Tryz.f85) (c := bodyC Proofs.Tryz.f85) (ls := []) Proofs.Tryz.func85 (by kernel_rfl) (by kernel_rfl) (by kernel_rfl) (by kernel_rfl)
    LoopsP.nil (e85 f133 f134 f129 f42 f43)
/-! impl.FindDevice$1 -/
def p174 : List SP := [.t .device, .sp [.str]]
def r174 : List SP := [.one (.bool)]
noncomputable def F174 (a : Device × (Str × Unit) × Unit) : Option (Bool × Unit) :=
  some ((decide (a.1.Name = a.2.1.1)), ())
def E174 : Env := envL []
noncomputable def L174 : LEnv (densS (muts p174 ++ r174)) := lenv []
theorem e174 (a : densS p174) : runF (E174) tab2 (fun _ => false) p174 r174 Proofs.Tryz.f174 (L174) a = F174 a := by kernel_rfl
theorem ok174 : OK Proofs.Tryz.prog 174 (mkE p174 r174 false (F174)) :=
  fn_ok tab_ok2 (envL_ok (l := []) OKs.nil) mixed2 (ann := (fun _ => false)) (L := L174) (fn := Proofs.Tryz.f174) (c := bodyC Proofs.Tryz.f174) (ls := []) Proofs.Tryz.func174 (by kernel_rfl) (by kernel_rfl) (by kernel_rfl) (by kernel_rfl)
    LoopsP.nil (e174)
/-! slices.IndexFunc[[]impl.Device,impl.Device] -/
def p173 : List SP := [.one (.r .device), .fn 174 [.str]]
def r173 : List SP := [.one (.int .i64)]
def q173_0 : List SP := pat 19 0 [(0, .one (.r .device)), (1, .fn 174 [.str]), (7, .one (.int .i64)), (8, .one (.int .i64))]
noncomputable def s173_0 (f174 : Device × (Str × Unit) × Unit → Option (Bool × Unit)) (t1 : List Device × (Str × Unit) × Int × Int × Unit) (rec K : List Device × (Str × Unit) × Int × Int × Unit → Option (Int × Unit)) : Option (Int × Unit) :=
  cond (decide (t1.2.2.2.1 < t1.2.2.1)) (rdL t1.1 t1.2.2.2.1 fun d2 => (f174 (d2, (t1.2.1.1, ()), ())).bind fun x3 => cond x3.1 (some (t1.2.2.2.1, ())) (rec (t1.1, (t1.2.1.1, ()), t1.2.2.1, (w64 (t1.2.2.2.1 + 1)), ()))) (K (t1.1, (t1.2.1.1, ()), t1.2.2.1, t1.2.2.2.1, ()))
noncomputable def F173 (f174 : Device × (Str × Unit) × Unit → Option (Bool × Unit)) (a : List Device × (Str × Unit) × Unit) : Option (Int × Unit) :=
  iterF (s173_0 f174) fuel (a.1, (a.2.1.1, ()), (Int.ofNat (List.length a.1)), 0, ()) fun t4 => some ((-1), ())
def E173 (f174 : Device × (Str × Unit) × Unit → Option (Bool × Unit)) : Env := envL [(174, mkE p174 r174 false f174)]
noncomputable def L173 (f174 : Device × (Str × Unit) × Unit → Option (Bool × Unit)) : LEnv (densS (muts p173 ++ r173)) := lenv [(0, loopL (R := densS (muts p173 ++ r173)) q173_0 (s173_0 f174))]
theorem e173_0 (f174 : Device × (Str × Unit) × Unit → Option (Bool × Unit)) (X : Nat → St → Option (densS (muts p173 ++ r173))) (rec K : densS q173_0 → Option (densS (muts p173 ++ r173))) (t : densS q173_0) :
    ev (E173 f174) tab2 (fun _ => false) (L173 f174) (retK tab2 p173 r173 Proofs.Tryz.f173.results.toList) (loopC Proofs.Tryz.f173 0) (fun i s => cond (Nat.beq i 0) (decK 100 q173_0 s K) (X i s)) (fun s => decK 100 q173_0 s rec) (enc q173_0 t) = s173_0 f174 t rec K := by kernel_rfl
theorem e173 (f174 : Device × (Str × Unit) × Unit → Option (Bool × Unit)) (a : densS p173) : runF (E173 f174) tab2 (fun _ => false) p173 r173 Proofs.Tryz.f173 (L173 f174) a = F173 f174 a := by kernel_rfl
theorem ok173 {f174 : Device × (Str × Unit) × Unit → Option (Bool × Unit)} (h174 : OK Proofs.Tryz.prog 174 (mkE p174 r174 false f174)) : OK Proofs.Tryz.prog 173 (mkE p173 r173 false (F173 f174)) :=
  fn_ok tab_ok2 (envL_ok (l := [(174, mkE p174 r174 false f174)]) (OKs.cons h174 OKs.nil)) mixed2 (ann := (fun _ => false)) (L := L173 f174) (fn := Proofs.Tryz.f173) (c := bodyC Proofs.Tryz.f173) (ls := [(0, loopC Proofs.Tryz.f173 0)]) Proofs.Tryz.func173 (by kernel_rfl) (by kernel_rfl) (by kernel_rfl) (by kernel_rfl)
    (LoopsP.cons q173_0 (s173_0 f174) rfl (e173_0 f174) LoopsP.nil) (e173 f174)
/-! impl.FindDevice -/
def p135 : List SP := [.one (.r .device), .one (.str)]
def r135 : List SP := [.one (.int .i64)]
noncomputable def F135 (f173 : List Device × (Str × Unit) × Unit → Option (Int × Unit)) (a : List Device × Str × Unit) : Option (Int × Unit) :=
  (f173 (a.1, (a.2.1, ()), ())).bind fun x1 => some (x1.1, ())
def E135 (f173 : List Device × (Str × Unit) × Unit → Option (Int × Unit)) : Env := envL [(173, mkE p173 r173 false f173)]
noncomputable def L135 (f173 : List Device × (Str × Unit) × Unit → Option (Int × Unit)) : LEnv (densS (muts p135 ++ r135)) := lenv []
theorem e135 (f173 : List Device × (Str × Unit) × Unit → Option (Int × Unit)) (a : densS p135) : runF (E135 f173) tab2 (fun _ => false) p135 r135 Proofs.Tryz.f135 (L135 f173) a = F135 f173 a := by kernel_rfl
theorem ok135 {f173 : List Device × (Str × Unit) × Unit → Option (Int × Unit)} (h173 : OK Proofs.Tryz.prog 173 (mkE p173 r173 false f173)) : OK Proofs.Tryz.prog 135 (mkE p135 r135 false (F135 f173)) :=
  fn_ok tab_ok2 (envL_ok (l := [(173, mkE p173 r173 false f173)]) (OKs.cons h173 OKs.nil)) mixed2 (ann := (fun _ => false)) (L := L135 f173) (fn := Proofs.Tryz.f135) (c := bodyC Proofs.Tryz.f135) (ls := []) Proofs.Tryz.func135 (by kernel_rfl) (by kernel_rfl) (by kernel_rfl) (by kernel_rfl)
    LoopsP.nil (e135 f173)
/-! impl.isHung -/
def p86 : List SP := [.one (.r .device), .t .device]
def r86 : List SP := [.one (.bool)]
noncomputable def F86 (f135 : List Device × Str × Unit → Option (Int × Unit)) (a : List Device × Device × Unit) : Option (Bool × Unit) :=
  cond (decide (a.2.1.Kind = 1)) (some (true, ())) ((f135 (a.1, a.2.1.Line, ())).bind fun x1 => cond (decide (x1.1 ≥ 0)) (rdL a.1 x1.1 fun d2 => some ((decide (d2.Kind = (w64 (a.2.1.Kind - 1)))), ())) (some (false, ())))
def E86 (f135 : List Device × Str × Unit → Option (Int × Unit)) : Env := envL [(135, mkE p135 r135 false f135)]
noncomputable def L86 (f135 : List Device × Str × Unit → Option (Int × Unit)) : LEnv (densS (muts p86 ++ r86)) := lenv []
theorem e86 (f135 : List Device × Str × Unit → Option (Int × Unit)) (a : densS p86) : runF (E86 f135) tab2 (fun _ => false) p86 r86 Proofs.Tryz.f86 (L86 f135) a = F86 f135 a := by kernel_rfl
theorem ok86 {f135 : List Device × Str × Unit → Option (Int × Unit)} (h135 : OK Proofs.Tryz.prog 135 (mkE p135 r135 false f135)) : OK Proofs.Tryz.prog 86 (mkE p86 r86 false (F86 f135)) :=
  fn_ok tab_ok2 (envL_ok (l := [(135, mkE p135 r135 false f135)]) (OKs.cons h135 OKs.nil)) mixed2 (ann := (fun _ => false)) (L := L86 f135) (fn := Proofs.Tryz.f86) (c := bodyC Proofs.Tryz.f86) (ls := []) Proofs.Tryz.func86 (by kernel_rfl) (by kernel_rfl) (by kernel_rfl) (by kernel_rfl)
    LoopsP.nil (e86 f135)
/-! impl.IsRig -/
def p39 : List SP := [.one (.r .device)]
def r39 : List SP := [.one (.bool)]
def q39_0 : List SP := pat 40 0 [(0, .one (.r .device)), (8, .one (.r .device)), (9, .one (.int .i64)), (10, .one (.int .i64))]
noncomputable def s39_0 (f85 : Device × Unit → Option (Bool × Unit)) (f86 : List Device × Device × Unit → Option (Bool × Unit)) (t1 : List Device × List Device × Int × Int × Unit) (rec K : List Device × List Device × Int × Int × Unit → Option (Bool × Unit)) : Option (Bool × Unit) :=
  cond (decide (t1.2.2.2.1 < t1.2.2.1)) (rdL t1.2.1 t1.2.2.2.1 fun d2 => (f85 (d2, ())).bind fun x3 => cond (!(!x3.1)) (cond (decide (t1.2.2.2.1 > 0)) (rdL t1.1 (w64 (t1.2.2.2.1 - 1)) fun d4 => cond (!(Op.bytesLess d2.Name d4.Name || decide (d2.Name = d4.Name))) ((f86 (t1.1, d2, ())).bind fun x5 => cond (!x5.1) (some (false, ())) (rec (t1.1, t1.2.1, t1.2.2.1, (w64 (t1.2.2.2.1 + 1)), ()))) (some (false, ()))) ((f86 (t1.1, d2, ())).bind fun x6 => cond (!x6.1) (some (false, ())) (rec (t1.1, t1.2.1, t1.2.2.1, (w64 (t1.2.2.2.1 + 1)), ())))) (some (false, ()))) (K (t1.1, t1.2.1, t1.2.2.1, t1.2.2.2.1, ()))
noncomputable def F39 (f85 : Device × Unit → Option (Bool × Unit)) (f86 : List Device × Device × Unit → Option (Bool × Unit)) (a : List Device × Unit) : Option (Bool × Unit) :=
  cond (decide ((Int.ofNat (List.length a.1)) > 8)) (some (false, ())) (iterF (s39_0 f85 f86) fuel (a.1, a.1, (Int.ofNat (List.length a.1)), 0, ()) fun t7 => some (true, ()))
def E39 (f85 : Device × Unit → Option (Bool × Unit)) (f86 : List Device × Device × Unit → Option (Bool × Unit)) : Env := envL [(85, mkE p85 r85 false f85), (86, mkE p86 r86 false f86)]
noncomputable def L39 (f85 : Device × Unit → Option (Bool × Unit)) (f86 : List Device × Device × Unit → Option (Bool × Unit)) : LEnv (densS (muts p39 ++ r39)) := lenv [(0, loopL (R := densS (muts p39 ++ r39)) q39_0 (s39_0 f85 f86))]
theorem e39_0 (f85 : Device × Unit → Option (Bool × Unit)) (f86 : List Device × Device × Unit → Option (Bool × Unit)) (X : Nat → St → Option (densS (muts p39 ++ r39))) (rec K : densS q39_0 → Option (densS (muts p39 ++ r39))) (t : densS q39_0) :
    ev (E39 f85 f86) tab2 (fun _ => false) (L39 f85 f86) (retK tab2 p39 r39 Proofs.Tryz.f39.results.toList) (loopC Proofs.Tryz.f39 0) (fun i s => cond (Nat.beq i 0) (decK 100 q39_0 s K) (X i s)) (fun s => decK 100 q39_0 s rec) (enc q39_0 t) = s39_0 f85 f86 t rec K := by kernel_rfl
theorem e39 (f85 : Device × Unit → Option (Bool × Unit)) (f86 : List Device × Device × Unit → Option (Bool × Unit)) (a : densS p39) : runF (E39 f85 f86) tab2 (fun _ => false) p39 r39 Proofs.Tryz.f39 (L39 f85 f86) a = F39 f85 f86 a := by kernel_rfl
theorem ok39 {f85 : Device × Unit → Option (Bool × Unit)} {f86 : List Device × Device × Unit → Option (Bool × Unit)} (h85 : OK Proofs.Tryz.prog 85 (mkE p85 r85 false f85)) (h86 : OK Proofs.Tryz.prog 86 (mkE p86 r86 false f86)) : OK Proofs.Tryz.prog 39 (mkE p39 r39 false (F39 f85 f86)) :=
  fn_ok tab_ok2 (envL_ok (l := [(85, mkE p85 r85 false f85), (86, mkE p86 r86 false f86)]) (OKs.cons h85 (OKs.cons h86 OKs.nil))) mixed2 (ann := (fun _ => false)) (L := L39 f85 f86) (fn := Proofs.Tryz.f39) (c := bodyC Proofs.Tryz.f39) (ls := [(0, loopC Proofs.Tryz.f39 0)]) Proofs.Tryz.func39 (by kernel_rfl) (by kernel_rfl) (by kernel_rfl) (by kernel_rfl)
    (LoopsP.cons q39_0 (s39_0 f85 f86) rfl (e39_0 f85 f86) LoopsP.nil) (e39 f85 f86)
/-! impl.IsCue -/
def p87 : List SP := [.t .cue]
def r87 : List SP := [.one (.bool)]
noncomputable def F87 (f42 : Int × Int × Int × Unit → Option (Bool × Unit)) (f133 : Str × Unit → Option (Bool × Unit)) (a : Cue × Unit) : Option (Bool × Unit) :=
  (f42 (a.1.Tick, 0, 64, ())).bind fun x1 => cond x1.1 ((f133 (a.1.Name, ())).bind fun x2 => cond x2.1 ((f42 (a.1.Level, 0, 32, ())).bind fun x3 => cond x3.1 ((f42 (a.1.Ramp, 0, 16, ())).bind fun x4 => some (x4.1, ())) (some (false, ()))) (some (false, ()))) (some (false, ()))
def E87 (f42 : Int × Int × Int × Unit → Option (Bool × Unit)) (f133 : Str × Unit → Option (Bool × Unit)) : Env := envL [(42, mkE p42 r42 false f42), (133, mkE p133 r133 false f133)]
noncomputable def L87 (f42 : Int × Int × Int × Unit → Option (Bool × Unit)) (f133 : Str × Unit → Option (Bool × Unit)) : LEnv (densS (muts p87 ++ r87)) := lenv []
theorem e87 (f42 : Int × Int × Int × Unit → Option (Bool × Unit)) (f133 : Str × Unit → Option (Bool × Unit)) (a : densS p87) : runF (E87 f42 f133) tab2 (fun _ => false) p87 r87 Proofs.Tryz.f87 (L87 f42 f133) a = F87 f42 f133 a := by kernel_rfl
theorem ok87 {f42 : Int × Int × Int × Unit → Option (Bool × Unit)} {f133 : Str × Unit → Option (Bool × Unit)} (h42 : OK Proofs.Tryz.prog 42 (mkE p42 r42 false f42)) (h133 : OK Proofs.Tryz.prog 133 (mkE p133 r133 false f133)) : OK Proofs.Tryz.prog 87 (mkE p87 r87 false (F87 f42 f133)) :=
  fn_ok tab_ok2 (envL_ok (l := [(42, mkE p42 r42 false f42), (133, mkE p133 r133 false f133)]) (OKs.cons h42 (OKs.cons h133 OKs.nil))) mixed2 (ann := (fun _ => false)) (L := L87 f42 f133) (fn := Proofs.Tryz.f87) (c := bodyC Proofs.Tryz.f87) (ls := []) Proofs.Tryz.func87 (by kernel_rfl) (by kernel_rfl) (by kernel_rfl) (by kernel_rfl)
    LoopsP.nil (e87 f42 f133)
/-! cmp.isNaN[int] -/
def p161 : List SP := [.one (.int .i64)]
def r161 : List SP := [.one (.bool)]
noncomputable def F161 (a : Int × Unit) : Option (Bool × Unit) :=
  some ((!(decide (a.1 = a.1))), ())
def E161 : Env := envL []
noncomputable def L161 : LEnv (densS (muts p161 ++ r161)) := lenv []
theorem e161 (a : densS p161) : runF (E161) tab2 (fun _ => false) p161 r161 Proofs.Tryz.f161 (L161) a = F161 a := by kernel_rfl
theorem ok161 : OK Proofs.Tryz.prog 161 (mkE p161 r161 false (F161)) :=
  fn_ok tab_ok2 (envL_ok (l := []) OKs.nil) mixed2 (ann := (fun _ => false)) (L := L161) (fn := Proofs.Tryz.f161) (c := bodyC Proofs.Tryz.f161) (ls := []) Proofs.Tryz.func161 (by kernel_rfl) (by kernel_rfl) (by kernel_rfl) (by kernel_rfl)
    LoopsP.nil (e161)
/-! cmp.Compare[int] -/
def p115 : List SP := [.one (.int .i64), .one (.int .i64)]
def r115 : List SP := [.one (.int .i64)]
noncomputable def F115 (f161 : Int × Unit → Option (Bool × Unit)) (a : Int × Int × Unit) : Option (Int × Unit) :=
  (f161 (a.1, ())).bind fun x1 => (f161 (a.2.1, ())).bind fun x2 => cond x1.1 (cond x2.1 (some (0, ())) (some ((-1), ()))) (cond x2.1 (some (1, ())) (cond (decide (a.1 < a.2.1)) (some ((-1), ())) (cond (decide (a.1 > a.2.1)) (some (1, ())) (some (0, ())))))
def E115 (f161 : Int × Unit → Option (Bool × Unit)) : Env := envL [(161, mkE p161 r161 false f161)]
noncomputable def L115 (f161 : Int × Unit → Option (Bool × Unit)) : LEnv (densS (muts p115 ++ r115)) := lenv []
theorem e115 (f161 : Int × Unit → Option (Bool × Unit)) (a : densS p115) : runF (E115 f161) tab2 (fun _ => false) p115 r115 Proofs.Tryz.f115 (L115 f161) a = F115 f161 a := by kernel_rfl
theorem ok115 {f161 : Int × Unit → Option (Bool × Unit)} (h161 : OK Proofs.Tryz.prog 161 (mkE p161 r161 false f161)) : OK Proofs.Tryz.prog 115 (mkE p115 r115 false (F115 f161)) :=
  fn_ok tab_ok2 (envL_ok (l := [(161, mkE p161 r161 false f161)]) (OKs.cons h161 OKs.nil)) mixed2 (ann := (fun _ => false)) (L := L115 f161) (fn := Proofs.Tryz.f115) (c := bodyC Proofs.Tryz.f115) (ls := []) Proofs.Tryz.func115 (by kernel_rfl) (by kernel_rfl) (by kernel_rfl) (by kernel_rfl)
    LoopsP.nil (e115 f161)
/-! cmp.isNaN[string] -/
def p175 : List SP := [.one (.str)]
def r175 : List SP := [.one (.bool)]
noncomputable def F175 (a : Str × Unit) : Option (Bool × Unit) :=
  some ((!decide (a.1 = a.1)), ())
def E175 : Env := envL []
noncomputable def L175 : LEnv (densS (muts p175 ++ r175)) := lenv []
theorem e175 (a : densS p175) : runF (E175) tab2 (fun _ => false) p175 r175 Proofs.Tryz.f175 (L175) a = F175 a := by kernel_rfl
theorem ok175 : OK Proofs.Tryz.prog 175 (mkE p175 r175 false (F175)) :=
  fn_ok tab_ok2 (envL_ok (l := []) OKs.nil) mixed2 (ann := (fun _ => false)) (L := L175) (fn := Proofs.Tryz.f175) (c := bodyC Proofs.Tryz.f175) (ls := []) Proofs.Tryz.func175 (by kernel_rfl) (by kernel_rfl) (by kernel_rfl) (by kernel_rfl)
    LoopsP.nil (e175)
/-! cmp.Compare[string] -/
def p136 : List SP := [.one (.str), .one (.str)]
def r136 : List SP := [.one (.int .i64)]
noncomputable def F136 (f175 : Str × Unit → Option (Bool × Unit)) (a : Str × Str × Unit) : Option (Int × Unit) :=
  (f175 (a.1, ())).bind fun x1 => (f175 (a.2.1, ())).bind fun x2 => cond x1.1 (cond x2.1 (some (0, ())) (some ((-1), ()))) (cond x2.1 (some (1, ())) (cond (Op.bytesLess a.1 a.2.1) (some ((-1), ())) (cond (!(Op.bytesLess a.1 a.2.1 || decide (a.1 = a.2.1))) (some (1, ())) (some (0, ())))))
def E136 (f175 : Str × Unit → Option (Bool × Unit)) : Env := envL [(175, mkE p175 r175 false f175)]
noncomputable def L136 (f175 : Str × Unit → Option (Bool × Unit)) : LEnv (densS (muts p136 ++ r136)) := lenv []
theorem e136 (f175 : Str × Unit → Option (Bool × Unit)) (a : densS p136) : runF (E136 f175) tab2 (fun _ => false) p136 r136 Proofs.Tryz.f136 (L136 f175) a = F136 f175 a := by kernel_rfl
theorem ok136 {f175 : Str × Unit → Option (Bool × Unit)} (h175 : OK Proofs.Tryz.prog 175 (mkE p175 r175 false f175)) : OK Proofs.Tryz.prog 136 (mkE p136 r136 false (F136 f175)) :=
  fn_ok tab_ok2 (envL_ok (l := [(175, mkE p175 r175 false f175)]) (OKs.cons h175 OKs.nil)) mixed2 (ann := (fun _ => false)) (L := L136 f175) (fn := Proofs.Tryz.f136) (c := bodyC Proofs.Tryz.f136) (ls := []) Proofs.Tryz.func136 (by kernel_rfl) (by kernel_rfl) (by kernel_rfl) (by kernel_rfl)
    LoopsP.nil (e136 f175)
/-! cmp.Or[int] -/
def p114 : List SP := [.one (.r .int)]
def r114 : List SP := [.one (.int .i64)]
def q114_0 : List SP := pat 18 0 [(3, .one (.int .i64)), (6, .one (.r .int)), (7, .one (.int .i64)), (8, .one (.int .i64))]
noncomputable def s114_0 (t1 : Int × List Int × Int × Int × Unit) (rec K : Int × List Int × Int × Int × Unit → Option (Int × Unit)) : Option (Int × Unit) :=
  cond (decide (t1.2.2.2.1 < t1.2.2.1)) (rdL t1.2.1 t1.2.2.2.1 fun d2 => cond (!(decide (d2 = t1.1))) (some (d2, ())) (rec (t1.1, t1.2.1, t1.2.2.1, (w64 (t1.2.2.2.1 + 1)), ()))) (K (t1.1, t1.2.1, t1.2.2.1, t1.2.2.2.1, ()))
noncomputable def F114 (a : List Int × Unit) : Option (Int × Unit) :=
  iterF (s114_0) fuel (0, a.1, (Int.ofNat (List.length a.1)), 0, ()) fun t3 => some (t3.1, ())
def E114 : Env := envL []
noncomputable def L114 : LEnv (densS (muts p114 ++ r114)) := lenv [(0, loopL (R := densS (muts p114 ++ r114)) q114_0 (s114_0))]
theorem e114_0 (X : Nat → St → Option (densS (muts p114 ++ r114))) (rec K : densS q114_0 → Option (densS (muts p114 ++ r114))) (t : densS q114_0) :
    ev (E114) tab2 (fun _ => false) (L114) (retK tab2 p114 r114 Proofs.Tryz.f114.results.toList) (loopC Proofs.Tryz.f114 0) (fun i s => cond (Nat.beq i 0) (decK 100 q114_0 s K) (X i s)) (fun s => decK 100 q114_0 s rec) (enc q114_0 t) = s114_0 t rec K := by kernel_rfl
theorem e114 (a : densS p114) : runF (E114) tab2 (fun _ => false) p114 r114 Proofs.Tryz.f114 (L114) a = F114 a := by kernel_rfl
theorem ok114 : OK Proofs.Tryz.prog 114 (mkE p114 r114 false (F114)) :=
  fn_ok tab_ok2 (envL_ok (l := []) OKs.nil) mixed2 (ann := (fun _ => false)) (L := L114) (fn := Proofs.Tryz.f114) (c := bodyC Proofs.Tryz.f114) (ls := [(0, loopC Proofs.Tryz.f114 0)]) Proofs.Tryz.func114 (by kernel_rfl) (by kernel_rfl) (by kernel_rfl) (by kernel_rfl)
    (LoopsP.cons q114_0 (s114_0) rfl (e114_0) LoopsP.nil) (e114)
/-! impl.CompareCues -/
def p88 : List SP := [.t .cue, .t .cue]
def r88 : List SP := [.one (.int .i64)]
noncomputable def F88 (f115 : Int × Int × Unit → Option (Int × Unit)) (f136 : Str × Str × Unit → Option (Int × Unit)) (f114 : List Int × Unit → Option (Int × Unit)) (a : Cue × Cue × Unit) : Option (Int × Unit) :=
  (f115 (a.1.Tick, a.2.1.Tick, ())).bind fun x1 => (f136 (a.1.Name, a.2.1.Name, ())).bind fun x2 => (f114 (([x1.1, x2.1] : List Int), ())).bind fun x3 => some (x3.1, ())
def E88 (f115 : Int × Int × Unit → Option (Int × Unit)) (f136 : Str × Str × Unit → Option (Int × Unit)) (f114 : List Int × Unit → Option (Int × Unit)) : Env := envL [(115, mkE p115 r115 false f115), (136, mkE p136 r136 false f136), (114, mkE p114 r114 false f114)]
noncomputable def L88 (f115 : Int × Int × Unit → Option (Int × Unit)) (f136 : Str × Str × Unit → Option (Int × Unit)) (f114 : List Int × Unit → Option (Int × Unit)) : LEnv (densS (muts p88 ++ r88)) := lenv []
theorem e88 (f115 : Int × Int × Unit → Option (Int × Unit)) (f136 : Str × Str × Unit → Option (Int × Unit)) (f114 : List Int × Unit → Option (Int × Unit)) (a : densS p88) : runF (E88 f115 f136 f114) tab2 (fun _ => false) p88 r88 Proofs.Tryz.f88 (L88 f115 f136 f114) a = F88 f115 f136 f114 a := by kernel_rfl
theorem ok88 {f115 : Int × Int × Unit → Option (Int × Unit)} {f136 : Str × Str × Unit → Option (Int × Unit)} {f114 : List Int × Unit → Option (Int × Unit)} (h115 : OK Proofs.Tryz.prog 115 (mkE p115 r115 false f115)) (h136 : OK Proofs.Tryz.prog 136 (mkE p136 r136 false f136)) (h114 : OK Proofs.Tryz.prog 114 (mkE p114 r114 false f114)) : OK Proofs.Tryz.prog 88 (mkE p88 r88 false (F88 f115 f136 f114)) :=
  fn_ok tab_ok2 (envL_ok (l := [(115, mkE p115 r115 false f115), (136, mkE p136 r136 false f136), (114, mkE p114 r114 false f114)]) (OKs.cons h115 (OKs.cons h136 (OKs.cons h114 OKs.nil)))) mixed2 (ann := (fun _ => false)) (L := L88 f115 f136 f114) (fn := Proofs.Tryz.f88) (c := bodyC Proofs.Tryz.f88) (ls := []) Proofs.Tryz.func88 (by kernel_rfl) (by kernel_rfl) (by kernel_rfl) (by kernel_rfl)
    LoopsP.nil (e88 f115 f136 f114)
/-! impl.IsScore -/
def p40 : List SP := [.one (.r .cue)]
def r40 : List SP := [.one (.bool)]
def q40_0 : List SP := pat 33 0 [(0, .one (.r .cue)), (5, .one (.r .cue)), (6, .one (.int .i64)), (7, .one (.int .i64))]
noncomputable def s40_0 (f87 : Cue × Unit → Option (Bool × Unit)) (f88 : Cue × Cue × Unit → Option (Int × Unit)) (t1 : List Cue × List Cue × Int × Int × Unit) (rec K : List Cue × List Cue × Int × Int × Unit → Option (Bool × Unit)) : Option (Bool × Unit) :=
  cond (decide (t1.2.2.2.1 < t1.2.2.1)) (rdL t1.2.1 t1.2.2.2.1 fun d2 => (f87 (d2, ())).bind fun x3 => cond (!(!x3.1)) (cond (decide (t1.2.2.2.1 > 0)) (rdL t1.1 (w64 (t1.2.2.2.1 - 1)) fun d4 => (f88 (d4, d2, ())).bind fun x5 => cond (decide (x5.1 ≥ 0)) (some (false, ())) (rec (t1.1, t1.2.1, t1.2.2.1, (w64 (t1.2.2.2.1 + 1)), ()))) (rec (t1.1, t1.2.1, t1.2.2.1, (w64 (t1.2.2.2.1 + 1)), ()))) (some (false, ()))) (K (t1.1, t1.2.1, t1.2.2.1, t1.2.2.2.1, ()))
noncomputable def F40 (f87 : Cue × Unit → Option (Bool × Unit)) (f88 : Cue × Cue × Unit → Option (Int × Unit)) (a : List Cue × Unit) : Option (Bool × Unit) :=
  iterF (s40_0 f87 f88) fuel (a.1, a.1, (Int.ofNat (List.length a.1)), 0, ()) fun t6 => some ((decide ((Int.ofNat (List.length t6.1)) ≤ 12)), ())
def E40 (f87 : Cue × Unit → Option (Bool × Unit)) (f88 : Cue × Cue × Unit → Option (Int × Unit)) : Env := envL [(87, mkE p87 r87 false f87), (88, mkE p88 r88 false f88)]
noncomputable def L40 (f87 : Cue × Unit → Option (Bool × Unit)) (f88 : Cue × Cue × Unit → Option (Int × Unit)) : LEnv (densS (muts p40 ++ r40)) := lenv [(0, loopL (R := densS (muts p40 ++ r40)) q40_0 (s40_0 f87 f88))]
theorem e40_0 (f87 : Cue × Unit → Option (Bool × Unit)) (f88 : Cue × Cue × Unit → Option (Int × Unit)) (X : Nat → St → Option (densS (muts p40 ++ r40))) (rec K : densS q40_0 → Option (densS (muts p40 ++ r40))) (t : densS q40_0) :
    ev (E40 f87 f88) tab2 (fun _ => false) (L40 f87 f88) (retK tab2 p40 r40 Proofs.Tryz.f40.results.toList) (loopC Proofs.Tryz.f40 0) (fun i s => cond (Nat.beq i 0) (decK 100 q40_0 s K) (X i s)) (fun s => decK 100 q40_0 s rec) (enc q40_0 t) = s40_0 f87 f88 t rec K := by kernel_rfl
theorem e40 (f87 : Cue × Unit → Option (Bool × Unit)) (f88 : Cue × Cue × Unit → Option (Int × Unit)) (a : densS p40) : runF (E40 f87 f88) tab2 (fun _ => false) p40 r40 Proofs.Tryz.f40 (L40 f87 f88) a = F40 f87 f88 a := by kernel_rfl
theorem ok40 {f87 : Cue × Unit → Option (Bool × Unit)} {f88 : Cue × Cue × Unit → Option (Int × Unit)} (h87 : OK Proofs.Tryz.prog 87 (mkE p87 r87 false f87)) (h88 : OK Proofs.Tryz.prog 88 (mkE p88 r88 false f88)) : OK Proofs.Tryz.prog 40 (mkE p40 r40 false (F40 f87 f88)) :=
  fn_ok tab_ok2 (envL_ok (l := [(87, mkE p87 r87 false f87), (88, mkE p88 r88 false f88)]) (OKs.cons h87 (OKs.cons h88 OKs.nil))) mixed2 (ann := (fun _ => false)) (L := L40 f87 f88) (fn := Proofs.Tryz.f40) (c := bodyC Proofs.Tryz.f40) (ls := [(0, loopC Proofs.Tryz.f40 0)]) Proofs.Tryz.func40 (by kernel_rfl) (by kernel_rfl) (by kernel_rfl) (by kernel_rfl)
    (LoopsP.cons q40_0 (s40_0 f87 f88) rfl (e40_0 f87 f88) LoopsP.nil) (e40 f87 f88)
/-! impl.isDrift -/
def p89 : List SP := [.t .place]
def r89 : List SP := [.one (.bool)]
noncomputable def F89 (f42 : Int × Int × Int × Unit → Option (Bool × Unit)) (a : Place × Unit) : Option (Bool × Unit) :=
  (f42 (a.1.X, (-8), 8, ())).bind fun x1 => cond x1.1 ((f42 (a.1.Y, (-8), 8, ())).bind fun x2 => some (x2.1, ())) (some (false, ()))
def E89 (f42 : Int × Int × Int × Unit → Option (Bool × Unit)) : Env := envL [(42, mkE p42 r42 false f42)]
noncomputable def L89 (f42 : Int × Int × Int × Unit → Option (Bool × Unit)) : LEnv (densS (muts p89 ++ r89)) := lenv []
theorem e89 (f42 : Int × Int × Int × Unit → Option (Bool × Unit)) (a : densS p89) : runF (E89 f42) tab2 (fun _ => false) p89 r89 Proofs.Tryz.f89 (L89 f42) a = F89 f42 a := by kernel_rfl
theorem ok89 {f42 : Int × Int × Int × Unit → Option (Bool × Unit)} (h42 : OK Proofs.Tryz.prog 42 (mkE p42 r42 false f42)) : OK Proofs.Tryz.prog 89 (mkE p89 r89 false (F89 f42)) :=
  fn_ok tab_ok2 (envL_ok (l := [(42, mkE p42 r42 false f42)]) (OKs.cons h42 OKs.nil)) mixed2 (ann := (fun _ => false)) (L := L89 f42) (fn := Proofs.Tryz.f89) (c := bodyC Proofs.Tryz.f89) (ls := []) Proofs.Tryz.func89 (by kernel_rfl) (by kernel_rfl) (by kernel_rfl) (by kernel_rfl)
    LoopsP.nil (e89 f42)
/-! impl.IsWind -/
def p41 : List SP := [.one (.r .gust)]
def r41 : List SP := [.one (.bool)]
def q41_0 : List SP := pat 41 0 [(0, .one (.r .gust)), (5, .one (.r .gust)), (6, .one (.int .i64)), (7, .one (.int .i64))]
noncomputable def s41_0 (f42 : Int × Int × Int × Unit → Option (Bool × Unit)) (f89 : Place × Unit → Option (Bool × Unit)) (t1 : List Gust × List Gust × Int × Int × Unit) (rec K : List Gust × List Gust × Int × Int × Unit → Option (Bool × Unit)) : Option (Bool × Unit) :=
  cond (decide (t1.2.2.2.1 < t1.2.2.1)) (rdL t1.2.1 t1.2.2.2.1 fun d2 => (f42 (d2.From, 0, 64, ())).bind fun x3 => cond (!(!x3.1)) ((f89 (d2.Drift, ())).bind fun x4 => cond (!(!x4.1)) (cond (decide (t1.2.2.2.1 > 0)) (rdL t1.1 (w64 (t1.2.2.2.1 - 1)) fun d5 => cond (decide (d2.From ≤ d5.From)) (some (false, ())) (rec (t1.1, t1.2.1, t1.2.2.1, (w64 (t1.2.2.2.1 + 1)), ()))) (rec (t1.1, t1.2.1, t1.2.2.1, (w64 (t1.2.2.2.1 + 1)), ()))) (some (false, ()))) (some (false, ()))) (K (t1.1, t1.2.1, t1.2.2.1, t1.2.2.2.1, ()))
noncomputable def F41 (f42 : Int × Int × Int × Unit → Option (Bool × Unit)) (f89 : Place × Unit → Option (Bool × Unit)) (a : List Gust × Unit) : Option (Bool × Unit) :=
  iterF (s41_0 f42 f89) fuel (a.1, a.1, (Int.ofNat (List.length a.1)), 0, ()) fun t6 => some ((decide ((Int.ofNat (List.length t6.1)) ≤ 8)), ())
def E41 (f42 : Int × Int × Int × Unit → Option (Bool × Unit)) (f89 : Place × Unit → Option (Bool × Unit)) : Env := envL [(42, mkE p42 r42 false f42), (89, mkE p89 r89 false f89)]
noncomputable def L41 (f42 : Int × Int × Int × Unit → Option (Bool × Unit)) (f89 : Place × Unit → Option (Bool × Unit)) : LEnv (densS (muts p41 ++ r41)) := lenv [(0, loopL (R := densS (muts p41 ++ r41)) q41_0 (s41_0 f42 f89))]
theorem e41_0 (f42 : Int × Int × Int × Unit → Option (Bool × Unit)) (f89 : Place × Unit → Option (Bool × Unit)) (X : Nat → St → Option (densS (muts p41 ++ r41))) (rec K : densS q41_0 → Option (densS (muts p41 ++ r41))) (t : densS q41_0) :
    ev (E41 f42 f89) tab2 (fun _ => false) (L41 f42 f89) (retK tab2 p41 r41 Proofs.Tryz.f41.results.toList) (loopC Proofs.Tryz.f41 0) (fun i s => cond (Nat.beq i 0) (decK 100 q41_0 s K) (X i s)) (fun s => decK 100 q41_0 s rec) (enc q41_0 t) = s41_0 f42 f89 t rec K := by kernel_rfl
theorem e41 (f42 : Int × Int × Int × Unit → Option (Bool × Unit)) (f89 : Place × Unit → Option (Bool × Unit)) (a : densS p41) : runF (E41 f42 f89) tab2 (fun _ => false) p41 r41 Proofs.Tryz.f41 (L41 f42 f89) a = F41 f42 f89 a := by kernel_rfl
theorem ok41 {f42 : Int × Int × Int × Unit → Option (Bool × Unit)} {f89 : Place × Unit → Option (Bool × Unit)} (h42 : OK Proofs.Tryz.prog 42 (mkE p42 r42 false f42)) (h89 : OK Proofs.Tryz.prog 89 (mkE p89 r89 false f89)) : OK Proofs.Tryz.prog 41 (mkE p41 r41 false (F41 f42 f89)) :=
  fn_ok tab_ok2 (envL_ok (l := [(42, mkE p42 r42 false f42), (89, mkE p89 r89 false f89)]) (OKs.cons h42 (OKs.cons h89 OKs.nil))) mixed2 (ann := (fun _ => false)) (L := L41 f42 f89) (fn := Proofs.Tryz.f41) (c := bodyC Proofs.Tryz.f41) (ls := [(0, loopC Proofs.Tryz.f41 0)]) Proofs.Tryz.func41 (by kernel_rfl) (by kernel_rfl) (by kernel_rfl) (by kernel_rfl)
    (LoopsP.cons q41_0 (s41_0 f42 f89) rfl (e41_0 f42 f89) LoopsP.nil) (e41 f42 f89)
/-! impl.IsShow -/
def p12 : List SP := [.agg [.r .device, .r .cue, .r .gust, .int .i64]]
def r12 : List SP := [.one (.bool)]
noncomputable def F12 (f39 : List Device × Unit → Option (Bool × Unit)) (f40 : List Cue × Unit → Option (Bool × Unit)) (f41 : List Gust × Unit → Option (Bool × Unit)) (f42 : Int × Int × Int × Unit → Option (Bool × Unit)) (a : ShD × Unit) : Option (Bool × Unit) :=
  (f39 (a.1.1, ())).bind fun x1 => cond x1.1 ((f40 (a.1.2.1, ())).bind fun x2 => cond x2.1 ((f41 (a.1.2.2.1, ())).bind fun x3 => cond x3.1 ((f42 (a.1.2.2.2.1, 0, 64, ())).bind fun x4 => some (x4.1, ())) (some (false, ()))) (some (false, ()))) (some (false, ()))
def E12 (f39 : List Device × Unit → Option (Bool × Unit)) (f40 : List Cue × Unit → Option (Bool × Unit)) (f41 : List Gust × Unit → Option (Bool × Unit)) (f42 : Int × Int × Int × Unit → Option (Bool × Unit)) : Env := envL [(39, mkE p39 r39 false f39), (40, mkE p40 r40 false f40), (41, mkE p41 r41 false f41), (42, mkE p42 r42 false f42)]
noncomputable def L12 (f39 : List Device × Unit → Option (Bool × Unit)) (f40 : List Cue × Unit → Option (Bool × Unit)) (f41 : List Gust × Unit → Option (Bool × Unit)) (f42 : Int × Int × Int × Unit → Option (Bool × Unit)) : LEnv (densS (muts p12 ++ r12)) := lenv []
theorem e12 (f39 : List Device × Unit → Option (Bool × Unit)) (f40 : List Cue × Unit → Option (Bool × Unit)) (f41 : List Gust × Unit → Option (Bool × Unit)) (f42 : Int × Int × Int × Unit → Option (Bool × Unit)) (a : densS p12) : runF (E12 f39 f40 f41 f42) tab2 (fun _ => false) p12 r12 Proofs.Tryz.f12 (L12 f39 f40 f41 f42) a = F12 f39 f40 f41 f42 a := by kernel_rfl
theorem ok12 {f39 : List Device × Unit → Option (Bool × Unit)} {f40 : List Cue × Unit → Option (Bool × Unit)} {f41 : List Gust × Unit → Option (Bool × Unit)} {f42 : Int × Int × Int × Unit → Option (Bool × Unit)} (h39 : OK Proofs.Tryz.prog 39 (mkE p39 r39 false f39)) (h40 : OK Proofs.Tryz.prog 40 (mkE p40 r40 false f40)) (h41 : OK Proofs.Tryz.prog 41 (mkE p41 r41 false f41)) (h42 : OK Proofs.Tryz.prog 42 (mkE p42 r42 false f42)) : OK Proofs.Tryz.prog 12 (mkE p12 r12 false (F12 f39 f40 f41 f42)) :=
  fn_ok tab_ok2 (envL_ok (l := [(39, mkE p39 r39 false f39), (40, mkE p40 r40 false f40), (41, mkE p41 r41 false f41), (42, mkE p42 r42 false f42)]) (OKs.cons h39 (OKs.cons h40 (OKs.cons h41 (OKs.cons h42 OKs.nil))))) mixed2 (ann := (fun _ => false)) (L := L12 f39 f40 f41 f42) (fn := Proofs.Tryz.f12) (c := bodyC Proofs.Tryz.f12) (ls := []) Proofs.Tryz.func12 (by kernel_rfl) (by kernel_rfl) (by kernel_rfl) (by kernel_rfl)
    LoopsP.nil (e12 f39 f40 f41 f42)
/-! impl.turns -/
def p91 : List SP := [.one (.int .i64)]
def r91 : List SP := [.one (.int .i64)]
noncomputable def F91 (a : Int × Unit) : Option (Int × Unit) :=
  some ((Int.tmod (w64 ((Int.tmod a.1 4) + 4)) 4), ())
def E91 : Env := envL []
noncomputable def L91 : LEnv (densS (muts p91 ++ r91)) := lenv []
theorem e91 (a : densS p91) : runF (E91) tab2 (fun _ => false) p91 r91 Proofs.Tryz.f91 (L91) a = F91 a := by kernel_rfl
theorem ok91 : OK Proofs.Tryz.prog 91 (mkE p91 r91 false (F91)) :=
  fn_ok tab_ok2 (envL_ok (l := []) OKs.nil) mixed2 (ann := (fun _ => false)) (L := L91) (fn := Proofs.Tryz.f91) (c := bodyC Proofs.Tryz.f91) (ls := []) Proofs.Tryz.func91 (by kernel_rfl) (by kernel_rfl) (by kernel_rfl) (by kernel_rfl)
    LoopsP.nil (e91)
/-! impl.turned -/
def p44 : List SP := [.t .place, .one (.int .i64)]
def r44 : List SP := [.t .place]
def q44_0 : List SP := pat 17 0 [(2, .boxt 5000001 .place), (4, .boxt 5000002 .place), (6, .one (.int .i64)), (7, .one (.int .i64))]
noncomputable def s44_0 (f91 : Int × Unit → Option (Int × Unit)) (t2 : Place × Place × Int × Int × Unit) (rec K : Place × Place × Int × Int × Unit → Option (Place × Unit)) : Option (Place × Unit) :=
  cond (decide (t2.2.2.2.1 < t2.2.2.1)) (rec ((⟨(w64 (0 - t2.1.Y)), t2.1.X⟩ : Place), t2.2.1, t2.2.2.1, (w64 (t2.2.2.2.1 + 1)), ())) (K (t2.1, t2.2.1, t2.2.2.1, t2.2.2.2.1, ()))
noncomputable def F44 (f91 : Int × Unit → Option (Int × Unit)) (a : Place × Int × Unit) : Option (Place × Unit) :=
  (f91 (a.2.1, ())).bind fun x1 => iterF (s44_0 f91) fuel (a.1, (⟨0, 0⟩ : Place), x1.1, 0, ()) fun t3 => some (t3.1, ())
def E44 (f91 : Int × Unit → Option (Int × Unit)) : Env := envL [(91, mkE p91 r91 false f91)]
noncomputable def L44 (f91 : Int × Unit → Option (Int × Unit)) : LEnv (densS (muts p44 ++ r44)) := lenv [(0, loopL (R := densS (muts p44 ++ r44)) q44_0 (s44_0 f91))]
theorem e44_0 (f91 : Int × Unit → Option (Int × Unit)) (X : Nat → St → Option (densS (muts p44 ++ r44))) (rec K : densS q44_0 → Option (densS (muts p44 ++ r44))) (t : densS q44_0) :
    ev (E44 f91) tab2 (fun _ => false) (L44 f91) (retK tab2 p44 r44 Proofs.Tryz.f44.results.toList) (loopC Proofs.Tryz.f44 0) (fun i s => cond (Nat.beq i 0) (decK 100 q44_0 s K) (X i s)) (fun s => decK 100 q44_0 s rec) (enc q44_0 t) = s44_0 f91 t rec K := by kernel_rfl
theorem e44 (f91 : Int × Unit → Option (Int × Unit)) (a : densS p44) : runF (E44 f91) tab2 (fun _ => false) p44 r44 Proofs.Tryz.f44 (L44 f91) a = F44 f91 a := by kernel_rfl
theorem ok44 {f91 : Int × Unit → Option (Int × Unit)} (h91 : OK Proofs.Tryz.prog 91 (mkE p91 r91 false f91)) : OK Proofs.Tryz.prog 44 (mkE p44 r44 false (F44 f91)) :=
  fn_ok tab_ok2 (envL_ok (l := [(91, mkE p91 r91 false f91)]) (OKs.cons h91 OKs.nil)) mixed2 (ann := (fun _ => false)) (L := L44 f91) (fn := Proofs.Tryz.f44) (c := bodyC Proofs.Tryz.f44) (ls := [(0, loopC Proofs.Tryz.f44 0)]) Proofs.Tryz.func44 (by kernel_rfl) (by kernel_rfl) (by kernel_rfl) (by kernel_rfl)
    (LoopsP.cons q44_0 (s44_0 f91) rfl (e44_0 f91) LoopsP.nil) (e44 f91)
/-! impl.TurnHeading -/
def p79 : List SP := [.one (.int .i64), .one (.int .i64)]
def r79 : List SP := [.one (.int .i64)]
noncomputable def F79 (f126 : Int × Unit → Option (Bool × Unit)) (f91 : Int × Unit → Option (Int × Unit)) (a : Int × Int × Unit) : Option (Int × Unit) :=
  (f126 (a.1, ())).bind fun x1 => cond (!x1.1) (some (0, ())) ((f91 (a.2.1, ())).bind fun x2 => some ((Int.tmod (w64 (a.1 + x2.1)) 4), ()))
def E79 (f126 : Int × Unit → Option (Bool × Unit)) (f91 : Int × Unit → Option (Int × Unit)) : Env := envL [(126, mkE p126 r126 false f126), (91, mkE p91 r91 false f91)]
noncomputable def L79 (f126 : Int × Unit → Option (Bool × Unit)) (f91 : Int × Unit → Option (Int × Unit)) : LEnv (densS (muts p79 ++ r79)) := lenv []
theorem e79 (f126 : Int × Unit → Option (Bool × Unit)) (f91 : Int × Unit → Option (Int × Unit)) (a : densS p79) : runF (E79 f126 f91) tab2 (fun _ => false) p79 r79 Proofs.Tryz.f79 (L79 f126 f91) a = F79 f126 f91 a := by kernel_rfl
theorem ok79 {f126 : Int × Unit → Option (Bool × Unit)} {f91 : Int × Unit → Option (Int × Unit)} (h126 : OK Proofs.Tryz.prog 126 (mkE p126 r126 false f126)) (h91 : OK Proofs.Tryz.prog 91 (mkE p91 r91 false f91)) : OK Proofs.Tryz.prog 79 (mkE p79 r79 false (F79 f126 f91)) :=
  fn_ok tab_ok2 (envL_ok (l := [(126, mkE p126 r126 false f126), (91, mkE p91 r91 false f91)]) (OKs.cons h126 (OKs.cons h91 OKs.nil))) mixed2 (ann := (fun _ => false)) (L := L79 f126 f91) (fn := Proofs.Tryz.f79) (c := bodyC Proofs.Tryz.f79) (ls := []) Proofs.Tryz.func79 (by kernel_rfl) (by kernel_rfl) (by kernel_rfl) (by kernel_rfl)
    LoopsP.nil (e79 f126 f91)
/-! impl.TurnRig -/
def p33 : List SP := [.one (.r .device), .one (.int .i64)]
def r33 : List SP := [.one (.o 0 .device)]
def q33_0 : List SP := pat 38 0 [(1, .one (.int .i64)), (5, .one (.o 5000001 .device)), (13, .one (.r .device)), (14, .one (.int .i64)), (15, .one (.int .i64))]
noncomputable def s33_0 (f39 : List Device × Unit → Option (Bool × Unit)) (f44 : Place × Int × Unit → Option (Place × Unit)) (f79 : Int × Int × Unit → Option (Int × Unit)) (t2 : Int × List Device × List Device × Int × Int × Unit) (rec K : Int × List Device × List Device × Int × Int × Unit → Option (List Device × Unit)) : Option (List Device × Unit) :=
  cond (decide (t2.2.2.2.2.1 < t2.2.2.2.1)) (rdL t2.2.2.1 t2.2.2.2.2.1 fun d3 => (f44 (d3.At, t2.1, ())).bind fun x4 => cond (decide (d3.Kind = 2)) ((f79 (d3.Heading, t2.1, ())).bind fun x5 => capK (List.length t2.2.1 + List.length ([(⟨d3.Name, d3.Kind, d3.Line, ⟨x4.1.X, x4.1.Y⟩, x5.1, d3.Tilt, d3.Most⟩ : Device)] : List Device)) (rec (t2.1, (t2.2.1 ++ ([(⟨d3.Name, d3.Kind, d3.Line, ⟨x4.1.X, x4.1.Y⟩, x5.1, d3.Tilt, d3.Most⟩ : Device)] : List Device)), t2.2.2.1, t2.2.2.2.1, (w64 (t2.2.2.2.2.1 + 1)), ()))) (capK (List.length t2.2.1 + List.length ([(⟨d3.Name, d3.Kind, d3.Line, ⟨x4.1.X, x4.1.Y⟩, d3.Heading, d3.Tilt, d3.Most⟩ : Device)] : List Device)) (rec (t2.1, (t2.2.1 ++ ([(⟨d3.Name, d3.Kind, d3.Line, ⟨x4.1.X, x4.1.Y⟩, d3.Heading, d3.Tilt, d3.Most⟩ : Device)] : List Device)), t2.2.2.1, t2.2.2.2.1, (w64 (t2.2.2.2.2.1 + 1)), ())))) (K (t2.1, t2.2.1, t2.2.2.1, t2.2.2.2.1, t2.2.2.2.2.1, ()))
noncomputable def F33 (f39 : List Device × Unit → Option (Bool × Unit)) (f44 : Place × Int × Unit → Option (Place × Unit)) (f79 : Int × Int × Unit → Option (Int × Unit)) (a : List Device × Int × Unit) : Option (List Device × Unit) :=
  (f39 (a.1, ())).bind fun x1 => cond (!x1.1) (some (([] : List Device), ())) (iterF (s33_0 f39 f44 f79) fuel (a.2.1, ([] : List Device), a.1, (Int.ofNat (List.length a.1)), 0, ()) fun t6 => some (t6.2.1, ()))
def E33 (f39 : List Device × Unit → Option (Bool × Unit)) (f44 : Place × Int × Unit → Option (Place × Unit)) (f79 : Int × Int × Unit → Option (Int × Unit)) : Env := envL [(39, mkE p39 r39 false f39), (44, mkE p44 r44 false f44), (79, mkE p79 r79 false f79)]
noncomputable def L33 (f39 : List Device × Unit → Option (Bool × Unit)) (f44 : Place × Int × Unit → Option (Place × Unit)) (f79 : Int × Int × Unit → Option (Int × Unit)) : LEnv (densS (muts p33 ++ r33)) := lenv [(0, loopL (R := densS (muts p33 ++ r33)) q33_0 (s33_0 f39 f44 f79))]
theorem e33_0 (f39 : List Device × Unit → Option (Bool × Unit)) (f44 : Place × Int × Unit → Option (Place × Unit)) (f79 : Int × Int × Unit → Option (Int × Unit)) (X : Nat → St → Option (densS (muts p33 ++ r33))) (rec K : densS q33_0 → Option (densS (muts p33 ++ r33))) (t : densS q33_0) :
    ev (E33 f39 f44 f79) tab2 (fun _ => false) (L33 f39 f44 f79) (retK tab2 p33 r33 Proofs.Tryz.f33.results.toList) (loopC Proofs.Tryz.f33 0) (fun i s => cond (Nat.beq i 0) (decK 100 q33_0 s K) (X i s)) (fun s => decK 100 q33_0 s rec) (enc q33_0 t) = s33_0 f39 f44 f79 t rec K := by kernel_rfl
theorem e33 (f39 : List Device × Unit → Option (Bool × Unit)) (f44 : Place × Int × Unit → Option (Place × Unit)) (f79 : Int × Int × Unit → Option (Int × Unit)) (a : densS p33) : runF (E33 f39 f44 f79) tab2 (fun _ => false) p33 r33 Proofs.Tryz.f33 (L33 f39 f44 f79) a = F33 f39 f44 f79 a := by kernel_rfl
theorem ok33 {f39 : List Device × Unit → Option (Bool × Unit)} {f44 : Place × Int × Unit → Option (Place × Unit)} {f79 : Int × Int × Unit → Option (Int × Unit)} (h39 : OK Proofs.Tryz.prog 39 (mkE p39 r39 false f39)) (h44 : OK Proofs.Tryz.prog 44 (mkE p44 r44 false f44)) (h79 : OK Proofs.Tryz.prog 79 (mkE p79 r79 false f79)) : OK Proofs.Tryz.prog 33 (mkE p33 r33 false (F33 f39 f44 f79)) :=
  fn_ok tab_ok2 (envL_ok (l := [(39, mkE p39 r39 false f39), (44, mkE p44 r44 false f44), (79, mkE p79 r79 false f79)]) (OKs.cons h39 (OKs.cons h44 (OKs.cons h79 OKs.nil)))) mixed2 (ann := (fun _ => false)) (L := L33 f39 f44 f79) (fn := Proofs.Tryz.f33) (c := bodyC Proofs.Tryz.f33) (ls := [(0, loopC Proofs.Tryz.f33 0)]) Proofs.Tryz.func33 (by kernel_rfl) (by kernel_rfl) (by kernel_rfl) (by kernel_rfl)
    (LoopsP.cons q33_0 (s33_0 f39 f44 f79) rfl (e33_0 f39 f44 f79) LoopsP.nil) (e33 f39 f44 f79)
/-! slices.Clone[[]impl.Cue,impl.Cue] -/
def p34 : List SP := [.one (.r .cue)]
def r34 : List SP := [.one (.o 0 .cue)]
noncomputable def F34 (a : List Cue × Unit) : Option (List Cue × Unit) :=
  emptyK (List.isEmpty a.1) (some ([], ())) (capK (List.length ([] : List Cue) + List.length a.1) (some ((([] : List Cue) ++ a.1), ())))
def E34 : Env := envL []
noncomputable def L34 : LEnv (densS (muts p34 ++ r34)) := lenv []
theorem e34 (a : densS p34) : runF (E34) tab2 (fun _ => false) p34 r34 Proofs.Tryz.f34 (L34) a = F34 a := by kernel_rfl
theorem ok34 : OK Proofs.Tryz.prog 34 (mkE p34 r34 false (F34)) :=
  fn_ok tab_ok2 (envL_ok (l := []) OKs.nil) mixed2 (ann := (fun _ => false)) (L := L34) (fn := Proofs.Tryz.f34) (c := bodyC Proofs.Tryz.f34) (ls := []) Proofs.Tryz.func34 (by kernel_rfl) (by kernel_rfl) (by kernel_rfl) (by kernel_rfl)
    LoopsP.nil (e34)
/-! impl.TurnWind -/
def p35 : List SP := [.one (.r .gust), .one (.int .i64)]
def r35 : List SP := [.one (.o 0 .gust)]
def q35_0 : List SP := pat 31 0 [(1, .one (.int .i64)), (5, .one (.o 5000001 .gust)), (13, .one (.r .gust)), (14, .one (.int .i64)), (15, .one (.int .i64))]
noncomputable def s35_0 (f41 : List Gust × Unit → Option (Bool × Unit)) (f44 : Place × Int × Unit → Option (Place × Unit)) (t2 : Int × List Gust × List Gust × Int × Int × Unit) (rec K : Int × List Gust × List Gust × Int × Int × Unit → Option (List Gust × Unit)) : Option (List Gust × Unit) :=
  cond (decide (t2.2.2.2.2.1 < t2.2.2.2.1)) (rdL t2.2.2.1 t2.2.2.2.2.1 fun d3 => (f44 (d3.Drift, t2.1, ())).bind fun x4 => capK (List.length t2.2.1 + List.length ([(⟨d3.From, ⟨x4.1.X, x4.1.Y⟩⟩ : Gust)] : List Gust)) (rec (t2.1, (t2.2.1 ++ ([(⟨d3.From, ⟨x4.1.X, x4.1.Y⟩⟩ : Gust)] : List Gust)), t2.2.2.1, t2.2.2.2.1, (w64 (t2.2.2.2.2.1 + 1)), ()))) (K (t2.1, t2.2.1, t2.2.2.1, t2.2.2.2.1, t2.2.2.2.2.1, ()))
noncomputable def F35 (f41 : List Gust × Unit → Option (Bool × Unit)) (f44 : Place × Int × Unit → Option (Place × Unit)) (a : List Gust × Int × Unit) : Option (List Gust × Unit) :=
  (f41 (a.1, ())).bind fun x1 => cond (!x1.1) (some (([] : List Gust), ())) (iterF (s35_0 f41 f44) fuel (a.2.1, ([] : List Gust), a.1, (Int.ofNat (List.length a.1)), 0, ()) fun t5 => some (t5.2.1, ()))
def E35 (f41 : List Gust × Unit → Option (Bool × Unit)) (f44 : Place × Int × Unit → Option (Place × Unit)) : Env := envL [(41, mkE p41 r41 false f41), (44, mkE p44 r44 false f44)]
noncomputable def L35 (f41 : List Gust × Unit → Option (Bool × Unit)) (f44 : Place × Int × Unit → Option (Place × Unit)) : LEnv (densS (muts p35 ++ r35)) := lenv [(0, loopL (R := densS (muts p35 ++ r35)) q35_0 (s35_0 f41 f44))]
theorem e35_0 (f41 : List Gust × Unit → Option (Bool × Unit)) (f44 : Place × Int × Unit → Option (Place × Unit)) (X : Nat → St → Option (densS (muts p35 ++ r35))) (rec K : densS q35_0 → Option (densS (muts p35 ++ r35))) (t : densS q35_0) :
    ev (E35 f41 f44) tab2 (fun _ => false) (L35 f41 f44) (retK tab2 p35 r35 Proofs.Tryz.f35.results.toList) (loopC Proofs.Tryz.f35 0) (fun i s => cond (Nat.beq i 0) (decK 100 q35_0 s K) (X i s)) (fun s => decK 100 q35_0 s rec) (enc q35_0 t) = s35_0 f41 f44 t rec K := by kernel_rfl
theorem e35 (f41 : List Gust × Unit → Option (Bool × Unit)) (f44 : Place × Int × Unit → Option (Place × Unit)) (a : densS p35) : runF (E35 f41 f44) tab2 (fun _ => false) p35 r35 Proofs.Tryz.f35 (L35 f41 f44) a = F35 f41 f44 a := by kernel_rfl
theorem ok35 {f41 : List Gust × Unit → Option (Bool × Unit)} {f44 : Place × Int × Unit → Option (Place × Unit)} (h41 : OK Proofs.Tryz.prog 41 (mkE p41 r41 false f41)) (h44 : OK Proofs.Tryz.prog 44 (mkE p44 r44 false f44)) : OK Proofs.Tryz.prog 35 (mkE p35 r35 false (F35 f41 f44)) :=
  fn_ok tab_ok2 (envL_ok (l := [(41, mkE p41 r41 false f41), (44, mkE p44 r44 false f44)]) (OKs.cons h41 (OKs.cons h44 OKs.nil))) mixed2 (ann := (fun _ => false)) (L := L35 f41 f44) (fn := Proofs.Tryz.f35) (c := bodyC Proofs.Tryz.f35) (ls := [(0, loopC Proofs.Tryz.f35 0)]) Proofs.Tryz.func35 (by kernel_rfl) (by kernel_rfl) (by kernel_rfl) (by kernel_rfl)
    (LoopsP.cons q35_0 (s35_0 f41 f44) rfl (e35_0 f41 f44) LoopsP.nil) (e35 f41 f44)
/-! impl.TurnShow -/
def p9 : List SP := [.agg [.r .device, .r .cue, .r .gust, .int .i64], .one (.int .i64)]
def r9 : List SP := [.agg [.o 0 .device, .o 1 .cue, .o 2 .gust, .int .i64]]
noncomputable def F9 (f12 : ShD × Unit → Option (Bool × Unit)) (f33 : List Device × Int × Unit → Option (List Device × Unit)) (f34 : List Cue × Unit → Option (List Cue × Unit)) (f35 : List Gust × Int × Unit → Option (List Gust × Unit)) (a : ShD × Int × Unit) : Option (ShD × Unit) :=
  (f12 ((a.1.1, a.1.2.1, a.1.2.2.1, a.1.2.2.2.1, ()), ())).bind fun x1 => cond (!x1.1) (some (([], [], [], 0, ()), ())) ((f33 (a.1.1, a.2.1, ())).bind fun x2 => (f34 (a.1.2.1, ())).bind fun x3 => (f35 (a.1.2.2.1, a.2.1, ())).bind fun x4 => some ((x2.1, x3.1, x4.1, a.1.2.2.2.1, ()), ()))
def E9 (f12 : ShD × Unit → Option (Bool × Unit)) (f33 : List Device × Int × Unit → Option (List Device × Unit)) (f34 : List Cue × Unit → Option (List Cue × Unit)) (f35 : List Gust × Int × Unit → Option (List Gust × Unit)) : Env := envL [(12, mkE p12 r12 false f12), (33, mkE p33 r33 false f33), (34, mkE p34 r34 false f34), (35, mkE p35 r35 false f35)]
noncomputable def L9 (f12 : ShD × Unit → Option (Bool × Unit)) (f33 : List Device × Int × Unit → Option (List Device × Unit)) (f34 : List Cue × Unit → Option (List Cue × Unit)) (f35 : List Gust × Int × Unit → Option (List Gust × Unit)) : LEnv (densS (muts p9 ++ r9)) := lenv []
theorem e9 (f12 : ShD × Unit → Option (Bool × Unit)) (f33 : List Device × Int × Unit → Option (List Device × Unit)) (f34 : List Cue × Unit → Option (List Cue × Unit)) (f35 : List Gust × Int × Unit → Option (List Gust × Unit)) (a : densS p9) : runF (E9 f12 f33 f34 f35) tab2 (fun _ => false) p9 r9 Proofs.Tryz.f9 (L9 f12 f33 f34 f35) a = F9 f12 f33 f34 f35 a := by kernel_rfl
theorem ok9 {f12 : ShD × Unit → Option (Bool × Unit)} {f33 : List Device × Int × Unit → Option (List Device × Unit)} {f34 : List Cue × Unit → Option (List Cue × Unit)} {f35 : List Gust × Int × Unit → Option (List Gust × Unit)} (h12 : OK Proofs.Tryz.prog 12 (mkE p12 r12 false f12)) (h33 : OK Proofs.Tryz.prog 33 (mkE p33 r33 false f33)) (h34 : OK Proofs.Tryz.prog 34 (mkE p34 r34 false f34)) (h35 : OK Proofs.Tryz.prog 35 (mkE p35 r35 false f35)) : OK Proofs.Tryz.prog 9 (mkE p9 r9 false (F9 f12 f33 f34 f35)) :=
  fn_ok tab_ok2 (envL_ok (l := [(12, mkE p12 r12 false f12), (33, mkE p33 r33 false f33), (34, mkE p34 r34 false f34), (35, mkE p35 r35 false f35)]) (OKs.cons h12 (OKs.cons h33 (OKs.cons h34 (OKs.cons h35 OKs.nil))))) mixed2 (ann := (fun _ => false)) (L := L9 f12 f33 f34 f35) (fn := Proofs.Tryz.f9) (c := bodyC Proofs.Tryz.f9) (ls := []) Proofs.Tryz.func9 (by kernel_rfl) (by kernel_rfl) (by kernel_rfl) (by kernel_rfl)
    LoopsP.nil (e9 f12 f33 f34 f35)
/-! impl.floorDiv -/
def p189 : List SP := [.one (.int .i64), .one (.int .i64)]
def r189 : List SP := [.one (.int .i64)]
noncomputable def F189 (a : Int × Int × Unit) : Option (Int × Unit) :=
  cond (decide (a.2.1 = 0)) none (cond (decide (a.2.1 = 0)) none (cond (decide ((Int.tmod a.1 a.2.1) < 0)) (some ((w64 ((w64 (Int.tdiv a.1 a.2.1)) - 1)), ())) (some ((w64 (Int.tdiv a.1 a.2.1)), ()))))
def E189 : Env := envL []
noncomputable def L189 : LEnv (densS (muts p189 ++ r189)) := lenv []
theorem e189 (a : densS p189) : runF (E189) tab2 (fun _ => false) p189 r189 Proofs.Tryz.f189 (L189) a = F189 a := by kernel_rfl
theorem ok189 : OK Proofs.Tryz.prog 189 (mkE p189 r189 false (F189)) :=
  fn_ok tab_ok2 (envL_ok (l := []) OKs.nil) mixed2 (ann := (fun _ => false)) (L := L189) (fn := Proofs.Tryz.f189) (c := bodyC Proofs.Tryz.f189) (ls := []) Proofs.Tryz.func189 (by kernel_rfl) (by kernel_rfl) (by kernel_rfl) (by kernel_rfl)
    LoopsP.nil (e189)
/-! impl.RampAt -/
def p167 : List SP := [.one (.int .i64), .one (.int .i64), .one (.int .i64), .one (.int .i64)]
def r167 : List SP := [.one (.int .i64)]
noncomputable def F167 (f90 : Int × Unit → Option (Bool × Unit)) (f189 : Int × Int × Unit → Option (Int × Unit)) (a : Int × Int × Int × Int × Unit) : Option (Int × Unit) :=
  (f90 (a.1, ())).bind fun x1 => cond (!(!x1.1)) ((f90 (a.2.1, ())).bind fun x2 => cond (!x2.1) (some (0, ())) (cond (decide (a.2.2.1 ≥ a.2.2.2.1)) (some (a.2.1, ())) (cond (!(decide (a.2.2.1 ≤ 0))) (cond (decide (a.2.2.2.1 > 999)) (some (a.1, ())) ((f189 ((w64 (a.2.2.1 * (w64 (a.2.1 - a.1)))), a.2.2.2.1, ())).bind fun x3 => some ((w64 (a.1 + x3.1)), ()))) (some (a.1, ()))))) (some (0, ()))
def E167 (f90 : Int × Unit → Option (Bool × Unit)) (f189 : Int × Int × Unit → Option (Int × Unit)) : Env := envL [(90, mkE p90 r90 false f90), (189, mkE p189 r189 false f189)]
noncomputable def L167 (f90 : Int × Unit → Option (Bool × Unit)) (f189 : Int × Int × Unit → Option (Int × Unit)) : LEnv (densS (muts p167 ++ r167)) := lenv []
theorem e167 (f90 : Int × Unit → Option (Bool × Unit)) (f189 : Int × Int × Unit → Option (Int × Unit)) (a : densS p167) : runF (E167 f90 f189) tab2 (fun _ => false) p167 r167 Proofs.Tryz.f167 (L167 f90 f189) a = F167 f90 f189 a := by kernel_rfl
theorem ok167 {f90 : Int × Unit → Option (Bool × Unit)} {f189 : Int × Int × Unit → Option (Int × Unit)} (h90 : OK Proofs.Tryz.prog 90 (mkE p90 r90 false f90)) (h189 : OK Proofs.Tryz.prog 189 (mkE p189 r189 false f189)) : OK Proofs.Tryz.prog 167 (mkE p167 r167 false (F167 f90 f189)) :=
  fn_ok tab_ok2 (envL_ok (l := [(90, mkE p90 r90 false f90), (189, mkE p189 r189 false f189)]) (OKs.cons h90 (OKs.cons h189 OKs.nil))) mixed2 (ann := (fun _ => false)) (L := L167 f90 f189) (fn := Proofs.Tryz.f167) (c := bodyC Proofs.Tryz.f167) (ls := []) Proofs.Tryz.func167 (by kernel_rfl) (by kernel_rfl) (by kernel_rfl) (by kernel_rfl)
    LoopsP.nil (e167 f90 f189)
/-! impl.LevelAt -/
def p127 : List SP := [.one (.r .cue), .one (.str), .one (.int .i64)]
def r127 : List SP := [.one (.int .i64)]
def q127_0 : List SP := pat 58 0 [(1, .one (.str)), (2, .one (.int .i64)), (7, .one (.int .i64)), (8, .boxt 5000001 .cue), (19, .one (.r .cue)), (20, .one (.int .i64)), (21, .one (.int .i64))]
noncomputable def s127_0 (f40 : List Cue × Unit → Option (Bool × Unit)) (f167 : Int × Int × Int × Int × Unit → Option (Int × Unit)) (t2 : Str × Int × Int × Cue × List Cue × Int × Int × Unit) (rec K : Str × Int × Int × Cue × List Cue × Int × Int × Unit → Option (Int × Unit)) : Option (Int × Unit) :=
  cond (decide (t2.2.2.2.2.2.2.1 < t2.2.2.2.2.2.1)) (rdL t2.2.2.2.2.1 t2.2.2.2.2.2.2.1 fun d3 => cond (decide (d3.Name = t2.1)) (cond (decide (d3.Tick ≤ t2.2.1)) ((f167 (t2.2.2.1, t2.2.2.2.1.Level, (w64 (d3.Tick - t2.2.2.2.1.Tick)), t2.2.2.2.1.Ramp, ())).bind fun x4 => rec (t2.1, t2.2.1, x4.1, d3, t2.2.2.2.2.1, t2.2.2.2.2.2.1, (w64 (t2.2.2.2.2.2.2.1 + 1)), ())) (rec (t2.1, t2.2.1, t2.2.2.1, t2.2.2.2.1, t2.2.2.2.2.1, t2.2.2.2.2.2.1, (w64 (t2.2.2.2.2.2.2.1 + 1)), ()))) (rec (t2.1, t2.2.1, t2.2.2.1, t2.2.2.2.1, t2.2.2.2.2.1, t2.2.2.2.2.2.1, (w64 (t2.2.2.2.2.2.2.1 + 1)), ()))) (K (t2.1, t2.2.1, t2.2.2.1, t2.2.2.2.1, t2.2.2.2.2.1, t2.2.2.2.2.2.1, t2.2.2.2.2.2.2.1, ()))
noncomputable def F127 (f40 : List Cue × Unit → Option (Bool × Unit)) (f167 : Int × Int × Int × Int × Unit → Option (Int × Unit)) (a : List Cue × Str × Int × Unit) : Option (Int × Unit) :=
  (f40 (a.1, ())).bind fun x1 => cond (!(!x1.1)) (cond (decide (a.2.2.1 < 0)) (some (0, ())) (iterF (s127_0 f40 f167) fuel (a.2.1, a.2.2.1, 0, (⟨0, [], 0, 0⟩ : Cue), a.1, (Int.ofNat (List.length a.1)), 0, ()) fun t5 => (f167 (t5.2.2.1, t5.2.2.2.1.Level, (w64 (t5.2.1 - t5.2.2.2.1.Tick)), t5.2.2.2.1.Ramp, ())).bind fun x6 => some (x6.1, ()))) (some (0, ()))
def E127 (f40 : List Cue × Unit → Option (Bool × Unit)) (f167 : Int × Int × Int × Int × Unit → Option (Int × Unit)) : Env := envL [(40, mkE p40 r40 false f40), (167, mkE p167 r167 false f167)]
noncomputable def L127 (f40 : List Cue × Unit → Option (Bool × Unit)) (f167 : Int × Int × Int × Int × Unit → Option (Int × Unit)) : LEnv (densS (muts p127 ++ r127)) := lenv [(0, loopL (R := densS (muts p127 ++ r127)) q127_0 (s127_0 f40 f167))]
theorem e127_0 (f40 : List Cue × Unit → Option (Bool × Unit)) (f167 : Int × Int × Int × Int × Unit → Option (Int × Unit)) (X : Nat → St → Option (densS (muts p127 ++ r127))) (rec K : densS q127_0 → Option (densS (muts p127 ++ r127))) (t : densS q127_0) :
    ev (E127 f40 f167) tab2 (fun _ => false) (L127 f40 f167) (retK tab2 p127 r127 Proofs.Tryz.f127.results.toList) (loopC Proofs.Tryz.f127 0) (fun i s => cond (Nat.beq i 0) (decK 100 q127_0 s K) (X i s)) (fun s => decK 100 q127_0 s rec) (enc q127_0 t) = s127_0 f40 f167 t rec K := by kernel_rfl
theorem e127 (f40 : List Cue × Unit → Option (Bool × Unit)) (f167 : Int × Int × Int × Int × Unit → Option (Int × Unit)) (a : densS p127) : runF (E127 f40 f167) tab2 (fun _ => false) p127 r127 Proofs.Tryz.f127 (L127 f40 f167) a = F127 f40 f167 a := by kernel_rfl
theorem ok127 {f40 : List Cue × Unit → Option (Bool × Unit)} {f167 : Int × Int × Int × Int × Unit → Option (Int × Unit)} (h40 : OK Proofs.Tryz.prog 40 (mkE p40 r40 false f40)) (h167 : OK Proofs.Tryz.prog 167 (mkE p167 r167 false f167)) : OK Proofs.Tryz.prog 127 (mkE p127 r127 false (F127 f40 f167)) :=
  fn_ok tab_ok2 (envL_ok (l := [(40, mkE p40 r40 false f40), (167, mkE p167 r167 false f167)]) (OKs.cons h40 (OKs.cons h167 OKs.nil))) mixed2 (ann := (fun _ => false)) (L := L127 f40 f167) (fn := Proofs.Tryz.f127) (c := bodyC Proofs.Tryz.f127) (ls := [(0, loopC Proofs.Tryz.f127 0)]) Proofs.Tryz.func127 (by kernel_rfl) (by kernel_rfl) (by kernel_rfl) (by kernel_rfl)
    (LoopsP.cons q127_0 (s127_0 f40 f167) rfl (e127_0 f40 f167) LoopsP.nil) (e127 f40 f167)
/-! impl.IsDemands -/
def p168 : List SP := [.one (.r .int)]
def r168 : List SP := [.one (.bool)]
def q168_0 : List SP := pat 18 0 [(0, .one (.r .int)), (5, .one (.r .int)), (6, .one (.int .i64)), (7, .one (.int .i64))]
noncomputable def s168_0 (f42 : Int × Int × Int × Unit → Option (Bool × Unit)) (t1 : List Int × List Int × Int × Int × Unit) (rec K : List Int × List Int × Int × Int × Unit → Option (Bool × Unit)) : Option (Bool × Unit) :=
  cond (decide (t1.2.2.2.1 < t1.2.2.1)) (rdL t1.2.1 t1.2.2.2.1 fun d2 => (f42 (d2, 0, 64, ())).bind fun x3 => cond (!x3.1) (some (false, ())) (rec (t1.1, t1.2.1, t1.2.2.1, (w64 (t1.2.2.2.1 + 1)), ()))) (K (t1.1, t1.2.1, t1.2.2.1, t1.2.2.2.1, ()))
noncomputable def F168 (f42 : Int × Int × Int × Unit → Option (Bool × Unit)) (a : List Int × Unit) : Option (Bool × Unit) :=
  iterF (s168_0 f42) fuel (a.1, a.1, (Int.ofNat (List.length a.1)), 0, ()) fun t4 => some ((decide ((Int.ofNat (List.length t4.1)) ≤ 8)), ())
def E168 (f42 : Int × Int × Int × Unit → Option (Bool × Unit)) : Env := envL [(42, mkE p42 r42 false f42)]
noncomputable def L168 (f42 : Int × Int × Int × Unit → Option (Bool × Unit)) : LEnv (densS (muts p168 ++ r168)) := lenv [(0, loopL (R := densS (muts p168 ++ r168)) q168_0 (s168_0 f42))]
theorem e168_0 (f42 : Int × Int × Int × Unit → Option (Bool × Unit)) (X : Nat → St → Option (densS (muts p168 ++ r168))) (rec K : densS q168_0 → Option (densS (muts p168 ++ r168))) (t : densS q168_0) :
    ev (E168 f42) tab2 (fun _ => false) (L168 f42) (retK tab2 p168 r168 Proofs.Tryz.f168.results.toList) (loopC Proofs.Tryz.f168 0) (fun i s => cond (Nat.beq i 0) (decK 100 q168_0 s K) (X i s)) (fun s => decK 100 q168_0 s rec) (enc q168_0 t) = s168_0 f42 t rec K := by kernel_rfl
theorem e168 (f42 : Int × Int × Int × Unit → Option (Bool × Unit)) (a : densS p168) : runF (E168 f42) tab2 (fun _ => false) p168 r168 Proofs.Tryz.f168 (L168 f42) a = F168 f42 a := by kernel_rfl
theorem ok168 {f42 : Int × Int × Int × Unit → Option (Bool × Unit)} (h42 : OK Proofs.Tryz.prog 42 (mkE p42 r42 false f42)) : OK Proofs.Tryz.prog 168 (mkE p168 r168 false (F168 f42)) :=
  fn_ok tab_ok2 (envL_ok (l := [(42, mkE p42 r42 false f42)]) (OKs.cons h42 OKs.nil)) mixed2 (ann := (fun _ => false)) (L := L168 f42) (fn := Proofs.Tryz.f168) (c := bodyC Proofs.Tryz.f168) (ls := [(0, loopC Proofs.Tryz.f168 0)]) Proofs.Tryz.func168 (by kernel_rfl) (by kernel_rfl) (by kernel_rfl) (by kernel_rfl)
    (LoopsP.cons q168_0 (s168_0 f42) rfl (e168_0 f42) LoopsP.nil) (e168 f42)
/-! impl.CutAt -/
def p170 : List SP := [.one (.r .int), .one (.int .i64)]
def r170 : List SP := [.one (.o 0 .int)]
def q170_0 : List SP := pat 31 0 [(1, .one (.int .i64)), (5, .one (.o 5000001 .int)), (17, .one (.r .int)), (18, .one (.int .i64)), (19, .one (.int .i64))]
noncomputable def s170_0 (f168 : List Int × Unit → Option (Bool × Unit)) (t2 : Int × List Int × List Int × Int × Int × Unit) (rec K : Int × List Int × List Int × Int × Int × Unit → Option (List Int × Unit)) : Option (List Int × Unit) :=
  cond (decide (t2.2.2.2.2.1 < t2.2.2.2.1)) (rdL t2.2.2.1 t2.2.2.2.2.1 fun d3 => capK (List.length t2.2.1 + List.length ([(mn d3 t2.1)] : List Int)) (rec (t2.1, (t2.2.1 ++ ([(mn d3 t2.1)] : List Int)), t2.2.2.1, t2.2.2.2.1, (w64 (t2.2.2.2.2.1 + 1)), ()))) (K (t2.1, t2.2.1, t2.2.2.1, t2.2.2.2.1, t2.2.2.2.2.1, ()))
noncomputable def F170 (f168 : List Int × Unit → Option (Bool × Unit)) (a : List Int × Int × Unit) : Option (List Int × Unit) :=
  (f168 (a.1, ())).bind fun x1 => cond (!(!x1.1)) (cond (decide (a.2.1 < 0)) (some (([] : List Int), ())) (iterF (s170_0 f168) fuel (a.2.1, ([] : List Int), a.1, (Int.ofNat (List.length a.1)), 0, ()) fun t4 => some (t4.2.1, ()))) (some (([] : List Int), ()))
def E170 (f168 : List Int × Unit → Option (Bool × Unit)) : Env := envL [(168, mkE p168 r168 false f168)]
noncomputable def L170 (f168 : List Int × Unit → Option (Bool × Unit)) : LEnv (densS (muts p170 ++ r170)) := lenv [(0, loopL (R := densS (muts p170 ++ r170)) q170_0 (s170_0 f168))]
theorem e170_0 (f168 : List Int × Unit → Option (Bool × Unit)) (X : Nat → St → Option (densS (muts p170 ++ r170))) (rec K : densS q170_0 → Option (densS (muts p170 ++ r170))) (t : densS q170_0) :
    ev (E170 f168) tab2 (fun _ => false) (L170 f168) (retK tab2 p170 r170 Proofs.Tryz.f170.results.toList) (loopC Proofs.Tryz.f170 0) (fun i s => cond (Nat.beq i 0) (decK 100 q170_0 s K) (X i s)) (fun s => decK 100 q170_0 s rec) (enc q170_0 t) = s170_0 f168 t rec K := by kernel_rfl
theorem e170 (f168 : List Int × Unit → Option (Bool × Unit)) (a : densS p170) : runF (E170 f168) tab2 (fun _ => false) p170 r170 Proofs.Tryz.f170 (L170 f168) a = F170 f168 a := by kernel_rfl
theorem ok170 {f168 : List Int × Unit → Option (Bool × Unit)} (h168 : OK Proofs.Tryz.prog 168 (mkE p168 r168 false f168)) : OK Proofs.Tryz.prog 170 (mkE p170 r170 false (F170 f168)) :=
  fn_ok tab_ok2 (envL_ok (l := [(168, mkE p168 r168 false f168)]) (OKs.cons h168 OKs.nil)) mixed2 (ann := (fun _ => false)) (L := L170 f168) (fn := Proofs.Tryz.f170) (c := bodyC Proofs.Tryz.f170) (ls := [(0, loopC Proofs.Tryz.f170 0)]) Proofs.Tryz.func170 (by kernel_rfl) (by kernel_rfl) (by kernel_rfl) (by kernel_rfl)
    (LoopsP.cons q170_0 (s170_0 f168) rfl (e170_0 f168) LoopsP.nil) (e170 f168)
/-! impl.sumOf -/
def p171 : List SP := [.one (.r .int)]
def r171 : List SP := [.one (.int .i64)]
def q171_0 : List SP := pat 17 0 [(3, .one (.int .i64)), (6, .one (.r .int)), (7, .one (.int .i64)), (8, .one (.int .i64))]
noncomputable def s171_0 (t1 : Int × List Int × Int × Int × Unit) (rec K : Int × List Int × Int × Int × Unit → Option (Int × Unit)) : Option (Int × Unit) :=
  cond (decide (t1.2.2.2.1 < t1.2.2.1)) (rdL t1.2.1 t1.2.2.2.1 fun d2 => rec ((w64 (t1.1 + d2)), t1.2.1, t1.2.2.1, (w64 (t1.2.2.2.1 + 1)), ())) (K (t1.1, t1.2.1, t1.2.2.1, t1.2.2.2.1, ()))
noncomputable def F171 (a : List Int × Unit) : Option (Int × Unit) :=
  iterF (s171_0) fuel (0, a.1, (Int.ofNat (List.length a.1)), 0, ()) fun t3 => some (t3.1, ())
def E171 : Env := envL []
noncomputable def L171 : LEnv (densS (muts p171 ++ r171)) := lenv [(0, loopL (R := densS (muts p171 ++ r171)) q171_0 (s171_0))]
theorem e171_0 (X : Nat → St → Option (densS (muts p171 ++ r171))) (rec K : densS q171_0 → Option (densS (muts p171 ++ r171))) (t : densS q171_0) :
    ev (E171) tab2 (fun _ => false) (L171) (retK tab2 p171 r171 Proofs.Tryz.f171.results.toList) (loopC Proofs.Tryz.f171 0) (fun i s => cond (Nat.beq i 0) (decK 100 q171_0 s K) (X i s)) (fun s => decK 100 q171_0 s rec) (enc q171_0 t) = s171_0 t rec K := by kernel_rfl
theorem e171 (a : densS p171) : runF (E171) tab2 (fun _ => false) p171 r171 Proofs.Tryz.f171 (L171) a = F171 a := by kernel_rfl
theorem ok171 : OK Proofs.Tryz.prog 171 (mkE p171 r171 false (F171)) :=
  fn_ok tab_ok2 (envL_ok (l := []) OKs.nil) mixed2 (ann := (fun _ => false)) (L := L171) (fn := Proofs.Tryz.f171) (c := bodyC Proofs.Tryz.f171) (ls := [(0, loopC Proofs.Tryz.f171 0)]) Proofs.Tryz.func171 (by kernel_rfl) (by kernel_rfl) (by kernel_rfl) (by kernel_rfl)
    (LoopsP.cons q171_0 (s171_0) rfl (e171_0) LoopsP.nil) (e171)
/-! impl.LevelFor -/
def p169 : List SP := [.one (.int .i64), .one (.r .int)]
def r169 : List SP := [.one (.int .i64)]
def q169_0 : List SP := pat 23 0 [(0, .one (.int .i64)), (1, .one (.r .int)), (5, .one (.int .i64))]
noncomputable def s169_0 (f168 : List Int × Unit → Option (Bool × Unit)) (f134 : Int × Unit → Option (Bool × Unit)) (f170 : List Int × Int × Unit → Option (List Int × Unit)) (f171 : List Int × Unit → Option (Int × Unit)) (t3 : Int × List Int × Int × Unit) (rec K : Int × List Int × Int × Unit → Option (Int × Unit)) : Option (Int × Unit) :=
  (f170 (t3.2.1, t3.2.2.1, ())).bind fun x4 => (f171 (x4.1, ())).bind fun x5 => cond (decide (x5.1 > t3.1)) (rec (t3.1, t3.2.1, (w64 (t3.2.2.1 - 1)), ())) (K (t3.1, t3.2.1, t3.2.2.1, ()))
noncomputable def F169 (f168 : List Int × Unit → Option (Bool × Unit)) (f134 : Int × Unit → Option (Bool × Unit)) (f170 : List Int × Int × Unit → Option (List Int × Unit)) (f171 : List Int × Unit → Option (Int × Unit)) (a : Int × List Int × Unit) : Option (Int × Unit) :=
  (f168 (a.2.1, ())).bind fun x1 => cond (!(!x1.1)) ((f134 (a.1, ())).bind fun x2 => cond (!x2.1) (some (0, ())) (iterF (s169_0 f168 f134 f170 f171) fuel (a.1, a.2.1, 64, ()) fun t6 => some (t6.2.2.1, ()))) (some (0, ()))
def E169 (f168 : List Int × Unit → Option (Bool × Unit)) (f134 : Int × Unit → Option (Bool × Unit)) (f170 : List Int × Int × Unit → Option (List Int × Unit)) (f171 : List Int × Unit → Option (Int × Unit)) : Env := envL [(168, mkE p168 r168 false f168), (134, mkE p134 r134 false f134), (170, mkE p170 r170 false f170), (171, mkE p171 r171 false f171)]
noncomputable def L169 (f168 : List Int × Unit → Option (Bool × Unit)) (f134 : Int × Unit → Option (Bool × Unit)) (f170 : List Int × Int × Unit → Option (List Int × Unit)) (f171 : List Int × Unit → Option (Int × Unit)) : LEnv (densS (muts p169 ++ r169)) := lenv [(0, loopL (R := densS (muts p169 ++ r169)) q169_0 (s169_0 f168 f134 f170 f171))]
theorem e169_0 (f168 : List Int × Unit → Option (Bool × Unit)) (f134 : Int × Unit → Option (Bool × Unit)) (f170 : List Int × Int × Unit → Option (List Int × Unit)) (f171 : List Int × Unit → Option (Int × Unit)) (X : Nat → St → Option (densS (muts p169 ++ r169))) (rec K : densS q169_0 → Option (densS (muts p169 ++ r169))) (t : densS q169_0) :
    ev (E169 f168 f134 f170 f171) tab2 (fun _ => false) (L169 f168 f134 f170 f171) (retK tab2 p169 r169 Proofs.Tryz.f169.results.toList) (loopC Proofs.Tryz.f169 0) (fun i s => cond (Nat.beq i 0) (decK 100 q169_0 s K) (X i s)) (fun s => decK 100 q169_0 s rec) (enc q169_0 t) = s169_0 f168 f134 f170 f171 t rec K := by kernel_rfl
theorem e169 (f168 : List Int × Unit → Option (Bool × Unit)) (f134 : Int × Unit → Option (Bool × Unit)) (f170 : List Int × Int × Unit → Option (List Int × Unit)) (f171 : List Int × Unit → Option (Int × Unit)) (a : densS p169) : runF (E169 f168 f134 f170 f171) tab2 (fun _ => false) p169 r169 Proofs.Tryz.f169 (L169 f168 f134 f170 f171) a = F169 f168 f134 f170 f171 a := by kernel_rfl
theorem ok169 {f168 : List Int × Unit → Option (Bool × Unit)} {f134 : Int × Unit → Option (Bool × Unit)} {f170 : List Int × Int × Unit → Option (List Int × Unit)} {f171 : List Int × Unit → Option (Int × Unit)} (h168 : OK Proofs.Tryz.prog 168 (mkE p168 r168 false f168)) (h134 : OK Proofs.Tryz.prog 134 (mkE p134 r134 false f134)) (h170 : OK Proofs.Tryz.prog 170 (mkE p170 r170 false f170)) (h171 : OK Proofs.Tryz.prog 171 (mkE p171 r171 false f171)) : OK Proofs.Tryz.prog 169 (mkE p169 r169 false (F169 f168 f134 f170 f171)) :=
  fn_ok tab_ok2 (envL_ok (l := [(168, mkE p168 r168 false f168), (134, mkE p134 r134 false f134), (170, mkE p170 r170 false f170), (171, mkE p171 r171 false f171)]) (OKs.cons h168 (OKs.cons h134 (OKs.cons h170 (OKs.cons h171 OKs.nil))))) mixed2 (ann := (fun _ => false)) (L := L169 f168 f134 f170 f171) (fn := Proofs.Tryz.f169) (c := bodyC Proofs.Tryz.f169) (ls := [(0, loopC Proofs.Tryz.f169 0)]) Proofs.Tryz.func169 (by kernel_rfl) (by kernel_rfl) (by kernel_rfl) (by kernel_rfl)
    (LoopsP.cons q169_0 (s169_0 f168 f134 f170 f171) rfl (e169_0 f168 f134 f170 f171) LoopsP.nil) (e169 f168 f134 f170 f171)
/-! impl.ShareOut -/
def p128 : List SP := [.one (.int .i64), .one (.r .int)]
def r128 : List SP := [.one (.o 0 .int)]
def q128_0 : List SP := pat 53 0 [(5, .one (.int .i64)), (6, .one (.o 5000001 .int)), (7, .one (.int .i64)), (29, .one (.r .int)), (30, .one (.int .i64)), (31, .one (.int .i64))]
noncomputable def s128_0 (f168 : List Int × Unit → Option (Bool × Unit)) (f134 : Int × Unit → Option (Bool × Unit)) (f169 : Int × List Int × Unit → Option (Int × Unit)) (f170 : List Int × Int × Unit → Option (List Int × Unit)) (f171 : List Int × Unit → Option (Int × Unit)) (t6 : Int × List Int × Int × List Int × Int × Int × Unit) (rec K : Int × List Int × Int × List Int × Int × Int × Unit → Option (List Int × Unit)) : Option (List Int × Unit) :=
  cond (decide (t6.2.2.2.2.2.1 < t6.2.2.2.2.1)) (rdL t6.2.2.2.1 t6.2.2.2.2.2.1 fun d7 => cond (decide (d7 > t6.1)) (cond (decide (t6.2.2.1 > 0)) (rdL t6.2.1 t6.2.2.2.2.2.1 fun _ => (t6.2.1[(Int.toNat t6.2.2.2.2.2.1)]?).bind fun d8 => rdL t6.2.1 t6.2.2.2.2.2.1 fun _ => (t6.2.1[(Int.toNat t6.2.2.2.2.2.1)]?).bind fun d9 => rec (t6.1, (List.set t6.2.1 (Int.toNat t6.2.2.2.2.2.1) (w64 (d8 + 1))), (w64 (t6.2.2.1 - 1)), t6.2.2.2.1, t6.2.2.2.2.1, (w64 (t6.2.2.2.2.2.1 + 1)), ())) (rec (t6.1, t6.2.1, t6.2.2.1, t6.2.2.2.1, t6.2.2.2.2.1, (w64 (t6.2.2.2.2.2.1 + 1)), ()))) (rec (t6.1, t6.2.1, t6.2.2.1, t6.2.2.2.1, t6.2.2.2.2.1, (w64 (t6.2.2.2.2.2.1 + 1)), ()))) (K (t6.1, t6.2.1, t6.2.2.1, t6.2.2.2.1, t6.2.2.2.2.1, t6.2.2.2.2.2.1, ()))
noncomputable def F128 (f168 : List Int × Unit → Option (Bool × Unit)) (f134 : Int × Unit → Option (Bool × Unit)) (f169 : Int × List Int × Unit → Option (Int × Unit)) (f170 : List Int × Int × Unit → Option (List Int × Unit)) (f171 : List Int × Unit → Option (Int × Unit)) (a : Int × List Int × Unit) : Option (List Int × Unit) :=
  (f168 (a.2.1, ())).bind fun x1 => cond (!(!x1.1)) ((f134 (a.1, ())).bind fun x2 => cond (!x2.1) (some (([] : List Int), ())) ((f169 (a.1, a.2.1, ())).bind fun x3 => (f170 (a.2.1, x3.1, ())).bind fun x4 => (f171 (x4.1, ())).bind fun x5 => iterF (s128_0 f168 f134 f169 f170 f171) fuel (x3.1, x4.1, (w64 (a.1 - x5.1)), a.2.1, (Int.ofNat (List.length a.2.1)), 0, ()) fun t10 => some (t10.2.1, ()))) (some (([] : List Int), ()))
def E128 (f168 : List Int × Unit → Option (Bool × Unit)) (f134 : Int × Unit → Option (Bool × Unit)) (f169 : Int × List Int × Unit → Option (Int × Unit)) (f170 : List Int × Int × Unit → Option (List Int × Unit)) (f171 : List Int × Unit → Option (Int × Unit)) : Env := envL [(168, mkE p168 r168 false f168), (134, mkE p134 r134 false f134), (169, mkE p169 r169 false f169), (170, mkE p170 r170 false f170), (171, mkE p171 r171 false f171)]
noncomputable def L128 (f168 : List Int × Unit → Option (Bool × Unit)) (f134 : Int × Unit → Option (Bool × Unit)) (f169 : Int × List Int × Unit → Option (Int × Unit)) (f170 : List Int × Int × Unit → Option (List Int × Unit)) (f171 : List Int × Unit → Option (Int × Unit)) : LEnv (densS (muts p128 ++ r128)) := lenv [(0, loopL (R := densS (muts p128 ++ r128)) q128_0 (s128_0 f168 f134 f169 f170 f171))]
theorem e128_0 (f168 : List Int × Unit → Option (Bool × Unit)) (f134 : Int × Unit → Option (Bool × Unit)) (f169 : Int × List Int × Unit → Option (Int × Unit)) (f170 : List Int × Int × Unit → Option (List Int × Unit)) (f171 : List Int × Unit → Option (Int × Unit)) (X : Nat → St → Option (densS (muts p128 ++ r128))) (rec K : densS q128_0 → Option (densS (muts p128 ++ r128))) (t : densS q128_0) :
    ev (E128 f168 f134 f169 f170 f171) tab2 (fun _ => false) (L128 f168 f134 f169 f170 f171) (retK tab2 p128 r128 Proofs.Tryz.f128.results.toList) (loopC Proofs.Tryz.f128 0) (fun i s => cond (Nat.beq i 0) (decK 100 q128_0 s K) (X i s)) (fun s => decK 100 q128_0 s rec) (enc q128_0 t) = s128_0 f168 f134 f169 f170 f171 t rec K := by kernel_rfl
theorem e128 (f168 : List Int × Unit → Option (Bool × Unit)) (f134 : Int × Unit → Option (Bool × Unit)) (f169 : Int × List Int × Unit → Option (Int × Unit)) (f170 : List Int × Int × Unit → Option (List Int × Unit)) (f171 : List Int × Unit → Option (Int × Unit)) (a : densS p128) : runF (E128 f168 f134 f169 f170 f171) tab2 (fun _ => false) p128 r128 Proofs.Tryz.f128 (L128 f168 f134 f169 f170 f171) a = F128 f168 f134 f169 f170 f171 a := by kernel_rfl
theorem ok128 {f168 : List Int × Unit → Option (Bool × Unit)} {f134 : Int × Unit → Option (Bool × Unit)} {f169 : Int × List Int × Unit → Option (Int × Unit)} {f170 : List Int × Int × Unit → Option (List Int × Unit)} {f171 : List Int × Unit → Option (Int × Unit)} (h168 : OK Proofs.Tryz.prog 168 (mkE p168 r168 false f168)) (h134 : OK Proofs.Tryz.prog 134 (mkE p134 r134 false f134)) (h169 : OK Proofs.Tryz.prog 169 (mkE p169 r169 false f169)) (h170 : OK Proofs.Tryz.prog 170 (mkE p170 r170 false f170)) (h171 : OK Proofs.Tryz.prog 171 (mkE p171 r171 false f171)) : OK Proofs.Tryz.prog 128 (mkE p128 r128 false (F128 f168 f134 f169 f170 f171)) :=
  fn_ok tab_ok2 (envL_ok (l := [(168, mkE p168 r168 false f168), (134, mkE p134 r134 false f134), (169, mkE p169 r169 false f169), (170, mkE p170 r170 false f170), (171, mkE p171 r171 false f171)]) (OKs.cons h168 (OKs.cons h134 (OKs.cons h169 (OKs.cons h170 (OKs.cons h171 OKs.nil)))))) mixed2 (ann := (fun _ => false)) (L := L128 f168 f134 f169 f170 f171) (fn := Proofs.Tryz.f128) (c := bodyC Proofs.Tryz.f128) (ls := [(0, loopC Proofs.Tryz.f128 0)]) Proofs.Tryz.func128 (by kernel_rfl) (by kernel_rfl) (by kernel_rfl) (by kernel_rfl)
    (LoopsP.cons q128_0 (s128_0 f168 f134 f169 f170 f171) rfl (e128_0 f168 f134 f169 f170 f171) LoopsP.nil) (e128 f168 f134 f169 f170 f171)
/-! impl.LiftsAt -/
def p80 : List SP := [.agg [.r .device, .r .cue, .r .gust, .int .i64], .one (.int .i64)]
def r80 : List SP := [.one (.o 0 .int)]
def q80_2 : List SP := pat 91 0 [(1, .one (.int .i64)), (2, .box 5002001 [.r .device, .r .cue, .r .gust, .int .i64]), (5, .one (.o 5002002 .int)), (7, .boxt 5002003 .device), (8, .one (.o 5002004 .int)), (9, .one (.o 5002005 .int)), (30, .one (.r .device)), (31, .one (.int .i64)), (32, .one (.int .i64)), (42, .one (.r .device)), (43, .one (.int .i64)), (44, .one (.int .i64))]
noncomputable def s80_2 (f12 : ShD × Unit → Option (Bool × Unit)) (f42 : Int × Int × Int × Unit → Option (Bool × Unit)) (f127 : List Cue × Str × Int × Unit → Option (Int × Unit)) (f128 : Int × List Int × Unit → Option (List Int × Unit)) (t5 : Int × ShD × List Int × Device × List Int × List Int × List Device × Int × Int × List Device × Int × Int × Unit) (rec K : Int × ShD × List Int × Device × List Int × List Int × List Device × Int × Int × List Device × Int × Int × Unit → Option (List Int × Unit)) : Option (List Int × Unit) :=
  cond (decide (t5.2.2.2.2.2.2.2.2.2.2.2.1 < t5.2.2.2.2.2.2.2.2.2.2.1)) (rdL t5.2.2.2.2.2.2.2.2.2.1 t5.2.2.2.2.2.2.2.2.2.2.2.1 fun d6 => cond (decide (d6.Line = t5.2.2.2.1.Name)) (capK (List.length t5.2.2.2.2.1 + List.length ([t5.2.2.2.2.2.2.2.2.2.2.2.1] : List Int)) ((f127 (t5.2.1.2.1, d6.Name, t5.1, ())).bind fun x7 => capK (List.length t5.2.2.2.2.2.1 + List.length ([(mn x7.1 d6.Most)] : List Int)) (rec (t5.1, (t5.2.1.1, t5.2.1.2.1, t5.2.1.2.2.1, t5.2.1.2.2.2.1, ()), t5.2.2.1, t5.2.2.2.1, (t5.2.2.2.2.1 ++ ([t5.2.2.2.2.2.2.2.2.2.2.2.1] : List Int)), (t5.2.2.2.2.2.1 ++ ([(mn x7.1 d6.Most)] : List Int)), t5.2.2.2.2.2.2.1, t5.2.2.2.2.2.2.2.1, t5.2.2.2.2.2.2.2.2.1, t5.2.2.2.2.2.2.2.2.2.1, t5.2.2.2.2.2.2.2.2.2.2.1, (w64 (t5.2.2.2.2.2.2.2.2.2.2.2.1 + 1)), ())))) (rec (t5.1, (t5.2.1.1, t5.2.1.2.1, t5.2.1.2.2.1, t5.2.1.2.2.2.1, ()), t5.2.2.1, t5.2.2.2.1, t5.2.2.2.2.1, t5.2.2.2.2.2.1, t5.2.2.2.2.2.2.1, t5.2.2.2.2.2.2.2.1, t5.2.2.2.2.2.2.2.2.1, t5.2.2.2.2.2.2.2.2.2.1, t5.2.2.2.2.2.2.2.2.2.2.1, (w64 (t5.2.2.2.2.2.2.2.2.2.2.2.1 + 1)), ()))) (K (t5.1, (t5.2.1.1, t5.2.1.2.1, t5.2.1.2.2.1, t5.2.1.2.2.2.1, ()), t5.2.2.1, t5.2.2.2.1, t5.2.2.2.2.1, t5.2.2.2.2.2.1, t5.2.2.2.2.2.2.1, t5.2.2.2.2.2.2.2.1, t5.2.2.2.2.2.2.2.2.1, t5.2.2.2.2.2.2.2.2.2.1, t5.2.2.2.2.2.2.2.2.2.2.1, t5.2.2.2.2.2.2.2.2.2.2.2.1, ()))
def q80_4 : List SP := pat 91 0 [(1, .one (.int .i64)), (2, .box 5004001 [.r .device, .r .cue, .r .gust, .int .i64]), (5, .one (.o 5004002 .int)), (8, .one (.o 5004003 .int)), (30, .one (.r .device)), (31, .one (.int .i64)), (32, .one (.int .i64)), (74, .one (.o 5004004 .int)), (75, .one (.int .i64)), (76, .one (.int .i64))]
noncomputable def s80_4 (f12 : ShD × Unit → Option (Bool × Unit)) (f42 : Int × Int × Int × Unit → Option (Bool × Unit)) (f127 : List Cue × Str × Int × Unit → Option (Int × Unit)) (f128 : Int × List Int × Unit → Option (List Int × Unit)) (t10 : Int × ShD × List Int × List Int × List Device × Int × Int × List Int × Int × Int × Unit) (rec K : Int × ShD × List Int × List Int × List Device × Int × Int × List Int × Int × Int × Unit → Option (List Int × Unit)) : Option (List Int × Unit) :=
  cond (decide (t10.2.2.2.2.2.2.2.2.2.1 < t10.2.2.2.2.2.2.2.2.1)) (rdL t10.2.2.2.2.2.2.2.1 t10.2.2.2.2.2.2.2.2.2.1 fun _ => (t10.2.2.2.2.2.2.2.1[(Int.toNat t10.2.2.2.2.2.2.2.2.2.1)]?).bind fun d11 => rdL t10.2.2.2.1 t10.2.2.2.2.2.2.2.2.2.1 fun _ => (t10.2.2.2.1[(Int.toNat t10.2.2.2.2.2.2.2.2.2.1)]?).bind fun d12 => rdL t10.2.2.1 d12 fun _ => (t10.2.2.1[(Int.toNat d12)]?).bind fun d13 => rec (t10.1, (t10.2.1.1, t10.2.1.2.1, t10.2.1.2.2.1, t10.2.1.2.2.2.1, ()), (List.set t10.2.2.1 (Int.toNat d12) d11), t10.2.2.2.1, t10.2.2.2.2.1, t10.2.2.2.2.2.1, t10.2.2.2.2.2.2.1, t10.2.2.2.2.2.2.2.1, t10.2.2.2.2.2.2.2.2.1, (w64 (t10.2.2.2.2.2.2.2.2.2.1 + 1)), ())) (K (t10.1, (t10.2.1.1, t10.2.1.2.1, t10.2.1.2.2.1, t10.2.1.2.2.2.1, ()), t10.2.2.1, t10.2.2.2.1, t10.2.2.2.2.1, t10.2.2.2.2.2.1, t10.2.2.2.2.2.2.1, t10.2.2.2.2.2.2.2.1, t10.2.2.2.2.2.2.2.2.1, t10.2.2.2.2.2.2.2.2.2.1, ()))
def q80_0 : List SP := pat 91 0 [(1, .one (.int .i64)), (2, .box 5000001 [.r .device, .r .cue, .r .gust, .int .i64]), (5, .one (.o 5000002 .int)), (30, .one (.r .device)), (31, .one (.int .i64)), (32, .one (.int .i64))]
noncomputable def s80_0 (f12 : ShD × Unit → Option (Bool × Unit)) (f42 : Int × Int × Int × Unit → Option (Bool × Unit)) (f127 : List Cue × Str × Int × Unit → Option (Int × Unit)) (f128 : Int × List Int × Unit → Option (List Int × Unit)) (t3 : Int × ShD × List Int × List Device × Int × Int × Unit) (rec K : Int × ShD × List Int × List Device × Int × Int × Unit → Option (List Int × Unit)) : Option (List Int × Unit) :=
  cond (decide (t3.2.2.2.2.2.1 < t3.2.2.2.2.1)) (rdL t3.2.2.2.1 t3.2.2.2.2.2.1 fun d4 => cond (!(decide (d4.Kind = 1))) (rec (t3.1, (t3.2.1.1, t3.2.1.2.1, t3.2.1.2.2.1, t3.2.1.2.2.2.1, ()), t3.2.2.1, t3.2.2.2.1, t3.2.2.2.2.1, (w64 (t3.2.2.2.2.2.1 + 1)), ())) (iterF (s80_2 f12 f42 f127 f128) fuel (t3.1, (t3.2.1.1, t3.2.1.2.1, t3.2.1.2.2.1, t3.2.1.2.2.2.1, ()), t3.2.2.1, d4, ([] : List Int), ([] : List Int), t3.2.2.2.1, t3.2.2.2.2.1, t3.2.2.2.2.2.1, t3.2.1.1, (Int.ofNat (List.length t3.2.1.1)), 0, ()) fun t8 => (f128 (t8.2.2.2.1.Most, t8.2.2.2.2.2.1, ())).bind fun x9 => iterF (s80_4 f12 f42 f127 f128) fuel (t8.1, (t8.2.1.1, t8.2.1.2.1, t8.2.1.2.2.1, t8.2.1.2.2.2.1, ()), t8.2.2.1, t8.2.2.2.2.1, t8.2.2.2.2.2.2.1, t8.2.2.2.2.2.2.2.1, t8.2.2.2.2.2.2.2.2.1, x9.1, (Int.ofNat (List.length x9.1)), 0, ()) fun t14 => rec (t14.1, (t14.2.1.1, t14.2.1.2.1, t14.2.1.2.2.1, t14.2.1.2.2.2.1, ()), t14.2.2.1, t14.2.2.2.2.1, t14.2.2.2.2.2.1, (w64 (t14.2.2.2.2.2.2.1 + 1)), ()))) (K (t3.1, (t3.2.1.1, t3.2.1.2.1, t3.2.1.2.2.1, t3.2.1.2.2.2.1, ()), t3.2.2.1, t3.2.2.2.1, t3.2.2.2.2.1, t3.2.2.2.2.2.1, ()))
noncomputable def F80 (f12 : ShD × Unit → Option (Bool × Unit)) (f42 : Int × Int × Int × Unit → Option (Bool × Unit)) (f127 : List Cue × Str × Int × Unit → Option (Int × Unit)) (f128 : Int × List Int × Unit → Option (List Int × Unit)) (a : ShD × Int × Unit) : Option (List Int × Unit) :=
  (f12 ((a.1.1, a.1.2.1, a.1.2.2.1, a.1.2.2.2.1, ()), ())).bind fun x1 => cond (!x1.1) (some (([] : List Int), ())) (okIf ((0 : Int) ≤ (Int.ofNat (List.length a.1.1))) (capK (Int.toNat (Int.ofNat (List.length a.1.1))) ((f42 (a.2.1, 0, (w64 (a.1.2.2.2.1 - 1)), ())).bind fun x2 => cond (!x2.1) (some ((List.replicate (Int.toNat (Int.ofNat (List.length a.1.1))) (Ty.zero .int)), ())) (iterF (s80_0 f12 f42 f127 f128) fuel (a.2.1, (a.1.1, a.1.2.1, a.1.2.2.1, a.1.2.2.2.1, ()), (List.replicate (Int.toNat (Int.ofNat (List.length a.1.1))) (Ty.zero .int)), a.1.1, (Int.ofNat (List.length a.1.1)), 0, ()) fun t15 => some (t15.2.2.1, ())))))
def E80 (f12 : ShD × Unit → Option (Bool × Unit)) (f42 : Int × Int × Int × Unit → Option (Bool × Unit)) (f127 : List Cue × Str × Int × Unit → Option (Int × Unit)) (f128 : Int × List Int × Unit → Option (List Int × Unit)) : Env := envL [(12, mkE p12 r12 false f12), (42, mkE p42 r42 false f42), (127, mkE p127 r127 false f127), (128, mkE p128 r128 false f128)]
noncomputable def L80 (f12 : ShD × Unit → Option (Bool × Unit)) (f42 : Int × Int × Int × Unit → Option (Bool × Unit)) (f127 : List Cue × Str × Int × Unit → Option (Int × Unit)) (f128 : Int × List Int × Unit → Option (List Int × Unit)) : LEnv (densS (muts p80 ++ r80)) := lenv [(0, loopL (R := densS (muts p80 ++ r80)) q80_0 (s80_0 f12 f42 f127 f128)), (2, loopL (R := densS (muts p80 ++ r80)) q80_2 (s80_2 f12 f42 f127 f128)), (4, loopL (R := densS (muts p80 ++ r80)) q80_4 (s80_4 f12 f42 f127 f128))]
theorem e80_0 (f12 : ShD × Unit → Option (Bool × Unit)) (f42 : Int × Int × Int × Unit → Option (Bool × Unit)) (f127 : List Cue × Str × Int × Unit → Option (Int × Unit)) (f128 : Int × List Int × Unit → Option (List Int × Unit)) (X : Nat → St → Option (densS (muts p80 ++ r80))) (rec K : densS q80_0 → Option (densS (muts p80 ++ r80))) (t : densS q80_0) :
    ev (E80 f12 f42 f127 f128) tab2 (fun _ => false) (L80 f12 f42 f127 f128) (retK tab2 p80 r80 Proofs.Tryz.f80.results.toList) (loopC Proofs.Tryz.f80 0) (fun i s => cond (Nat.beq i 0) (decK 100 q80_0 s K) (X i s)) (fun s => decK 100 q80_0 s rec) (enc q80_0 t) = s80_0 f12 f42 f127 f128 t rec K := by kernel_rfl
theorem e80_2 (f12 : ShD × Unit → Option (Bool × Unit)) (f42 : Int × Int × Int × Unit → Option (Bool × Unit)) (f127 : List Cue × Str × Int × Unit → Option (Int × Unit)) (f128 : Int × List Int × Unit → Option (List Int × Unit)) (X : Nat → St → Option (densS (muts p80 ++ r80))) (rec K : densS q80_2 → Option (densS (muts p80 ++ r80))) (t : densS q80_2) :
    ev (E80 f12 f42 f127 f128) tab2 (fun _ => false) (L80 f12 f42 f127 f128) (retK tab2 p80 r80 Proofs.Tryz.f80.results.toList) (loopC Proofs.Tryz.f80 1) (fun i s => cond (Nat.beq i 2) (decK 100 q80_2 s K) (X i s)) (fun s => decK 100 q80_2 s rec) (enc q80_2 t) = s80_2 f12 f42 f127 f128 t rec K := by kernel_rfl
theorem e80_4 (f12 : ShD × Unit → Option (Bool × Unit)) (f42 : Int × Int × Int × Unit → Option (Bool × Unit)) (f127 : List Cue × Str × Int × Unit → Option (Int × Unit)) (f128 : Int × List Int × Unit → Option (List Int × Unit)) (X : Nat → St → Option (densS (muts p80 ++ r80))) (rec K : densS q80_4 → Option (densS (muts p80 ++ r80))) (t : densS q80_4) :
    ev (E80 f12 f42 f127 f128) tab2 (fun _ => false) (L80 f12 f42 f127 f128) (retK tab2 p80 r80 Proofs.Tryz.f80.results.toList) (loopC Proofs.Tryz.f80 2) (fun i s => cond (Nat.beq i 4) (decK 100 q80_4 s K) (X i s)) (fun s => decK 100 q80_4 s rec) (enc q80_4 t) = s80_4 f12 f42 f127 f128 t rec K := by kernel_rfl
theorem e80 (f12 : ShD × Unit → Option (Bool × Unit)) (f42 : Int × Int × Int × Unit → Option (Bool × Unit)) (f127 : List Cue × Str × Int × Unit → Option (Int × Unit)) (f128 : Int × List Int × Unit → Option (List Int × Unit)) (a : densS p80) : runF (E80 f12 f42 f127 f128) tab2 (fun _ => false) p80 r80 Proofs.Tryz.f80 (L80 f12 f42 f127 f128) a = F80 f12 f42 f127 f128 a := by kernel_rfl
theorem ok80 {f12 : ShD × Unit → Option (Bool × Unit)} {f42 : Int × Int × Int × Unit → Option (Bool × Unit)} {f127 : List Cue × Str × Int × Unit → Option (Int × Unit)} {f128 : Int × List Int × Unit → Option (List Int × Unit)} (h12 : OK Proofs.Tryz.prog 12 (mkE p12 r12 false f12)) (h42 : OK Proofs.Tryz.prog 42 (mkE p42 r42 false f42)) (h127 : OK Proofs.Tryz.prog 127 (mkE p127 r127 false f127)) (h128 : OK Proofs.Tryz.prog 128 (mkE p128 r128 false f128)) : OK Proofs.Tryz.prog 80 (mkE p80 r80 false (F80 f12 f42 f127 f128)) :=
  fn_ok tab_ok2 (envL_ok (l := [(12, mkE p12 r12 false f12), (42, mkE p42 r42 false f42), (127, mkE p127 r127 false f127), (128, mkE p128 r128 false f128)]) (OKs.cons h12 (OKs.cons h42 (OKs.cons h127 (OKs.cons h128 OKs.nil))))) mixed2 (ann := (fun _ => false)) (L := L80 f12 f42 f127 f128) (fn := Proofs.Tryz.f80) (c := bodyC Proofs.Tryz.f80) (ls := [(0, loopC Proofs.Tryz.f80 0), (2, loopC Proofs.Tryz.f80 1), (4, loopC Proofs.Tryz.f80 2)]) Proofs.Tryz.func80 (by kernel_rfl) (by kernel_rfl) (by kernel_rfl) (by kernel_rfl)
    (LoopsP.cons q80_0 (s80_0 f12 f42 f127 f128) rfl (e80_0 f12 f42 f127 f128) (LoopsP.cons q80_2 (s80_2 f12 f42 f127 f128) rfl (e80_2 f12 f42 f127 f128) (LoopsP.cons q80_4 (s80_4 f12 f42 f127 f128) rfl (e80_4 f12 f42 f127 f128) LoopsP.nil))) (e80 f12 f42 f127 f128)
/-! impl.throwsOf -/
def p36 : List SP := [.agg [.r .device, .r .cue, .r .gust, .int .i64]]
def r36 : List SP := [.one (.o 0 .throw)]
def q36_2 : List SP := pat 52 0 [(1, .box 5002001 [.r .device, .r .cue, .r .gust, .int .i64]), (3, .one (.o 5002002 .throw)), (4, .one (.int .i64)), (14, .one (.int .i64)), (15, .one (.int .i64)), (20, .one (.o 5002003 .int)), (21, .one (.int .i64)), (22, .one (.int .i64))]
noncomputable def s36_2 (f12 : ShD × Unit → Option (Bool × Unit)) (f80 : ShD × Int × Unit → Option (List Int × Unit)) (t4 : ShD × List Throw × Int × Int × Int × List Int × Int × Int × Unit) (rec K : ShD × List Throw × Int × Int × Int × List Int × Int × Int × Unit → Option (List Throw × Unit)) : Option (List Throw × Unit) :=
  cond (decide (t4.2.2.2.2.2.2.2.1 < t4.2.2.2.2.2.2.1)) (rdL t4.2.2.2.2.2.1 t4.2.2.2.2.2.2.2.1 fun _ => (t4.2.2.2.2.2.1[(Int.toNat t4.2.2.2.2.2.2.2.1)]?).bind fun d5 => cond (decide (d5 > 0)) (rdL t4.1.1 t4.2.2.2.2.2.2.2.1 fun d6 => capK (List.length t4.2.1 + List.length ([(⟨d6.Name, t4.2.2.1, ⟨⟨d6.At.X, d6.At.Y⟩, d6.Heading, d6.Tilt, d5⟩⟩ : Throw)] : List Throw)) (rec ((t4.1.1, t4.1.2.1, t4.1.2.2.1, t4.1.2.2.2.1, ()), (t4.2.1 ++ ([(⟨d6.Name, t4.2.2.1, ⟨⟨d6.At.X, d6.At.Y⟩, d6.Heading, d6.Tilt, d5⟩⟩ : Throw)] : List Throw)), t4.2.2.1, t4.2.2.2.1, t4.2.2.2.2.1, t4.2.2.2.2.2.1, t4.2.2.2.2.2.2.1, (w64 (t4.2.2.2.2.2.2.2.1 + 1)), ()))) (rec ((t4.1.1, t4.1.2.1, t4.1.2.2.1, t4.1.2.2.2.1, ()), t4.2.1, t4.2.2.1, t4.2.2.2.1, t4.2.2.2.2.1, t4.2.2.2.2.2.1, t4.2.2.2.2.2.2.1, (w64 (t4.2.2.2.2.2.2.2.1 + 1)), ()))) (K ((t4.1.1, t4.1.2.1, t4.1.2.2.1, t4.1.2.2.2.1, ()), t4.2.1, t4.2.2.1, t4.2.2.2.1, t4.2.2.2.2.1, t4.2.2.2.2.2.1, t4.2.2.2.2.2.2.1, t4.2.2.2.2.2.2.2.1, ()))
def q36_0 : List SP := pat 52 0 [(1, .box 5000001 [.r .device, .r .cue, .r .gust, .int .i64]), (3, .one (.o 5000002 .throw)), (14, .one (.int .i64)), (15, .one (.int .i64))]
noncomputable def s36_0 (f12 : ShD × Unit → Option (Bool × Unit)) (f80 : ShD × Int × Unit → Option (List Int × Unit)) (t2 : ShD × List Throw × Int × Int × Unit) (rec K : ShD × List Throw × Int × Int × Unit → Option (List Throw × Unit)) : Option (List Throw × Unit) :=
  cond (decide (t2.2.2.2.1 < t2.2.2.1)) ((f80 ((t2.1.1, t2.1.2.1, t2.1.2.2.1, t2.1.2.2.2.1, ()), t2.2.2.2.1, ())).bind fun x3 => iterF (s36_2 f12 f80) fuel ((t2.1.1, t2.1.2.1, t2.1.2.2.1, t2.1.2.2.2.1, ()), t2.2.1, t2.2.2.2.1, t2.2.2.1, t2.2.2.2.1, x3.1, (Int.ofNat (List.length x3.1)), 0, ()) fun t7 => rec ((t7.1.1, t7.1.2.1, t7.1.2.2.1, t7.1.2.2.2.1, ()), t7.2.1, t7.2.2.2.1, (w64 (t7.2.2.2.2.1 + 1)), ())) (K ((t2.1.1, t2.1.2.1, t2.1.2.2.1, t2.1.2.2.2.1, ()), t2.2.1, t2.2.2.1, t2.2.2.2.1, ()))
noncomputable def F36 (f12 : ShD × Unit → Option (Bool × Unit)) (f80 : ShD × Int × Unit → Option (List Int × Unit)) (a : ShD × Unit) : Option (List Throw × Unit) :=
  (f12 ((a.1.1, a.1.2.1, a.1.2.2.1, a.1.2.2.2.1, ()), ())).bind fun x1 => cond (!x1.1) (some (([] : List Throw), ())) (iterF (s36_0 f12 f80) fuel ((a.1.1, a.1.2.1, a.1.2.2.1, a.1.2.2.2.1, ()), ([] : List Throw), a.1.2.2.2.1, 0, ()) fun t8 => some (t8.2.1, ()))
def E36 (f12 : ShD × Unit → Option (Bool × Unit)) (f80 : ShD × Int × Unit → Option (List Int × Unit)) : Env := envL [(12, mkE p12 r12 false f12), (80, mkE p80 r80 false f80)]
noncomputable def L36 (f12 : ShD × Unit → Option (Bool × Unit)) (f80 : ShD × Int × Unit → Option (List Int × Unit)) : LEnv (densS (muts p36 ++ r36)) := lenv [(0, loopL (R := densS (muts p36 ++ r36)) q36_0 (s36_0 f12 f80)), (2, loopL (R := densS (muts p36 ++ r36)) q36_2 (s36_2 f12 f80))]
theorem e36_0 (f12 : ShD × Unit → Option (Bool × Unit)) (f80 : ShD × Int × Unit → Option (List Int × Unit)) (X : Nat → St → Option (densS (muts p36 ++ r36))) (rec K : densS q36_0 → Option (densS (muts p36 ++ r36))) (t : densS q36_0) :
    ev (E36 f12 f80) tab2 (fun _ => false) (L36 f12 f80) (retK tab2 p36 r36 Proofs.Tryz.f36.results.toList) (loopC Proofs.Tryz.f36 0) (fun i s => cond (Nat.beq i 0) (decK 100 q36_0 s K) (X i s)) (fun s => decK 100 q36_0 s rec) (enc q36_0 t) = s36_0 f12 f80 t rec K := by kernel_rfl
theorem e36_2 (f12 : ShD × Unit → Option (Bool × Unit)) (f80 : ShD × Int × Unit → Option (List Int × Unit)) (X : Nat → St → Option (densS (muts p36 ++ r36))) (rec K : densS q36_2 → Option (densS (muts p36 ++ r36))) (t : densS q36_2) :
    ev (E36 f12 f80) tab2 (fun _ => false) (L36 f12 f80) (retK tab2 p36 r36 Proofs.Tryz.f36.results.toList) (loopC Proofs.Tryz.f36 1) (fun i s => cond (Nat.beq i 2) (decK 100 q36_2 s K) (X i s)) (fun s => decK 100 q36_2 s rec) (enc q36_2 t) = s36_2 f12 f80 t rec K := by kernel_rfl
theorem e36 (f12 : ShD × Unit → Option (Bool × Unit)) (f80 : ShD × Int × Unit → Option (List Int × Unit)) (a : densS p36) : runF (E36 f12 f80) tab2 (fun _ => false) p36 r36 Proofs.Tryz.f36 (L36 f12 f80) a = F36 f12 f80 a := by kernel_rfl
theorem ok36 {f12 : ShD × Unit → Option (Bool × Unit)} {f80 : ShD × Int × Unit → Option (List Int × Unit)} (h12 : OK Proofs.Tryz.prog 12 (mkE p12 r12 false f12)) (h80 : OK Proofs.Tryz.prog 80 (mkE p80 r80 false f80)) : OK Proofs.Tryz.prog 36 (mkE p36 r36 false (F36 f12 f80)) :=
  fn_ok tab_ok2 (envL_ok (l := [(12, mkE p12 r12 false f12), (80, mkE p80 r80 false f80)]) (OKs.cons h12 (OKs.cons h80 OKs.nil))) mixed2 (ann := (fun _ => false)) (L := L36 f12 f80) (fn := Proofs.Tryz.f36) (c := bodyC Proofs.Tryz.f36) (ls := [(0, loopC Proofs.Tryz.f36 0), (2, loopC Proofs.Tryz.f36 1)]) Proofs.Tryz.func36 (by kernel_rfl) (by kernel_rfl) (by kernel_rfl) (by kernel_rfl)
    (LoopsP.cons q36_0 (s36_0 f12 f80) rfl (e36_0 f12 f80) (LoopsP.cons q36_2 (s36_2 f12 f80) rfl (e36_2 f12 f80) LoopsP.nil)) (e36 f12 f80)
/-! impl.FlightOf -/
def p81 : List SP := [.t .jet]
def r81 : List SP := [.one (.int .i64)]
noncomputable def F81 (f129 : Jet × Unit → Option (Bool × Unit)) (a : Jet × Unit) : Option (Int × Unit) :=
  (f129 (a.1, ())).bind fun x1 => cond (!x1.1) (some (0, ())) (some ((w64 (a.1.Lift + 1)), ()))
def E81 (f129 : Jet × Unit → Option (Bool × Unit)) : Env := envL [(129, mkE p129 r129 false f129)]
noncomputable def L81 (f129 : Jet × Unit → Option (Bool × Unit)) : LEnv (densS (muts p81 ++ r81)) := lenv []
theorem e81 (f129 : Jet × Unit → Option (Bool × Unit)) (a : densS p81) : runF (E81 f129) tab2 (fun _ => false) p81 r81 Proofs.Tryz.f81 (L81 f129) a = F81 f129 a := by kernel_rfl
theorem ok81 {f129 : Jet × Unit → Option (Bool × Unit)} (h129 : OK Proofs.Tryz.prog 129 (mkE p129 r129 false f129)) : OK Proofs.Tryz.prog 81 (mkE p81 r81 false (F81 f129)) :=
  fn_ok tab_ok2 (envL_ok (l := [(129, mkE p129 r129 false f129)]) (OKs.cons h129 OKs.nil)) mixed2 (ann := (fun _ => false)) (L := L81 f129) (fn := Proofs.Tryz.f81) (c := bodyC Proofs.Tryz.f81) (ls := []) Proofs.Tryz.func81 (by kernel_rfl) (by kernel_rfl) (by kernel_rfl) (by kernel_rfl)
    LoopsP.nil (e81 f129)
/-! (impl.throw).lands -/
def p37 : List SP := [.t .throw]
def r37 : List SP := [.one (.int .i64)]
noncomputable def F37 (f81 : Jet × Unit → Option (Int × Unit)) (a : Throw × Unit) : Option (Int × Unit) :=
  (f81 (a.1.jet, ())).bind fun x1 => some ((w64 (a.1.born + x1.1)), ())
def E37 (f81 : Jet × Unit → Option (Int × Unit)) : Env := envL [(81, mkE p81 r81 false f81)]
noncomputable def L37 (f81 : Jet × Unit → Option (Int × Unit)) : LEnv (densS (muts p37 ++ r37)) := lenv []
theorem e37 (f81 : Jet × Unit → Option (Int × Unit)) (a : densS p37) : runF (E37 f81) tab2 (fun _ => false) p37 r37 Proofs.Tryz.f37 (L37 f81) a = F37 f81 a := by kernel_rfl
theorem ok37 {f81 : Jet × Unit → Option (Int × Unit)} (h81 : OK Proofs.Tryz.prog 81 (mkE p81 r81 false f81)) : OK Proofs.Tryz.prog 37 (mkE p37 r37 false (F37 f81)) :=
  fn_ok tab_ok2 (envL_ok (l := [(81, mkE p81 r81 false f81)]) (OKs.cons h81 OKs.nil)) mixed2 (ann := (fun _ => false)) (L := L37 f81) (fn := Proofs.Tryz.f37) (c := bodyC Proofs.Tryz.f37) (ls := []) Proofs.Tryz.func37 (by kernel_rfl) (by kernel_rfl) (by kernel_rfl) (by kernel_rfl)
    LoopsP.nil (e37 f81)
/-! impl.isInAir -/
def p130 : List SP := [.t .jet, .one (.int .i64)]
def r130 : List SP := [.one (.bool)]
noncomputable def F130 (f129 : Jet × Unit → Option (Bool × Unit)) (f81 : Jet × Unit → Option (Int × Unit)) (f42 : Int × Int × Int × Unit → Option (Bool × Unit)) (a : Jet × Int × Unit) : Option (Bool × Unit) :=
  (f129 (a.1, ())).bind fun x1 => cond x1.1 ((f81 (a.1, ())).bind fun x2 => (f42 (a.2.1, 0, x2.1, ())).bind fun x3 => some (x3.1, ())) (some (false, ()))
def E130 (f129 : Jet × Unit → Option (Bool × Unit)) (f81 : Jet × Unit → Option (Int × Unit)) (f42 : Int × Int × Int × Unit → Option (Bool × Unit)) : Env := envL [(129, mkE p129 r129 false f129), (81, mkE p81 r81 false f81), (42, mkE p42 r42 false f42)]
noncomputable def L130 (f129 : Jet × Unit → Option (Bool × Unit)) (f81 : Jet × Unit → Option (Int × Unit)) (f42 : Int × Int × Int × Unit → Option (Bool × Unit)) : LEnv (densS (muts p130 ++ r130)) := lenv []
theorem e130 (f129 : Jet × Unit → Option (Bool × Unit)) (f81 : Jet × Unit → Option (Int × Unit)) (f42 : Int × Int × Int × Unit → Option (Bool × Unit)) (a : densS p130) : runF (E130 f129 f81 f42) tab2 (fun _ => false) p130 r130 Proofs.Tryz.f130 (L130 f129 f81 f42) a = F130 f129 f81 f42 a := by kernel_rfl
theorem ok130 {f129 : Jet × Unit → Option (Bool × Unit)} {f81 : Jet × Unit → Option (Int × Unit)} {f42 : Int × Int × Int × Unit → Option (Bool × Unit)} (h129 : OK Proofs.Tryz.prog 129 (mkE p129 r129 false f129)) (h81 : OK Proofs.Tryz.prog 81 (mkE p81 r81 false f81)) (h42 : OK Proofs.Tryz.prog 42 (mkE p42 r42 false f42)) : OK Proofs.Tryz.prog 130 (mkE p130 r130 false (F130 f129 f81 f42)) :=
  fn_ok tab_ok2 (envL_ok (l := [(129, mkE p129 r129 false f129), (81, mkE p81 r81 false f81), (42, mkE p42 r42 false f42)]) (OKs.cons h129 (OKs.cons h81 (OKs.cons h42 OKs.nil)))) mixed2 (ann := (fun _ => false)) (L := L130 f129 f81 f42) (fn := Proofs.Tryz.f130) (c := bodyC Proofs.Tryz.f130) (ls := []) Proofs.Tryz.func130 (by kernel_rfl) (by kernel_rfl) (by kernel_rfl) (by kernel_rfl)
    LoopsP.nil (e130 f129 f81 f42)
/-! impl.checked -/
def p172 : List SP := [.t .place]
def r172 : List SP := [.t .place, .one (.bool)]
noncomputable def F172 (f43 : Place × Unit → Option (Bool × Unit)) (a : Place × Unit) : Option (Place × Bool × Unit) :=
  (f43 (a.1, ())).bind fun x1 => cond (!x1.1) (some ((⟨0, 0⟩ : Place), false, ())) (some (a.1, true, ()))
def E172 (f43 : Place × Unit → Option (Bool × Unit)) : Env := envL [(43, mkE p43 r43 false f43)]
noncomputable def L172 (f43 : Place × Unit → Option (Bool × Unit)) : LEnv (densS (muts p172 ++ r172)) := lenv []
theorem e172 (f43 : Place × Unit → Option (Bool × Unit)) (a : densS p172) : runF (E172 f43) tab2 (fun _ => false) p172 r172 Proofs.Tryz.f172 (L172 f43) a = F172 f43 a := by kernel_rfl
theorem ok172 {f43 : Place × Unit → Option (Bool × Unit)} (h43 : OK Proofs.Tryz.prog 43 (mkE p43 r43 false f43)) : OK Proofs.Tryz.prog 172 (mkE p172 r172 false (F172 f43)) :=
  fn_ok tab_ok2 (envL_ok (l := [(43, mkE p43 r43 false f43)]) (OKs.cons h43 OKs.nil)) mixed2 (ann := (fun _ => false)) (L := L172 f43) (fn := Proofs.Tryz.f172) (c := bodyC Proofs.Tryz.f172) (ls := []) Proofs.Tryz.func172 (by kernel_rfl) (by kernel_rfl) (by kernel_rfl) (by kernel_rfl)
    LoopsP.nil (e172 f43)
/-! impl.StepFrom -/
def p131 : List SP := [.t .place, .one (.int .i64), .one (.int .i64)]
def r131 : List SP := [.t .place, .one (.bool)]
noncomputable def F131 (f43 : Place × Unit → Option (Bool × Unit)) (f126 : Int × Unit → Option (Bool × Unit)) (f90 : Int × Unit → Option (Bool × Unit)) (f44 : Place × Int × Unit → Option (Place × Unit)) (f172 : Place × Unit → Option (Place × Bool × Unit)) (a : Place × Int × Int × Unit) : Option (Place × Bool × Unit) :=
  (f43 (a.1, ())).bind fun x1 => cond (!(!x1.1)) ((f126 (a.2.1, ())).bind fun x2 => cond (!(!x2.1)) ((f90 (a.2.2.1, ())).bind fun x3 => cond (!x3.1) (some ((⟨0, 0⟩ : Place), false, ())) ((f44 ((⟨a.2.2.1, 0⟩ : Place), a.2.1, ())).bind fun x4 => (f172 ((⟨(w64 (a.1.X + x4.1.X)), (w64 (a.1.Y + x4.1.Y))⟩ : Place), ())).bind fun x5 => some (x5.1, x5.2.1, ()))) (some ((⟨0, 0⟩ : Place), false, ()))) (some ((⟨0, 0⟩ : Place), false, ()))
def E131 (f43 : Place × Unit → Option (Bool × Unit)) (f126 : Int × Unit → Option (Bool × Unit)) (f90 : Int × Unit → Option (Bool × Unit)) (f44 : Place × Int × Unit → Option (Place × Unit)) (f172 : Place × Unit → Option (Place × Bool × Unit)) : Env := envL [(43, mkE p43 r43 false f43), (126, mkE p126 r126 false f126), (90, mkE p90 r90 false f90), (44, mkE p44 r44 false f44), (172, mkE p172 r172 false f172)]
noncomputable def L131 (f43 : Place × Unit → Option (Bool × Unit)) (f126 : Int × Unit → Option (Bool × Unit)) (f90 : Int × Unit → Option (Bool × Unit)) (f44 : Place × Int × Unit → Option (Place × Unit)) (f172 : Place × Unit → Option (Place × Bool × Unit)) : LEnv (densS (muts p131 ++ r131)) := lenv []
theorem e131 (f43 : Place × Unit → Option (Bool × Unit)) (f126 : Int × Unit → Option (Bool × Unit)) (f90 : Int × Unit → Option (Bool × Unit)) (f44 : Place × Int × Unit → Option (Place × Unit)) (f172 : Place × Unit → Option (Place × Bool × Unit)) (a : densS p131) : runF (E131 f43 f126 f90 f44 f172) tab2 (fun _ => false) p131 r131 Proofs.Tryz.f131 (L131 f43 f126 f90 f44 f172) a = F131 f43 f126 f90 f44 f172 a := by kernel_rfl
theorem ok131 {f43 : Place × Unit → Option (Bool × Unit)} {f126 : Int × Unit → Option (Bool × Unit)} {f90 : Int × Unit → Option (Bool × Unit)} {f44 : Place × Int × Unit → Option (Place × Unit)} {f172 : Place × Unit → Option (Place × Bool × Unit)} (h43 : OK Proofs.Tryz.prog 43 (mkE p43 r43 false f43)) (h126 : OK Proofs.Tryz.prog 126 (mkE p126 r126 false f126)) (h90 : OK Proofs.Tryz.prog 90 (mkE p90 r90 false f90)) (h44 : OK Proofs.Tryz.prog 44 (mkE p44 r44 false f44)) (h172 : OK Proofs.Tryz.prog 172 (mkE p172 r172 false f172)) : OK Proofs.Tryz.prog 131 (mkE p131 r131 false (F131 f43 f126 f90 f44 f172)) :=
  fn_ok tab_ok2 (envL_ok (l := [(43, mkE p43 r43 false f43), (126, mkE p126 r126 false f126), (90, mkE p90 r90 false f90), (44, mkE p44 r44 false f44), (172, mkE p172 r172 false f172)]) (OKs.cons h43 (OKs.cons h126 (OKs.cons h90 (OKs.cons h44 (OKs.cons h172 OKs.nil)))))) mixed2 (ann := (fun _ => false)) (L := L131 f43 f126 f90 f44 f172) (fn := Proofs.Tryz.f131) (c := bodyC Proofs.Tryz.f131) (ls := []) Proofs.Tryz.func131 (by kernel_rfl) (by kernel_rfl) (by kernel_rfl) (by kernel_rfl)
    LoopsP.nil (e131 f43 f126 f90 f44 f172)
/-! impl.PlaceAt -/
def p82 : List SP := [.t .jet, .one (.int .i64)]
def r82 : List SP := [.t .place, .one (.bool)]
noncomputable def F82 (f130 : Jet × Int × Unit → Option (Bool × Unit)) (f131 : Place × Int × Int × Unit → Option (Place × Bool × Unit)) (a : Jet × Int × Unit) : Option (Place × Bool × Unit) :=
  (f130 (a.1, a.2.1, ())).bind fun x1 => cond (!x1.1) (some ((⟨0, 0⟩ : Place), false, ())) ((f131 (a.1.At, a.1.Heading, (w64 (a.2.1 * a.1.Tilt)), ())).bind fun x2 => some (x2.1, x2.2.1, ()))
def E82 (f130 : Jet × Int × Unit → Option (Bool × Unit)) (f131 : Place × Int × Int × Unit → Option (Place × Bool × Unit)) : Env := envL [(130, mkE p130 r130 false f130), (131, mkE p131 r131 false f131)]
noncomputable def L82 (f130 : Jet × Int × Unit → Option (Bool × Unit)) (f131 : Place × Int × Int × Unit → Option (Place × Bool × Unit)) : LEnv (densS (muts p82 ++ r82)) := lenv []
theorem e82 (f130 : Jet × Int × Unit → Option (Bool × Unit)) (f131 : Place × Int × Int × Unit → Option (Place × Bool × Unit)) (a : densS p82) : runF (E82 f130 f131) tab2 (fun _ => false) p82 r82 Proofs.Tryz.f82 (L82 f130 f131) a = F82 f130 f131 a := by kernel_rfl
theorem ok82 {f130 : Jet × Int × Unit → Option (Bool × Unit)} {f131 : Place × Int × Int × Unit → Option (Place × Bool × Unit)} (h130 : OK Proofs.Tryz.prog 130 (mkE p130 r130 false f130)) (h131 : OK Proofs.Tryz.prog 131 (mkE p131 r131 false f131)) : OK Proofs.Tryz.prog 82 (mkE p82 r82 false (F82 f130 f131)) :=
  fn_ok tab_ok2 (envL_ok (l := [(130, mkE p130 r130 false f130), (131, mkE p131 r131 false f131)]) (OKs.cons h130 (OKs.cons h131 OKs.nil))) mixed2 (ann := (fun _ => false)) (L := L82 f130 f131) (fn := Proofs.Tryz.f82) (c := bodyC Proofs.Tryz.f82) (ls := []) Proofs.Tryz.func82 (by kernel_rfl) (by kernel_rfl) (by kernel_rfl) (by kernel_rfl)
    LoopsP.nil (e82 f130 f131)
/-! impl.DriftAt -/
def p132 : List SP := [.one (.r .gust), .one (.int .i64)]
def r132 : List SP := [.t .place]
def q132_0 : List SP := pat 27 0 [(1, .one (.int .i64)), (4, .boxt 5000001 .place), (5, .boxt 5000002 .place), (13, .one (.r .gust)), (14, .one (.int .i64)), (15, .one (.int .i64))]
noncomputable def s132_0 (f41 : List Gust × Unit → Option (Bool × Unit)) (t2 : Int × Place × Place × List Gust × Int × Int × Unit) (rec K : Int × Place × Place × List Gust × Int × Int × Unit → Option (Place × Unit)) : Option (Place × Unit) :=
  cond (decide (t2.2.2.2.2.2.1 < t2.2.2.2.2.1)) (rdL t2.2.2.2.1 t2.2.2.2.2.2.1 fun d3 => cond (decide (d3.From ≤ t2.1)) (rec (t2.1, t2.2.1, d3.Drift, t2.2.2.2.1, t2.2.2.2.2.1, (w64 (t2.2.2.2.2.2.1 + 1)), ())) (rec (t2.1, t2.2.1, t2.2.2.1, t2.2.2.2.1, t2.2.2.2.2.1, (w64 (t2.2.2.2.2.2.1 + 1)), ()))) (K (t2.1, t2.2.1, t2.2.2.1, t2.2.2.2.1, t2.2.2.2.2.1, t2.2.2.2.2.2.1, ()))
noncomputable def F132 (f41 : List Gust × Unit → Option (Bool × Unit)) (a : List Gust × Int × Unit) : Option (Place × Unit) :=
  (f41 (a.1, ())).bind fun x1 => cond (!x1.1) (some ((⟨0, 0⟩ : Place), ())) (iterF (s132_0 f41) fuel (a.2.1, (⟨0, 0⟩ : Place), (⟨0, 0⟩ : Place), a.1, (Int.ofNat (List.length a.1)), 0, ()) fun t4 => some (t4.2.2.1, ()))
def E132 (f41 : List Gust × Unit → Option (Bool × Unit)) : Env := envL [(41, mkE p41 r41 false f41)]
noncomputable def L132 (f41 : List Gust × Unit → Option (Bool × Unit)) : LEnv (densS (muts p132 ++ r132)) := lenv [(0, loopL (R := densS (muts p132 ++ r132)) q132_0 (s132_0 f41))]
theorem e132_0 (f41 : List Gust × Unit → Option (Bool × Unit)) (X : Nat → St → Option (densS (muts p132 ++ r132))) (rec K : densS q132_0 → Option (densS (muts p132 ++ r132))) (t : densS q132_0) :
    ev (E132 f41) tab2 (fun _ => false) (L132 f41) (retK tab2 p132 r132 Proofs.Tryz.f132.results.toList) (loopC Proofs.Tryz.f132 0) (fun i s => cond (Nat.beq i 0) (decK 100 q132_0 s K) (X i s)) (fun s => decK 100 q132_0 s rec) (enc q132_0 t) = s132_0 f41 t rec K := by kernel_rfl
theorem e132 (f41 : List Gust × Unit → Option (Bool × Unit)) (a : densS p132) : runF (E132 f41) tab2 (fun _ => false) p132 r132 Proofs.Tryz.f132 (L132 f41) a = F132 f41 a := by kernel_rfl
theorem ok132 {f41 : List Gust × Unit → Option (Bool × Unit)} (h41 : OK Proofs.Tryz.prog 41 (mkE p41 r41 false f41)) : OK Proofs.Tryz.prog 132 (mkE p132 r132 false (F132 f41)) :=
  fn_ok tab_ok2 (envL_ok (l := [(41, mkE p41 r41 false f41)]) (OKs.cons h41 OKs.nil)) mixed2 (ann := (fun _ => false)) (L := L132 f41) (fn := Proofs.Tryz.f132) (c := bodyC Proofs.Tryz.f132) (ls := [(0, loopC Proofs.Tryz.f132 0)]) Proofs.Tryz.func132 (by kernel_rfl) (by kernel_rfl) (by kernel_rfl) (by kernel_rfl)
    (LoopsP.cons q132_0 (s132_0 f41) rfl (e132_0 f41) LoopsP.nil) (e132 f41)
/-! impl.DriftOver -/
def p83 : List SP := [.one (.r .gust), .one (.int .i64), .one (.int .i64)]
def r83 : List SP := [.t .place, .one (.bool)]
def q83_0 : List SP := pat 50 0 [(0, .one (.r .gust)), (2, .one (.int .i64)), (6, .boxt 5000001 .place), (8, .boxt 5000002 .place), (9, .one (.int .i64))]
noncomputable def s83_0 (f41 : List Gust × Unit → Option (Bool × Unit)) (f132 : List Gust × Int × Unit → Option (Place × Unit)) (t2 : List Gust × Int × Place × Place × Int × Unit) (rec K : List Gust × Int × Place × Place × Int × Unit → Option (Place × Bool × Unit)) : Option (Place × Bool × Unit) :=
  cond (decide (t2.2.2.2.2.1 < t2.2.1)) ((f132 (t2.1, t2.2.2.2.2.1, ())).bind fun x3 => rec (t2.1, t2.2.1, t2.2.2.1, (⟨(w64 (t2.2.2.2.1.X + x3.1.X)), (w64 (t2.2.2.2.1.Y + x3.1.Y))⟩ : Place), (w64 (t2.2.2.2.2.1 + 1)), ())) (K (t2.1, t2.2.1, t2.2.2.1, t2.2.2.2.1, t2.2.2.2.2.1, ()))
noncomputable def F83 (f41 : List Gust × Unit → Option (Bool × Unit)) (f132 : List Gust × Int × Unit → Option (Place × Unit)) (a : List Gust × Int × Int × Unit) : Option (Place × Bool × Unit) :=
  (f41 (a.1, ())).bind fun x1 => cond (!(!x1.1)) (cond (!(decide (a.2.1 < 0))) (cond (!(decide (a.2.2.1 < a.2.1))) (cond (decide (a.2.2.1 > 128)) (some ((⟨0, 0⟩ : Place), false, ())) (iterF (s83_0 f41 f132) fuel (a.1, a.2.2.1, (⟨0, 0⟩ : Place), (⟨0, 0⟩ : Place), a.2.1, ()) fun t4 => some (t4.2.2.2.1, true, ()))) (some ((⟨0, 0⟩ : Place), false, ()))) (some ((⟨0, 0⟩ : Place), false, ()))) (some ((⟨0, 0⟩ : Place), false, ()))
def E83 (f41 : List Gust × Unit → Option (Bool × Unit)) (f132 : List Gust × Int × Unit → Option (Place × Unit)) : Env := envL [(41, mkE p41 r41 false f41), (132, mkE p132 r132 false f132)]
noncomputable def L83 (f41 : List Gust × Unit → Option (Bool × Unit)) (f132 : List Gust × Int × Unit → Option (Place × Unit)) : LEnv (densS (muts p83 ++ r83)) := lenv [(0, loopL (R := densS (muts p83 ++ r83)) q83_0 (s83_0 f41 f132))]
theorem e83_0 (f41 : List Gust × Unit → Option (Bool × Unit)) (f132 : List Gust × Int × Unit → Option (Place × Unit)) (X : Nat → St → Option (densS (muts p83 ++ r83))) (rec K : densS q83_0 → Option (densS (muts p83 ++ r83))) (t : densS q83_0) :
    ev (E83 f41 f132) tab2 (fun _ => false) (L83 f41 f132) (retK tab2 p83 r83 Proofs.Tryz.f83.results.toList) (loopC Proofs.Tryz.f83 0) (fun i s => cond (Nat.beq i 0) (decK 100 q83_0 s K) (X i s)) (fun s => decK 100 q83_0 s rec) (enc q83_0 t) = s83_0 f41 f132 t rec K := by kernel_rfl
theorem e83 (f41 : List Gust × Unit → Option (Bool × Unit)) (f132 : List Gust × Int × Unit → Option (Place × Unit)) (a : densS p83) : runF (E83 f41 f132) tab2 (fun _ => false) p83 r83 Proofs.Tryz.f83 (L83 f41 f132) a = F83 f41 f132 a := by kernel_rfl
theorem ok83 {f41 : List Gust × Unit → Option (Bool × Unit)} {f132 : List Gust × Int × Unit → Option (Place × Unit)} (h41 : OK Proofs.Tryz.prog 41 (mkE p41 r41 false f41)) (h132 : OK Proofs.Tryz.prog 132 (mkE p132 r132 false f132)) : OK Proofs.Tryz.prog 83 (mkE p83 r83 false (F83 f41 f132)) :=
  fn_ok tab_ok2 (envL_ok (l := [(41, mkE p41 r41 false f41), (132, mkE p132 r132 false f132)]) (OKs.cons h41 (OKs.cons h132 OKs.nil))) mixed2 (ann := (fun _ => false)) (L := L83 f41 f132) (fn := Proofs.Tryz.f83) (c := bodyC Proofs.Tryz.f83) (ls := [(0, loopC Proofs.Tryz.f83 0)]) Proofs.Tryz.func83 (by kernel_rfl) (by kernel_rfl) (by kernel_rfl) (by kernel_rfl)
    (LoopsP.cons q83_0 (s83_0 f41 f132) rfl (e83_0 f41 f132) LoopsP.nil) (e83 f41 f132)
/-! impl.HeightAt -/
def p84 : List SP := [.t .jet, .one (.int .i64)]
def r84 : List SP := [.one (.int .i64)]
noncomputable def F84 (f130 : Jet × Int × Unit → Option (Bool × Unit)) (a : Jet × Int × Unit) : Option (Int × Unit) :=
  (f130 (a.1, a.2.1, ())).bind fun x1 => cond (!x1.1) (some (0, ())) (some ((w64 (a.2.1 * (w64 ((w64 (a.1.Lift + 1)) - a.2.1)))), ()))
def E84 (f130 : Jet × Int × Unit → Option (Bool × Unit)) : Env := envL [(130, mkE p130 r130 false f130)]
noncomputable def L84 (f130 : Jet × Int × Unit → Option (Bool × Unit)) : LEnv (densS (muts p84 ++ r84)) := lenv []
theorem e84 (f130 : Jet × Int × Unit → Option (Bool × Unit)) (a : densS p84) : runF (E84 f130) tab2 (fun _ => false) p84 r84 Proofs.Tryz.f84 (L84 f130) a = F84 f130 a := by kernel_rfl
theorem ok84 {f130 : Jet × Int × Unit → Option (Bool × Unit)} (h130 : OK Proofs.Tryz.prog 130 (mkE p130 r130 false f130)) : OK Proofs.Tryz.prog 84 (mkE p84 r84 false (F84 f130)) :=
  fn_ok tab_ok2 (envL_ok (l := [(130, mkE p130 r130 false f130)]) (OKs.cons h130 OKs.nil)) mixed2 (ann := (fun _ => false)) (L := L84 f130) (fn := Proofs.Tryz.f84) (c := bodyC Proofs.Tryz.f84) (ls := []) Proofs.Tryz.func84 (by kernel_rfl) (by kernel_rfl) (by kernel_rfl) (by kernel_rfl)
    LoopsP.nil (e84 f130)
/-! (impl.throw).dropAt -/
def p38 : List SP := [.t .throw, .one (.r .gust), .one (.int .i64)]
def r38 : List SP := [.t .drop]
noncomputable def F38 (f82 : Jet × Int × Unit → Option (Place × Bool × Unit)) (f83 : List Gust × Int × Int × Unit → Option (Place × Bool × Unit)) (f84 : Jet × Int × Unit → Option (Int × Unit)) (a : Throw × List Gust × Int × Unit) : Option (Drop × Unit) :=
  (f82 (a.1.jet, (w64 (a.2.2.1 - a.1.born)), ())).bind fun x1 => (f83 (a.2.1, a.1.born, a.2.2.1, ())).bind fun x2 => (f84 (a.1.jet, (w64 (a.2.2.1 - a.1.born)), ())).bind fun x3 => some ((⟨a.1.name, a.1.born, ⟨(w64 (x1.1.X + x2.1.X)), (w64 (x1.1.Y + x2.1.Y))⟩, x3.1⟩ : Drop), ())
def E38 (f82 : Jet × Int × Unit → Option (Place × Bool × Unit)) (f83 : List Gust × Int × Int × Unit → Option (Place × Bool × Unit)) (f84 : Jet × Int × Unit → Option (Int × Unit)) : Env := envL [(82, mkE p82 r82 false f82), (83, mkE p83 r83 false f83), (84, mkE p84 r84 false f84)]
noncomputable def L38 (f82 : Jet × Int × Unit → Option (Place × Bool × Unit)) (f83 : List Gust × Int × Int × Unit → Option (Place × Bool × Unit)) (f84 : Jet × Int × Unit → Option (Int × Unit)) : LEnv (densS (muts p38 ++ r38)) := lenv []
theorem e38 (f82 : Jet × Int × Unit → Option (Place × Bool × Unit)) (f83 : List Gust × Int × Int × Unit → Option (Place × Bool × Unit)) (f84 : Jet × Int × Unit → Option (Int × Unit)) (a : densS p38) : runF (E38 f82 f83 f84) tab2 (fun _ => false) p38 r38 Proofs.Tryz.f38 (L38 f82 f83 f84) a = F38 f82 f83 f84 a := by kernel_rfl
theorem ok38 {f82 : Jet × Int × Unit → Option (Place × Bool × Unit)} {f83 : List Gust × Int × Int × Unit → Option (Place × Bool × Unit)} {f84 : Jet × Int × Unit → Option (Int × Unit)} (h82 : OK Proofs.Tryz.prog 82 (mkE p82 r82 false f82)) (h83 : OK Proofs.Tryz.prog 83 (mkE p83 r83 false f83)) (h84 : OK Proofs.Tryz.prog 84 (mkE p84 r84 false f84)) : OK Proofs.Tryz.prog 38 (mkE p38 r38 false (F38 f82 f83 f84)) :=
  fn_ok tab_ok2 (envL_ok (l := [(82, mkE p82 r82 false f82), (83, mkE p83 r83 false f83), (84, mkE p84 r84 false f84)]) (OKs.cons h82 (OKs.cons h83 (OKs.cons h84 OKs.nil)))) mixed2 (ann := (fun _ => false)) (L := L38 f82 f83 f84) (fn := Proofs.Tryz.f38) (c := bodyC Proofs.Tryz.f38) (ls := []) Proofs.Tryz.func38 (by kernel_rfl) (by kernel_rfl) (by kernel_rfl) (by kernel_rfl)
    LoopsP.nil (e38 f82 f83 f84)
/-! impl.DropsAt -/
def p10 : List SP := [.agg [.r .device, .r .cue, .r .gust, .int .i64], .one (.int .i64)]
def r10 : List SP := [.one (.o 0 .drop)]
def q10_0 : List SP := pat 36 0 [(1, .one (.int .i64)), (2, .box 5000001 [.r .device, .r .cue, .r .gust, .int .i64]), (5, .one (.o 5000002 .drop)), (10, .one (.o 5000003 .throw)), (11, .one (.int .i64)), (12, .one (.int .i64))]
noncomputable def s10_0 (f36 : ShD × Unit → Option (List Throw × Unit)) (f37 : Throw × Unit → Option (Int × Unit)) (f38 : Throw × List Gust × Int × Unit → Option (Drop × Unit)) (t2 : Int × ShD × List Drop × List Throw × Int × Int × Unit) (rec K : Int × ShD × List Drop × List Throw × Int × Int × Unit → Option (List Drop × Unit)) : Option (List Drop × Unit) :=
  cond (decide (t2.2.2.2.2.2.1 < t2.2.2.2.2.1)) (rdL t2.2.2.2.1 t2.2.2.2.2.2.1 fun _ => (t2.2.2.2.1[(Int.toNat t2.2.2.2.2.2.1)]?).bind fun d3 => cond (decide (d3.born ≤ t2.1)) ((f37 (d3, ())).bind fun x4 => cond (decide (t2.1 < x4.1)) ((f38 (d3, t2.2.1.2.2.1, t2.1, ())).bind fun x5 => capK (List.length t2.2.2.1 + List.length ([x5.1] : List Drop)) (rec (t2.1, (t2.2.1.1, t2.2.1.2.1, t2.2.1.2.2.1, t2.2.1.2.2.2.1, ()), (t2.2.2.1 ++ ([x5.1] : List Drop)), t2.2.2.2.1, t2.2.2.2.2.1, (w64 (t2.2.2.2.2.2.1 + 1)), ()))) (rec (t2.1, (t2.2.1.1, t2.2.1.2.1, t2.2.1.2.2.1, t2.2.1.2.2.2.1, ()), t2.2.2.1, t2.2.2.2.1, t2.2.2.2.2.1, (w64 (t2.2.2.2.2.2.1 + 1)), ()))) (rec (t2.1, (t2.2.1.1, t2.2.1.2.1, t2.2.1.2.2.1, t2.2.1.2.2.2.1, ()), t2.2.2.1, t2.2.2.2.1, t2.2.2.2.2.1, (w64 (t2.2.2.2.2.2.1 + 1)), ()))) (K (t2.1, (t2.2.1.1, t2.2.1.2.1, t2.2.1.2.2.1, t2.2.1.2.2.2.1, ()), t2.2.2.1, t2.2.2.2.1, t2.2.2.2.2.1, t2.2.2.2.2.2.1, ()))
noncomputable def F10 (f36 : ShD × Unit → Option (List Throw × Unit)) (f37 : Throw × Unit → Option (Int × Unit)) (f38 : Throw × List Gust × Int × Unit → Option (Drop × Unit)) (a : ShD × Int × Unit) : Option (List Drop × Unit) :=
  (f36 ((a.1.1, a.1.2.1, a.1.2.2.1, a.1.2.2.2.1, ()), ())).bind fun x1 => iterF (s10_0 f36 f37 f38) fuel (a.2.1, (a.1.1, a.1.2.1, a.1.2.2.1, a.1.2.2.2.1, ()), ([] : List Drop), x1.1, (Int.ofNat (List.length x1.1)), 0, ()) fun t6 => some (t6.2.2.1, ())
def E10 (f36 : ShD × Unit → Option (List Throw × Unit)) (f37 : Throw × Unit → Option (Int × Unit)) (f38 : Throw × List Gust × Int × Unit → Option (Drop × Unit)) : Env := envL [(36, mkE p36 r36 false f36), (37, mkE p37 r37 false f37), (38, mkE p38 r38 false f38)]
noncomputable def L10 (f36 : ShD × Unit → Option (List Throw × Unit)) (f37 : Throw × Unit → Option (Int × Unit)) (f38 : Throw × List Gust × Int × Unit → Option (Drop × Unit)) : LEnv (densS (muts p10 ++ r10)) := lenv [(0, loopL (R := densS (muts p10 ++ r10)) q10_0 (s10_0 f36 f37 f38))]
theorem e10_0 (f36 : ShD × Unit → Option (List Throw × Unit)) (f37 : Throw × Unit → Option (Int × Unit)) (f38 : Throw × List Gust × Int × Unit → Option (Drop × Unit)) (X : Nat → St → Option (densS (muts p10 ++ r10))) (rec K : densS q10_0 → Option (densS (muts p10 ++ r10))) (t : densS q10_0) :
    ev (E10 f36 f37 f38) tab2 (fun _ => false) (L10 f36 f37 f38) (retK tab2 p10 r10 Proofs.Tryz.f10.results.toList) (loopC Proofs.Tryz.f10 0) (fun i s => cond (Nat.beq i 0) (decK 100 q10_0 s K) (X i s)) (fun s => decK 100 q10_0 s rec) (enc q10_0 t) = s10_0 f36 f37 f38 t rec K := by kernel_rfl
theorem e10 (f36 : ShD × Unit → Option (List Throw × Unit)) (f37 : Throw × Unit → Option (Int × Unit)) (f38 : Throw × List Gust × Int × Unit → Option (Drop × Unit)) (a : densS p10) : runF (E10 f36 f37 f38) tab2 (fun _ => false) p10 r10 Proofs.Tryz.f10 (L10 f36 f37 f38) a = F10 f36 f37 f38 a := by kernel_rfl
theorem ok10 {f36 : ShD × Unit → Option (List Throw × Unit)} {f37 : Throw × Unit → Option (Int × Unit)} {f38 : Throw × List Gust × Int × Unit → Option (Drop × Unit)} (h36 : OK Proofs.Tryz.prog 36 (mkE p36 r36 false f36)) (h37 : OK Proofs.Tryz.prog 37 (mkE p37 r37 false f37)) (h38 : OK Proofs.Tryz.prog 38 (mkE p38 r38 false f38)) : OK Proofs.Tryz.prog 10 (mkE p10 r10 false (F10 f36 f37 f38)) :=
  fn_ok tab_ok2 (envL_ok (l := [(36, mkE p36 r36 false f36), (37, mkE p37 r37 false f37), (38, mkE p38 r38 false f38)]) (OKs.cons h36 (OKs.cons h37 (OKs.cons h38 OKs.nil)))) mixed2 (ann := (fun _ => false)) (L := L10 f36 f37 f38) (fn := Proofs.Tryz.f10) (c := bodyC Proofs.Tryz.f10) (ls := [(0, loopC Proofs.Tryz.f10 0)]) Proofs.Tryz.func10 (by kernel_rfl) (by kernel_rfl) (by kernel_rfl) (by kernel_rfl)
    (LoopsP.cons q10_0 (s10_0 f36 f37 f38) rfl (e10_0 f36 f37 f38) LoopsP.nil) (e10 f36 f37 f38)
/-! impl.LandingsOf -/
def p11 : List SP := [.agg [.r .device, .r .cue, .r .gust, .int .i64]]
def r11 : List SP := [.one (.o 0 .drop)]
def q11_0 : List SP := pat 25 0 [(1, .box 5000001 [.r .device, .r .cue, .r .gust, .int .i64]), (3, .one (.o 5000002 .drop)), (8, .one (.o 5000003 .throw)), (9, .one (.int .i64)), (10, .one (.int .i64))]
noncomputable def s11_0 (f36 : ShD × Unit → Option (List Throw × Unit)) (f37 : Throw × Unit → Option (Int × Unit)) (f38 : Throw × List Gust × Int × Unit → Option (Drop × Unit)) (t2 : ShD × List Drop × List Throw × Int × Int × Unit) (rec K : ShD × List Drop × List Throw × Int × Int × Unit → Option (List Drop × Unit)) : Option (List Drop × Unit) :=
  cond (decide (t2.2.2.2.2.1 < t2.2.2.2.1)) (rdL t2.2.2.1 t2.2.2.2.2.1 fun _ => (t2.2.2.1[(Int.toNat t2.2.2.2.2.1)]?).bind fun d3 => (f37 (d3, ())).bind fun x4 => (f38 (d3, t2.1.2.2.1, x4.1, ())).bind fun x5 => capK (List.length t2.2.1 + List.length ([x5.1] : List Drop)) (rec ((t2.1.1, t2.1.2.1, t2.1.2.2.1, t2.1.2.2.2.1, ()), (t2.2.1 ++ ([x5.1] : List Drop)), t2.2.2.1, t2.2.2.2.1, (w64 (t2.2.2.2.2.1 + 1)), ()))) (K ((t2.1.1, t2.1.2.1, t2.1.2.2.1, t2.1.2.2.2.1, ()), t2.2.1, t2.2.2.1, t2.2.2.2.1, t2.2.2.2.2.1, ()))
noncomputable def F11 (f36 : ShD × Unit → Option (List Throw × Unit)) (f37 : Throw × Unit → Option (Int × Unit)) (f38 : Throw × List Gust × Int × Unit → Option (Drop × Unit)) (a : ShD × Unit) : Option (List Drop × Unit) :=
  (f36 ((a.1.1, a.1.2.1, a.1.2.2.1, a.1.2.2.2.1, ()), ())).bind fun x1 => iterF (s11_0 f36 f37 f38) fuel ((a.1.1, a.1.2.1, a.1.2.2.1, a.1.2.2.2.1, ()), ([] : List Drop), x1.1, (Int.ofNat (List.length x1.1)), 0, ()) fun t6 => some (t6.2.1, ())
def E11 (f36 : ShD × Unit → Option (List Throw × Unit)) (f37 : Throw × Unit → Option (Int × Unit)) (f38 : Throw × List Gust × Int × Unit → Option (Drop × Unit)) : Env := envL [(36, mkE p36 r36 false f36), (37, mkE p37 r37 false f37), (38, mkE p38 r38 false f38)]
noncomputable def L11 (f36 : ShD × Unit → Option (List Throw × Unit)) (f37 : Throw × Unit → Option (Int × Unit)) (f38 : Throw × List Gust × Int × Unit → Option (Drop × Unit)) : LEnv (densS (muts p11 ++ r11)) := lenv [(0, loopL (R := densS (muts p11 ++ r11)) q11_0 (s11_0 f36 f37 f38))]
theorem e11_0 (f36 : ShD × Unit → Option (List Throw × Unit)) (f37 : Throw × Unit → Option (Int × Unit)) (f38 : Throw × List Gust × Int × Unit → Option (Drop × Unit)) (X : Nat → St → Option (densS (muts p11 ++ r11))) (rec K : densS q11_0 → Option (densS (muts p11 ++ r11))) (t : densS q11_0) :
    ev (E11 f36 f37 f38) tab2 (fun _ => false) (L11 f36 f37 f38) (retK tab2 p11 r11 Proofs.Tryz.f11.results.toList) (loopC Proofs.Tryz.f11 0) (fun i s => cond (Nat.beq i 0) (decK 100 q11_0 s K) (X i s)) (fun s => decK 100 q11_0 s rec) (enc q11_0 t) = s11_0 f36 f37 f38 t rec K := by kernel_rfl
theorem e11 (f36 : ShD × Unit → Option (List Throw × Unit)) (f37 : Throw × Unit → Option (Int × Unit)) (f38 : Throw × List Gust × Int × Unit → Option (Drop × Unit)) (a : densS p11) : runF (E11 f36 f37 f38) tab2 (fun _ => false) p11 r11 Proofs.Tryz.f11 (L11 f36 f37 f38) a = F11 f36 f37 f38 a := by kernel_rfl
theorem ok11 {f36 : ShD × Unit → Option (List Throw × Unit)} {f37 : Throw × Unit → Option (Int × Unit)} {f38 : Throw × List Gust × Int × Unit → Option (Drop × Unit)} (h36 : OK Proofs.Tryz.prog 36 (mkE p36 r36 false f36)) (h37 : OK Proofs.Tryz.prog 37 (mkE p37 r37 false f37)) (h38 : OK Proofs.Tryz.prog 38 (mkE p38 r38 false f38)) : OK Proofs.Tryz.prog 11 (mkE p11 r11 false (F11 f36 f37 f38)) :=
  fn_ok tab_ok2 (envL_ok (l := [(36, mkE p36 r36 false f36), (37, mkE p37 r37 false f37), (38, mkE p38 r38 false f38)]) (OKs.cons h36 (OKs.cons h37 (OKs.cons h38 OKs.nil)))) mixed2 (ann := (fun _ => false)) (L := L11 f36 f37 f38) (fn := Proofs.Tryz.f11) (c := bodyC Proofs.Tryz.f11) (ls := [(0, loopC Proofs.Tryz.f11 0)]) Proofs.Tryz.func11 (by kernel_rfl) (by kernel_rfl) (by kernel_rfl) (by kernel_rfl)
    (LoopsP.cons q11_0 (s11_0 f36 f37 f38) rfl (e11_0 f36 f37 f38) LoopsP.nil) (e11 f36 f37 f38)
/-! impl.WaterOf -/
def p13 : List SP := [.agg [.r .device, .r .cue, .r .gust, .int .i64]]
def r13 : List SP := [.one (.int .i64)]
def q13_0 : List SP := pat 20 0 [(3, .one (.int .i64)), (7, .one (.o 5000001 .throw)), (8, .one (.int .i64)), (9, .one (.int .i64))]
noncomputable def s13_0 (f36 : ShD × Unit → Option (List Throw × Unit)) (t2 : Int × List Throw × Int × Int × Unit) (rec K : Int × List Throw × Int × Int × Unit → Option (Int × Unit)) : Option (Int × Unit) :=
  cond (decide (t2.2.2.2.1 < t2.2.2.1)) (rdL t2.2.1 t2.2.2.2.1 fun _ => (t2.2.1[(Int.toNat t2.2.2.2.1)]?).bind fun d3 => rec ((w64 (t2.1 + d3.jet.Lift)), t2.2.1, t2.2.2.1, (w64 (t2.2.2.2.1 + 1)), ())) (K (t2.1, t2.2.1, t2.2.2.1, t2.2.2.2.1, ()))
noncomputable def F13 (f36 : ShD × Unit → Option (List Throw × Unit)) (a : ShD × Unit) : Option (Int × Unit) :=
  (f36 ((a.1.1, a.1.2.1, a.1.2.2.1, a.1.2.2.2.1, ()), ())).bind fun x1 => iterF (s13_0 f36) fuel (0, x1.1, (Int.ofNat (List.length x1.1)), 0, ()) fun t4 => some (t4.1, ())
def E13 (f36 : ShD × Unit → Option (List Throw × Unit)) : Env := envL [(36, mkE p36 r36 false f36)]
noncomputable def L13 (f36 : ShD × Unit → Option (List Throw × Unit)) : LEnv (densS (muts p13 ++ r13)) := lenv [(0, loopL (R := densS (muts p13 ++ r13)) q13_0 (s13_0 f36))]
theorem e13_0 (f36 : ShD × Unit → Option (List Throw × Unit)) (X : Nat → St → Option (densS (muts p13 ++ r13))) (rec K : densS q13_0 → Option (densS (muts p13 ++ r13))) (t : densS q13_0) :
    ev (E13 f36) tab2 (fun _ => false) (L13 f36) (retK tab2 p13 r13 Proofs.Tryz.f13.results.toList) (loopC Proofs.Tryz.f13 0) (fun i s => cond (Nat.beq i 0) (decK 100 q13_0 s K) (X i s)) (fun s => decK 100 q13_0 s rec) (enc q13_0 t) = s13_0 f36 t rec K := by kernel_rfl
theorem e13 (f36 : ShD × Unit → Option (List Throw × Unit)) (a : densS p13) : runF (E13 f36) tab2 (fun _ => false) p13 r13 Proofs.Tryz.f13 (L13 f36) a = F13 f36 a := by kernel_rfl
theorem ok13 {f36 : ShD × Unit → Option (List Throw × Unit)} (h36 : OK Proofs.Tryz.prog 36 (mkE p36 r36 false f36)) : OK Proofs.Tryz.prog 13 (mkE p13 r13 false (F13 f36)) :=
  fn_ok tab_ok2 (envL_ok (l := [(36, mkE p36 r36 false f36)]) (OKs.cons h36 OKs.nil)) mixed2 (ann := (fun _ => false)) (L := L13 f36) (fn := Proofs.Tryz.f13) (c := bodyC Proofs.Tryz.f13) (ls := [(0, loopC Proofs.Tryz.f13 0)]) Proofs.Tryz.func13 (by kernel_rfl) (by kernel_rfl) (by kernel_rfl) (by kernel_rfl)
    (LoopsP.cons q13_0 (s13_0 f36) rfl (e13_0 f36) LoopsP.nil) (e13 f36)
/-! impl.TurnPlace -/
def p14 : List SP := [.t .place, .one (.int .i64)]
def r14 : List SP := [.t .place]
noncomputable def F14 (f43 : Place × Unit → Option (Bool × Unit)) (f44 : Place × Int × Unit → Option (Place × Unit)) (a : Place × Int × Unit) : Option (Place × Unit) :=
  (f43 (a.1, ())).bind fun x1 => cond (!x1.1) (some ((⟨0, 0⟩ : Place), ())) ((f44 (a.1, a.2.1, ())).bind fun x2 => some (x2.1, ()))
def E14 (f43 : Place × Unit → Option (Bool × Unit)) (f44 : Place × Int × Unit → Option (Place × Unit)) : Env := envL [(43, mkE p43 r43 false f43), (44, mkE p44 r44 false f44)]
noncomputable def L14 (f43 : Place × Unit → Option (Bool × Unit)) (f44 : Place × Int × Unit → Option (Place × Unit)) : LEnv (densS (muts p14 ++ r14)) := lenv []
theorem e14 (f43 : Place × Unit → Option (Bool × Unit)) (f44 : Place × Int × Unit → Option (Place × Unit)) (a : densS p14) : runF (E14 f43 f44) tab2 (fun _ => false) p14 r14 Proofs.Tryz.f14 (L14 f43 f44) a = F14 f43 f44 a := by kernel_rfl
theorem ok14 {f43 : Place × Unit → Option (Bool × Unit)} {f44 : Place × Int × Unit → Option (Place × Unit)} (h43 : OK Proofs.Tryz.prog 43 (mkE p43 r43 false f43)) (h44 : OK Proofs.Tryz.prog 44 (mkE p44 r44 false f44)) : OK Proofs.Tryz.prog 14 (mkE p14 r14 false (F14 f43 f44)) :=
  fn_ok tab_ok2 (envL_ok (l := [(43, mkE p43 r43 false f43), (44, mkE p44 r44 false f44)]) (OKs.cons h43 (OKs.cons h44 OKs.nil))) mixed2 (ann := (fun _ => false)) (L := L14 f43 f44) (fn := Proofs.Tryz.f14) (c := bodyC Proofs.Tryz.f14) (ls := []) Proofs.Tryz.func14 (by kernel_rfl) (by kernel_rfl) (by kernel_rfl) (by kernel_rfl)
    LoopsP.nil (e14 f43 f44)
/-! laws.FnTurnedShow -/
def p3 : List SP := [.one (.r .u8)]
def r3 : List SP := [.one (.bool)]
def q3_0 : List SP := pat 80 0 [(6, .one (.int .i64)), (8, .one (.o 5000001 .drop)), (9, .one (.o 5000002 .drop)), (10, .one (.int .i64))]
noncomputable def s3_0 (f6 : List Int × Unit → Option (Bool × Unit)) (f7 : List Int × Unit → Option (ShD × Int × Unit)) (f8 : List Int × Unit → Option (ShD × Int × Unit)) (f9 : ShD × Int × Unit → Option (ShD × Unit)) (f10 : ShD × Int × Unit → Option (List Drop × Unit)) (f11 : ShD × Unit → Option (List Drop × Unit)) (f12 : ShD × Unit → Option (Bool × Unit)) (f13 : ShD × Unit → Option (Int × Unit)) (f14 : Place × Int × Unit → Option (Place × Unit)) (t12 : Int × List Drop × List Drop × Int × Unit) (rec K : Int × List Drop × List Drop × Int × Unit → Option (Bool × Unit)) : Option (Bool × Unit) :=
  cond (decide (t12.2.2.2.1 < (Int.ofNat (List.length t12.2.1)))) (rdL t12.2.1 t12.2.2.2.1 fun _ => (t12.2.1[(Int.toNat t12.2.2.2.1)]?).bind fun d13 => rdL t12.2.1 t12.2.2.2.1 fun _ => (t12.2.1[(Int.toNat t12.2.2.2.1)]?).bind fun d14 => (f14 (d14.At, t12.1, ())).bind fun x15 => rdL t12.2.2.1 t12.2.2.2.1 fun _ => (t12.2.2.1[(Int.toNat t12.2.2.2.1)]?).bind fun d16 => cond (!(decide (d16.From = d13.From) && (decide (d16.Born = d13.Born) && (decide (d16.At.X = x15.1.X) && (decide (d16.At.Y = x15.1.Y) && (decide (d16.Height = d13.Height) && true)))))) (some (false, ())) (rec (t12.1, t12.2.1, t12.2.2.1, (w64 (t12.2.2.2.1 + 1)), ()))) (K (t12.1, t12.2.1, t12.2.2.1, t12.2.2.2.1, ()))
noncomputable def F3 (f6 : List Int × Unit → Option (Bool × Unit)) (f7 : List Int × Unit → Option (ShD × Int × Unit)) (f8 : List Int × Unit → Option (ShD × Int × Unit)) (f9 : ShD × Int × Unit → Option (ShD × Unit)) (f10 : ShD × Int × Unit → Option (List Drop × Unit)) (f11 : ShD × Unit → Option (List Drop × Unit)) (f12 : ShD × Unit → Option (Bool × Unit)) (f13 : ShD × Unit → Option (Int × Unit)) (f14 : Place × Int × Unit → Option (Place × Unit)) (a : List Int × Unit) : Option (Bool × Unit) :=
  (f6 (a.1, ())).bind fun x1 => cond x1.1 (some (true, ())) ((f7 (a.1, ())).bind fun x2 => (f8 (a.1, ())).bind fun x3 => (f9 ((x2.1.1, x2.1.2.1, x2.1.2.2.1, x2.1.2.2.2.1, ()), x3.2.1, ())).bind fun x4 => (f10 ((x2.1.1, x2.1.2.1, x2.1.2.2.1, x2.1.2.2.2.1, ()), x2.2.1, ())).bind fun x5 => (f11 ((x2.1.1, x2.1.2.1, x2.1.2.2.1, x2.1.2.2.2.1, ()), ())).bind fun x6 => capK (List.length x5.1 + List.length x6.1) ((f10 ((x4.1.1, x4.1.2.1, x4.1.2.2.1, x4.1.2.2.2.1, ()), x2.2.1, ())).bind fun x7 => (f11 ((x4.1.1, x4.1.2.1, x4.1.2.2.1, x4.1.2.2.2.1, ()), ())).bind fun x8 => capK (List.length x7.1 + List.length x8.1) ((f12 ((x4.1.1, x4.1.2.1, x4.1.2.2.1, x4.1.2.2.2.1, ()), ())).bind fun x9 => cond (!(!x9.1)) (cond (!(!(decide ((Int.ofNat (List.length (x5.1 ++ x6.1))) = (Int.ofNat (List.length (x7.1 ++ x8.1))))))) ((f13 ((x2.1.1, x2.1.2.1, x2.1.2.2.1, x2.1.2.2.2.1, ()), ())).bind fun x10 => (f13 ((x4.1.1, x4.1.2.1, x4.1.2.2.1, x4.1.2.2.2.1, ()), ())).bind fun x11 => cond (!(decide (x10.1 = x11.1))) (some (false, ())) (iterF (s3_0 f6 f7 f8 f9 f10 f11 f12 f13 f14) fuel (x3.2.1, (x5.1 ++ x6.1), (x7.1 ++ x8.1), 0, ()) fun t17 => some (true, ()))) (some (false, ()))) (some (false, ())))))
def E3 (f6 : List Int × Unit → Option (Bool × Unit)) (f7 : List Int × Unit → Option (ShD × Int × Unit)) (f8 : List Int × Unit → Option (ShD × Int × Unit)) (f9 : ShD × Int × Unit → Option (ShD × Unit)) (f10 : ShD × Int × Unit → Option (List Drop × Unit)) (f11 : ShD × Unit → Option (List Drop × Unit)) (f12 : ShD × Unit → Option (Bool × Unit)) (f13 : ShD × Unit → Option (Int × Unit)) (f14 : Place × Int × Unit → Option (Place × Unit)) : Env := envL [(6, mkE p6 r6 false f6), (7, mkE p7 r7 false f7), (8, mkE p8 r8 false f8), (9, mkE p9 r9 false f9), (10, mkE p10 r10 false f10), (11, mkE p11 r11 false f11), (12, mkE p12 r12 false f12), (13, mkE p13 r13 false f13), (14, mkE p14 r14 false f14)]
noncomputable def L3 (f6 : List Int × Unit → Option (Bool × Unit)) (f7 : List Int × Unit → Option (ShD × Int × Unit)) (f8 : List Int × Unit → Option (ShD × Int × Unit)) (f9 : ShD × Int × Unit → Option (ShD × Unit)) (f10 : ShD × Int × Unit → Option (List Drop × Unit)) (f11 : ShD × Unit → Option (List Drop × Unit)) (f12 : ShD × Unit → Option (Bool × Unit)) (f13 : ShD × Unit → Option (Int × Unit)) (f14 : Place × Int × Unit → Option (Place × Unit)) : LEnv (densS (muts p3 ++ r3)) := lenv [(0, loopL (R := densS (muts p3 ++ r3)) q3_0 (s3_0 f6 f7 f8 f9 f10 f11 f12 f13 f14))]
theorem e3_0 (f6 : List Int × Unit → Option (Bool × Unit)) (f7 : List Int × Unit → Option (ShD × Int × Unit)) (f8 : List Int × Unit → Option (ShD × Int × Unit)) (f9 : ShD × Int × Unit → Option (ShD × Unit)) (f10 : ShD × Int × Unit → Option (List Drop × Unit)) (f11 : ShD × Unit → Option (List Drop × Unit)) (f12 : ShD × Unit → Option (Bool × Unit)) (f13 : ShD × Unit → Option (Int × Unit)) (f14 : Place × Int × Unit → Option (Place × Unit)) (X : Nat → St → Option (densS (muts p3 ++ r3))) (rec K : densS q3_0 → Option (densS (muts p3 ++ r3))) (t : densS q3_0) :
    ev (E3 f6 f7 f8 f9 f10 f11 f12 f13 f14) tab2 (fun _ => false) (L3 f6 f7 f8 f9 f10 f11 f12 f13 f14) (retK tab2 p3 r3 Proofs.Tryz.f3.results.toList) (loopC Proofs.Tryz.f3 0) (fun i s => cond (Nat.beq i 0) (decK 100 q3_0 s K) (X i s)) (fun s => decK 100 q3_0 s rec) (enc q3_0 t) = s3_0 f6 f7 f8 f9 f10 f11 f12 f13 f14 t rec K := by kernel_rfl
theorem e3 (f6 : List Int × Unit → Option (Bool × Unit)) (f7 : List Int × Unit → Option (ShD × Int × Unit)) (f8 : List Int × Unit → Option (ShD × Int × Unit)) (f9 : ShD × Int × Unit → Option (ShD × Unit)) (f10 : ShD × Int × Unit → Option (List Drop × Unit)) (f11 : ShD × Unit → Option (List Drop × Unit)) (f12 : ShD × Unit → Option (Bool × Unit)) (f13 : ShD × Unit → Option (Int × Unit)) (f14 : Place × Int × Unit → Option (Place × Unit)) (a : densS p3) : runF (E3 f6 f7 f8 f9 f10 f11 f12 f13 f14) tab2 (fun _ => false) p3 r3 Proofs.Tryz.f3 (L3 f6 f7 f8 f9 f10 f11 f12 f13 f14) a = F3 f6 f7 f8 f9 f10 f11 f12 f13 f14 a := by kernel_rfl
theorem ok3 {f6 : List Int × Unit → Option (Bool × Unit)} {f7 : List Int × Unit → Option (ShD × Int × Unit)} {f8 : List Int × Unit → Option (ShD × Int × Unit)} {f9 : ShD × Int × Unit → Option (ShD × Unit)} {f10 : ShD × Int × Unit → Option (List Drop × Unit)} {f11 : ShD × Unit → Option (List Drop × Unit)} {f12 : ShD × Unit → Option (Bool × Unit)} {f13 : ShD × Unit → Option (Int × Unit)} {f14 : Place × Int × Unit → Option (Place × Unit)} (h6 : OK Proofs.Tryz.prog 6 (mkE p6 r6 false f6)) (h7 : OK Proofs.Tryz.prog 7 (mkE p7 r7 false f7)) (h8 : OK Proofs.Tryz.prog 8 (mkE p8 r8 false f8)) (h9 : OK Proofs.Tryz.prog 9 (mkE p9 r9 false f9)) (h10 : OK Proofs.Tryz.prog 10 (mkE p10 r10 false f10)) (h11 : OK Proofs.Tryz.prog 11 (mkE p11 r11 false f11)) (h12 : OK Proofs.Tryz.prog 12 (mkE p12 r12 false f12)) (h13 : OK Proofs.Tryz.prog 13 (mkE p13 r13 false f13)) (h14 : OK Proofs.Tryz.prog 14 (mkE p14 r14 false f14)) : OK Proofs.Tryz.prog 3 (mkE p3 r3 false (F3 f6 f7 f8 f9 f10 f11 f12 f13 f14)) :=
  fn_ok tab_ok2 (envL_ok (l := [(6, mkE p6 r6 false f6), (7, mkE p7 r7 false f7), (8, mkE p8 r8 false f8), (9, mkE p9 r9 false f9), (10, mkE p10 r10 false f10), (11, mkE p11 r11 false f11), (12, mkE p12 r12 false f12), (13, mkE p13 r13 false f13), (14, mkE p14 r14 false f14)]) (OKs.cons h6 (OKs.cons h7 (OKs.cons h8 (OKs.cons h9 (OKs.cons h10 (OKs.cons h11 (OKs.cons h12 (OKs.cons h13 (OKs.cons h14 OKs.nil)))))))))) mixed2 (ann := (fun _ => false)) (L := L3 f6 f7 f8 f9 f10 f11 f12 f13 f14) (fn := Proofs.Tryz.f3) (c := bodyC Proofs.Tryz.f3) (ls := [(0, loopC Proofs.Tryz.f3 0)]) Proofs.Tryz.func3 (by kernel_rfl) (by kernel_rfl) (by kernel_rfl) (by kernel_rfl)
    (LoopsP.cons q3_0 (s3_0 f6 f7 f8 f9 f10 f11 f12 f13 f14) rfl (e3_0 f6 f7 f8 f9 f10 f11 f12 f13 f14) LoopsP.nil) (e3 f6 f7 f8 f9 f10 f11 f12 f13 f14)
/-! impl.IsBox -/
def p17 : List SP := [.t .box]
def r17 : List SP := [.one (.bool)]
noncomputable def F17 (f43 : Place × Unit → Option (Bool × Unit)) (a : Box × Unit) : Option (Bool × Unit) :=
  (f43 (a.1.Low, ())).bind fun x1 => cond x1.1 ((f43 (a.1.High, ())).bind fun x2 => cond x2.1 (cond (decide (a.1.Low.X ≤ a.1.High.X)) (some ((decide (a.1.Low.Y ≤ a.1.High.Y)), ())) (some (false, ()))) (some (false, ()))) (some (false, ()))
def E17 (f43 : Place × Unit → Option (Bool × Unit)) : Env := envL [(43, mkE p43 r43 false f43)]
noncomputable def L17 (f43 : Place × Unit → Option (Bool × Unit)) : LEnv (densS (muts p17 ++ r17)) := lenv []
theorem e17 (f43 : Place × Unit → Option (Bool × Unit)) (a : densS p17) : runF (E17 f43) tab2 (fun _ => false) p17 r17 Proofs.Tryz.f17 (L17 f43) a = F17 f43 a := by kernel_rfl
theorem ok17 {f43 : Place × Unit → Option (Bool × Unit)} (h43 : OK Proofs.Tryz.prog 43 (mkE p43 r43 false f43)) : OK Proofs.Tryz.prog 17 (mkE p17 r17 false (F17 f43)) :=
  fn_ok tab_ok2 (envL_ok (l := [(43, mkE p43 r43 false f43)]) (OKs.cons h43 OKs.nil)) mixed2 (ann := (fun _ => false)) (L := L17 f43) (fn := Proofs.Tryz.f17) (c := bodyC Proofs.Tryz.f17) (ls := []) Proofs.Tryz.func17 (by kernel_rfl) (by kernel_rfl) (by kernel_rfl) (by kernel_rfl)
    LoopsP.nil (e17 f43)
/-! impl.InBox -/
def p20 : List SP := [.t .box, .t .place]
def r20 : List SP := [.one (.bool)]
noncomputable def F20 (f17 : Box × Unit → Option (Bool × Unit)) (f42 : Int × Int × Int × Unit → Option (Bool × Unit)) (a : Box × Place × Unit) : Option (Bool × Unit) :=
  (f17 (a.1, ())).bind fun x1 => cond x1.1 ((f42 (a.2.1.X, a.1.Low.X, a.1.High.X, ())).bind fun x2 => cond x2.1 ((f42 (a.2.1.Y, a.1.Low.Y, a.1.High.Y, ())).bind fun x3 => some (x3.1, ())) (some (false, ()))) (some (false, ()))
def E20 (f17 : Box × Unit → Option (Bool × Unit)) (f42 : Int × Int × Int × Unit → Option (Bool × Unit)) : Env := envL [(17, mkE p17 r17 false f17), (42, mkE p42 r42 false f42)]
noncomputable def L20 (f17 : Box × Unit → Option (Bool × Unit)) (f42 : Int × Int × Int × Unit → Option (Bool × Unit)) : LEnv (densS (muts p20 ++ r20)) := lenv []
theorem e20 (f17 : Box × Unit → Option (Bool × Unit)) (f42 : Int × Int × Int × Unit → Option (Bool × Unit)) (a : densS p20) : runF (E20 f17 f42) tab2 (fun _ => false) p20 r20 Proofs.Tryz.f20 (L20 f17 f42) a = F20 f17 f42 a := by kernel_rfl
theorem ok20 {f17 : Box × Unit → Option (Bool × Unit)} {f42 : Int × Int × Int × Unit → Option (Bool × Unit)} (h17 : OK Proofs.Tryz.prog 17 (mkE p17 r17 false f17)) (h42 : OK Proofs.Tryz.prog 42 (mkE p42 r42 false f42)) : OK Proofs.Tryz.prog 20 (mkE p20 r20 false (F20 f17 f42)) :=
  fn_ok tab_ok2 (envL_ok (l := [(17, mkE p17 r17 false f17), (42, mkE p42 r42 false f42)]) (OKs.cons h17 (OKs.cons h42 OKs.nil))) mixed2 (ann := (fun _ => false)) (L := L20 f17 f42) (fn := Proofs.Tryz.f20) (c := bodyC Proofs.Tryz.f20) (ls := []) Proofs.Tryz.func20 (by kernel_rfl) (by kernel_rfl) (by kernel_rfl) (by kernel_rfl)
    LoopsP.nil (e20 f17 f42)
/-! impl.WetDrops -/
def p19 : List SP := [.agg [.r .device, .r .cue, .r .gust, .int .i64], .t .box]
def r19 : List SP := [.one (.o 0 .drop)]
def q19_0 : List SP := pat 31 0 [(3, .boxt 5000001 .box), (5, .one (.o 5000002 .drop)), (14, .one (.o 5000003 .drop)), (15, .one (.int .i64)), (16, .one (.int .i64))]
noncomputable def s19_0 (f17 : Box × Unit → Option (Bool × Unit)) (f11 : ShD × Unit → Option (List Drop × Unit)) (f20 : Box × Place × Unit → Option (Bool × Unit)) (t3 : Box × List Drop × List Drop × Int × Int × Unit) (rec K : Box × List Drop × List Drop × Int × Int × Unit → Option (List Drop × Unit)) : Option (List Drop × Unit) :=
  cond (decide (t3.2.2.2.2.1 < t3.2.2.2.1)) (rdL t3.2.2.1 t3.2.2.2.2.1 fun _ => (t3.2.2.1[(Int.toNat t3.2.2.2.2.1)]?).bind fun d4 => (f20 (t3.1, d4.At, ())).bind fun x5 => cond (!x5.1) (capK (List.length t3.2.1 + List.length ([d4] : List Drop)) (rec (t3.1, (t3.2.1 ++ ([d4] : List Drop)), t3.2.2.1, t3.2.2.2.1, (w64 (t3.2.2.2.2.1 + 1)), ()))) (rec (t3.1, t3.2.1, t3.2.2.1, t3.2.2.2.1, (w64 (t3.2.2.2.2.1 + 1)), ()))) (K (t3.1, t3.2.1, t3.2.2.1, t3.2.2.2.1, t3.2.2.2.2.1, ()))
noncomputable def F19 (f17 : Box × Unit → Option (Bool × Unit)) (f11 : ShD × Unit → Option (List Drop × Unit)) (f20 : Box × Place × Unit → Option (Bool × Unit)) (a : ShD × Box × Unit) : Option (List Drop × Unit) :=
  (f17 (a.2.1, ())).bind fun x1 => cond (!x1.1) (some (([] : List Drop), ())) ((f11 ((a.1.1, a.1.2.1, a.1.2.2.1, a.1.2.2.2.1, ()), ())).bind fun x2 => iterF (s19_0 f17 f11 f20) fuel (a.2.1, ([] : List Drop), x2.1, (Int.ofNat (List.length x2.1)), 0, ()) fun t6 => some (t6.2.1, ()))
def E19 (f17 : Box × Unit → Option (Bool × Unit)) (f11 : ShD × Unit → Option (List Drop × Unit)) (f20 : Box × Place × Unit → Option (Bool × Unit)) : Env := envL [(17, mkE p17 r17 false f17), (11, mkE p11 r11 false f11), (20, mkE p20 r20 false f20)]
noncomputable def L19 (f17 : Box × Unit → Option (Bool × Unit)) (f11 : ShD × Unit → Option (List Drop × Unit)) (f20 : Box × Place × Unit → Option (Bool × Unit)) : LEnv (densS (muts p19 ++ r19)) := lenv [(0, loopL (R := densS (muts p19 ++ r19)) q19_0 (s19_0 f17 f11 f20))]
theorem e19_0 (f17 : Box × Unit → Option (Bool × Unit)) (f11 : ShD × Unit → Option (List Drop × Unit)) (f20 : Box × Place × Unit → Option (Bool × Unit)) (X : Nat → St → Option (densS (muts p19 ++ r19))) (rec K : densS q19_0 → Option (densS (muts p19 ++ r19))) (t : densS q19_0) :
    ev (E19 f17 f11 f20) tab2 (fun _ => false) (L19 f17 f11 f20) (retK tab2 p19 r19 Proofs.Tryz.f19.results.toList) (loopC Proofs.Tryz.f19 0) (fun i s => cond (Nat.beq i 0) (decK 100 q19_0 s K) (X i s)) (fun s => decK 100 q19_0 s rec) (enc q19_0 t) = s19_0 f17 f11 f20 t rec K := by kernel_rfl
theorem e19 (f17 : Box × Unit → Option (Bool × Unit)) (f11 : ShD × Unit → Option (List Drop × Unit)) (f20 : Box × Place × Unit → Option (Bool × Unit)) (a : densS p19) : runF (E19 f17 f11 f20) tab2 (fun _ => false) p19 r19 Proofs.Tryz.f19 (L19 f17 f11 f20) a = F19 f17 f11 f20 a := by kernel_rfl
theorem ok19 {f17 : Box × Unit → Option (Bool × Unit)} {f11 : ShD × Unit → Option (List Drop × Unit)} {f20 : Box × Place × Unit → Option (Bool × Unit)} (h17 : OK Proofs.Tryz.prog 17 (mkE p17 r17 false f17)) (h11 : OK Proofs.Tryz.prog 11 (mkE p11 r11 false f11)) (h20 : OK Proofs.Tryz.prog 20 (mkE p20 r20 false f20)) : OK Proofs.Tryz.prog 19 (mkE p19 r19 false (F19 f17 f11 f20)) :=
  fn_ok tab_ok2 (envL_ok (l := [(17, mkE p17 r17 false f17), (11, mkE p11 r11 false f11), (20, mkE p20 r20 false f20)]) (OKs.cons h17 (OKs.cons h11 (OKs.cons h20 OKs.nil)))) mixed2 (ann := (fun _ => false)) (L := L19 f17 f11 f20) (fn := Proofs.Tryz.f19) (c := bodyC Proofs.Tryz.f19) (ls := [(0, loopC Proofs.Tryz.f19 0)]) Proofs.Tryz.func19 (by kernel_rfl) (by kernel_rfl) (by kernel_rfl) (by kernel_rfl)
    (LoopsP.cons q19_0 (s19_0 f17 f11 f20) rfl (e19_0 f17 f11 f20) LoopsP.nil) (e19 f17 f11 f20)
/-! impl.IsDry -/
def p18 : List SP := [.agg [.r .device, .r .cue, .r .gust, .int .i64], .t .box]
def r18 : List SP := [.one (.bool)]
noncomputable def F18 (f12 : ShD × Unit → Option (Bool × Unit)) (f17 : Box × Unit → Option (Bool × Unit)) (f19 : ShD × Box × Unit → Option (List Drop × Unit)) (a : ShD × Box × Unit) : Option (Bool × Unit) :=
  (f12 ((a.1.1, a.1.2.1, a.1.2.2.1, a.1.2.2.2.1, ()), ())).bind fun x1 => cond x1.1 ((f17 (a.2.1, ())).bind fun x2 => cond x2.1 ((f19 ((a.1.1, a.1.2.1, a.1.2.2.1, a.1.2.2.2.1, ()), a.2.1, ())).bind fun x3 => some ((decide ((Int.ofNat (List.length x3.1)) = 0)), ())) (some (false, ()))) (some (false, ()))
def E18 (f12 : ShD × Unit → Option (Bool × Unit)) (f17 : Box × Unit → Option (Bool × Unit)) (f19 : ShD × Box × Unit → Option (List Drop × Unit)) : Env := envL [(12, mkE p12 r12 false f12), (17, mkE p17 r17 false f17), (19, mkE p19 r19 false f19)]
noncomputable def L18 (f12 : ShD × Unit → Option (Bool × Unit)) (f17 : Box × Unit → Option (Bool × Unit)) (f19 : ShD × Box × Unit → Option (List Drop × Unit)) : LEnv (densS (muts p18 ++ r18)) := lenv []
theorem e18 (f12 : ShD × Unit → Option (Bool × Unit)) (f17 : Box × Unit → Option (Bool × Unit)) (f19 : ShD × Box × Unit → Option (List Drop × Unit)) (a : densS p18) : runF (E18 f12 f17 f19) tab2 (fun _ => false) p18 r18 Proofs.Tryz.f18 (L18 f12 f17 f19) a = F18 f12 f17 f19 a := by kernel_rfl
theorem ok18 {f12 : ShD × Unit → Option (Bool × Unit)} {f17 : Box × Unit → Option (Bool × Unit)} {f19 : ShD × Box × Unit → Option (List Drop × Unit)} (h12 : OK Proofs.Tryz.prog 12 (mkE p12 r12 false f12)) (h17 : OK Proofs.Tryz.prog 17 (mkE p17 r17 false f17)) (h19 : OK Proofs.Tryz.prog 19 (mkE p19 r19 false f19)) : OK Proofs.Tryz.prog 18 (mkE p18 r18 false (F18 f12 f17 f19)) :=
  fn_ok tab_ok2 (envL_ok (l := [(12, mkE p12 r12 false f12), (17, mkE p17 r17 false f17), (19, mkE p19 r19 false f19)]) (OKs.cons h12 (OKs.cons h17 (OKs.cons h19 OKs.nil)))) mixed2 (ann := (fun _ => false)) (L := L18 f12 f17 f19) (fn := Proofs.Tryz.f18) (c := bodyC Proofs.Tryz.f18) (ls := []) Proofs.Tryz.func18 (by kernel_rfl) (by kernel_rfl) (by kernel_rfl) (by kernel_rfl)
    LoopsP.nil (e18 f12 f17 f19)
/-! laws.plus -/
def p21 : List SP := [.t .place, .t .place]
def r21 : List SP := [.t .place]
noncomputable def F21 (a : Place × Place × Unit) : Option (Place × Unit) :=
  some ((⟨(w64 (a.1.X + a.2.1.X)), (w64 (a.1.Y + a.2.1.Y))⟩ : Place), ())
def E21 : Env := envL []
noncomputable def L21 : LEnv (densS (muts p21 ++ r21)) := lenv []
theorem e21 (a : densS p21) : runF (E21) tab2 (fun _ => false) p21 r21 Proofs.Tryz.f21 (L21) a = F21 a := by kernel_rfl
theorem ok21 : OK Proofs.Tryz.prog 21 (mkE p21 r21 false (F21)) :=
  fn_ok tab_ok2 (envL_ok (l := []) OKs.nil) mixed2 (ann := (fun _ => false)) (L := L21) (fn := Proofs.Tryz.f21) (c := bodyC Proofs.Tryz.f21) (ls := []) Proofs.Tryz.func21 (by kernel_rfl) (by kernel_rfl) (by kernel_rfl) (by kernel_rfl)
    LoopsP.nil (e21)
/-! laws.FnDryShow -/
def p4 : List SP := [.one (.r .u8)]
def r4 : List SP := [.one (.bool)]
def q4_0 : List SP := pat 80 0 [(3, .box 5000001 [.o 5000002 .device, .o 5000003 .cue, .o 5000004 .gust, .int .i64]), (4, .boxt 5000005 .box), (5, .one (.o 5000006 .drop)), (6, .one (.int .i64))]
noncomputable def s4_0 (f6 : List Int × Unit → Option (Bool × Unit)) (f15 : List Int × Unit → Option (ShD × Box × Unit)) (f12 : ShD × Unit → Option (Bool × Unit)) (f16 : ShD × Unit → Option (Bool × Unit)) (f17 : Box × Unit → Option (Bool × Unit)) (f18 : ShD × Box × Unit → Option (Bool × Unit)) (f19 : ShD × Box × Unit → Option (List Drop × Unit)) (f20 : Box × Place × Unit → Option (Bool × Unit)) (f21 : Place × Place × Unit → Option (Place × Unit)) (t9 : ShD × Box × List Drop × Int × Unit) (rec K : ShD × Box × List Drop × Int × Unit → Option (Bool × Unit)) : Option (Bool × Unit) :=
  cond (decide (t9.2.2.2.1 < (Int.ofNat (List.length t9.2.2.1)))) (rdL t9.2.2.1 t9.2.2.2.1 fun _ => (t9.2.2.1[(Int.toNat t9.2.2.2.1)]?).bind fun d10 => (f20 (t9.2.1, d10.At, ())).bind fun x11 => cond x11.1 (some (false, ())) (rec ((t9.1.1, t9.1.2.1, t9.1.2.2.1, t9.1.2.2.2.1, ()), t9.2.1, t9.2.2.1, (w64 (t9.2.2.2.1 + 1)), ()))) (K ((t9.1.1, t9.1.2.1, t9.1.2.2.1, t9.1.2.2.2.1, ()), t9.2.1, t9.2.2.1, t9.2.2.2.1, ()))
noncomputable def F4 (f6 : List Int × Unit → Option (Bool × Unit)) (f15 : List Int × Unit → Option (ShD × Box × Unit)) (f12 : ShD × Unit → Option (Bool × Unit)) (f16 : ShD × Unit → Option (Bool × Unit)) (f17 : Box × Unit → Option (Bool × Unit)) (f18 : ShD × Box × Unit → Option (Bool × Unit)) (f19 : ShD × Box × Unit → Option (List Drop × Unit)) (f20 : Box × Place × Unit → Option (Bool × Unit)) (f21 : Place × Place × Unit → Option (Place × Unit)) (a : List Int × Unit) : Option (Bool × Unit) :=
  (f6 (a.1, ())).bind fun x1 => cond x1.1 (some (true, ())) ((f15 (a.1, ())).bind fun x2 => (f12 ((x2.1.1, x2.1.2.1, x2.1.2.2.1, x2.1.2.2.2.1, ()), ())).bind fun x3 => (f16 ((x2.1.1, x2.1.2.1, x2.1.2.2.1, x2.1.2.2.2.1, ()), ())).bind fun x4 => cond (!(decide (x3.1 = x4.1))) (some (false, ())) ((f12 ((x2.1.1, x2.1.2.1, x2.1.2.2.1, x2.1.2.2.2.1, ()), ())).bind fun x5 => cond (!(!x5.1)) ((f17 (x2.2.1, ())).bind fun x6 => cond (!x6.1) ((f18 ((x2.1.1, x2.1.2.1, x2.1.2.2.1, x2.1.2.2.2.1, ()), x2.2.1, ())).bind fun x7 => some ((!x7.1), ())) ((f19 ((x2.1.1, x2.1.2.1, x2.1.2.2.1, x2.1.2.2.2.1, ()), x2.2.1, ())).bind fun x8 => iterF (s4_0 f6 f15 f12 f16 f17 f18 f19 f20 f21) fuel ((x2.1.1, x2.1.2.1, x2.1.2.2.1, x2.1.2.2.2.1, ()), x2.2.1, x8.1, 0, ()) fun t12 => (f21 (t12.2.1.Low, (⟨(-1), (-2)⟩ : Place), ())).bind fun x13 => (f21 (t12.2.1.High, (⟨3, 0⟩ : Place), ())).bind fun x14 => (f18 ((t12.1.1, t12.1.2.1, t12.1.2.2.1, t12.1.2.2.2.1, ()), t12.2.1, ())).bind fun x15 => cond (decide (x15.1 = (decide ((Int.ofNat (List.length t12.2.2.1)) = 0)))) ((f18 ((t12.1.1, t12.1.2.1, t12.1.2.2.1, t12.1.2.2.2.1, ()), t12.2.1, ())).bind fun x16 => cond (!(!x16.1)) ((f17 ((⟨⟨x13.1.X, x13.1.Y⟩, ⟨x14.1.X, x14.1.Y⟩⟩ : Box), ())).bind fun x17 => cond (!(!x17.1)) ((f18 ((t12.1.1, t12.1.2.1, t12.1.2.2.1, t12.1.2.2.2.1, ()), (⟨⟨x13.1.X, x13.1.Y⟩, ⟨x14.1.X, x14.1.Y⟩⟩ : Box), ())).bind fun x18 => some (x18.1, ())) (some (true, ()))) (some (true, ()))) (some (false, ())))) ((f18 ((x2.1.1, x2.1.2.1, x2.1.2.2.1, x2.1.2.2.2.1, ()), x2.2.1, ())).bind fun x19 => some ((!x19.1), ()))))
def E4 (f6 : List Int × Unit → Option (Bool × Unit)) (f15 : List Int × Unit → Option (ShD × Box × Unit)) (f12 : ShD × Unit → Option (Bool × Unit)) (f16 : ShD × Unit → Option (Bool × Unit)) (f17 : Box × Unit → Option (Bool × Unit)) (f18 : ShD × Box × Unit → Option (Bool × Unit)) (f19 : ShD × Box × Unit → Option (List Drop × Unit)) (f20 : Box × Place × Unit → Option (Bool × Unit)) (f21 : Place × Place × Unit → Option (Place × Unit)) : Env := envL [(6, mkE p6 r6 false f6), (15, mkE p15 r15 false f15), (12, mkE p12 r12 false f12), (16, mkE p16 r16 false f16), (17, mkE p17 r17 false f17), (18, mkE p18 r18 false f18), (19, mkE p19 r19 false f19), (20, mkE p20 r20 false f20), (21, mkE p21 r21 false f21)]
noncomputable def L4 (f6 : List Int × Unit → Option (Bool × Unit)) (f15 : List Int × Unit → Option (ShD × Box × Unit)) (f12 : ShD × Unit → Option (Bool × Unit)) (f16 : ShD × Unit → Option (Bool × Unit)) (f17 : Box × Unit → Option (Bool × Unit)) (f18 : ShD × Box × Unit → Option (Bool × Unit)) (f19 : ShD × Box × Unit → Option (List Drop × Unit)) (f20 : Box × Place × Unit → Option (Bool × Unit)) (f21 : Place × Place × Unit → Option (Place × Unit)) : LEnv (densS (muts p4 ++ r4)) := lenv [(0, loopL (R := densS (muts p4 ++ r4)) q4_0 (s4_0 f6 f15 f12 f16 f17 f18 f19 f20 f21))]
theorem e4_0 (f6 : List Int × Unit → Option (Bool × Unit)) (f15 : List Int × Unit → Option (ShD × Box × Unit)) (f12 : ShD × Unit → Option (Bool × Unit)) (f16 : ShD × Unit → Option (Bool × Unit)) (f17 : Box × Unit → Option (Bool × Unit)) (f18 : ShD × Box × Unit → Option (Bool × Unit)) (f19 : ShD × Box × Unit → Option (List Drop × Unit)) (f20 : Box × Place × Unit → Option (Bool × Unit)) (f21 : Place × Place × Unit → Option (Place × Unit)) (X : Nat → St → Option (densS (muts p4 ++ r4))) (rec K : densS q4_0 → Option (densS (muts p4 ++ r4))) (t : densS q4_0) :
    ev (E4 f6 f15 f12 f16 f17 f18 f19 f20 f21) tab2 (fun _ => false) (L4 f6 f15 f12 f16 f17 f18 f19 f20 f21) (retK tab2 p4 r4 Proofs.Tryz.f4.results.toList) (loopC Proofs.Tryz.f4 0) (fun i s => cond (Nat.beq i 0) (decK 100 q4_0 s K) (X i s)) (fun s => decK 100 q4_0 s rec) (enc q4_0 t) = s4_0 f6 f15 f12 f16 f17 f18 f19 f20 f21 t rec K := by kernel_rfl
theorem e4 (f6 : List Int × Unit → Option (Bool × Unit)) (f15 : List Int × Unit → Option (ShD × Box × Unit)) (f12 : ShD × Unit → Option (Bool × Unit)) (f16 : ShD × Unit → Option (Bool × Unit)) (f17 : Box × Unit → Option (Bool × Unit)) (f18 : ShD × Box × Unit → Option (Bool × Unit)) (f19 : ShD × Box × Unit → Option (List Drop × Unit)) (f20 : Box × Place × Unit → Option (Bool × Unit)) (f21 : Place × Place × Unit → Option (Place × Unit)) (a : densS p4) : runF (E4 f6 f15 f12 f16 f17 f18 f19 f20 f21) tab2 (fun _ => false) p4 r4 Proofs.Tryz.f4 (L4 f6 f15 f12 f16 f17 f18 f19 f20 f21) a = F4 f6 f15 f12 f16 f17 f18 f19 f20 f21 a := by kernel_rfl
theorem ok4 {f6 : List Int × Unit → Option (Bool × Unit)} {f15 : List Int × Unit → Option (ShD × Box × Unit)} {f12 : ShD × Unit → Option (Bool × Unit)} {f16 : ShD × Unit → Option (Bool × Unit)} {f17 : Box × Unit → Option (Bool × Unit)} {f18 : ShD × Box × Unit → Option (Bool × Unit)} {f19 : ShD × Box × Unit → Option (List Drop × Unit)} {f20 : Box × Place × Unit → Option (Bool × Unit)} {f21 : Place × Place × Unit → Option (Place × Unit)} (h6 : OK Proofs.Tryz.prog 6 (mkE p6 r6 false f6)) (h15 : OK Proofs.Tryz.prog 15 (mkE p15 r15 false f15)) (h12 : OK Proofs.Tryz.prog 12 (mkE p12 r12 false f12)) (h16 : OK Proofs.Tryz.prog 16 (mkE p16 r16 false f16)) (h17 : OK Proofs.Tryz.prog 17 (mkE p17 r17 false f17)) (h18 : OK Proofs.Tryz.prog 18 (mkE p18 r18 false f18)) (h19 : OK Proofs.Tryz.prog 19 (mkE p19 r19 false f19)) (h20 : OK Proofs.Tryz.prog 20 (mkE p20 r20 false f20)) (h21 : OK Proofs.Tryz.prog 21 (mkE p21 r21 false f21)) : OK Proofs.Tryz.prog 4 (mkE p4 r4 false (F4 f6 f15 f12 f16 f17 f18 f19 f20 f21)) :=
  fn_ok tab_ok2 (envL_ok (l := [(6, mkE p6 r6 false f6), (15, mkE p15 r15 false f15), (12, mkE p12 r12 false f12), (16, mkE p16 r16 false f16), (17, mkE p17 r17 false f17), (18, mkE p18 r18 false f18), (19, mkE p19 r19 false f19), (20, mkE p20 r20 false f20), (21, mkE p21 r21 false f21)]) (OKs.cons h6 (OKs.cons h15 (OKs.cons h12 (OKs.cons h16 (OKs.cons h17 (OKs.cons h18 (OKs.cons h19 (OKs.cons h20 (OKs.cons h21 OKs.nil)))))))))) mixed2 (ann := (fun _ => false)) (L := L4 f6 f15 f12 f16 f17 f18 f19 f20 f21) (fn := Proofs.Tryz.f4) (c := bodyC Proofs.Tryz.f4) (ls := [(0, loopC Proofs.Tryz.f4 0)]) Proofs.Tryz.func4 (by kernel_rfl) (by kernel_rfl) (by kernel_rfl) (by kernel_rfl)
    (LoopsP.cons q4_0 (s4_0 f6 f15 f12 f16 f17 f18 f19 f20 f21) rfl (e4_0 f6 f15 f12 f16 f17 f18 f19 f20 f21) LoopsP.nil) (e4 f6 f15 f12 f16 f17 f18 f19 f20 f21)
end Ev
