/- Functions of the program, as the evaluator sees them. -/
import Derived.Test.YtpnlcamcnhpbhaaGreatDoorLib
set_option linter.unusedVariables false
set_option maxRecDepth 100000
namespace Ev
open Go
def tab : Tab := [(3, ⟨1, false, 8, [.int .i64 0], [], .int .i64, false⟩),
  (4, ⟨1, false, 1, [.bool false], [], .bool, false⟩),
  (5, ⟨1, false, 1, [.int .u8 0], [], .int .u8, false⟩),
  (9, ⟨1, false, 16, [.str []], [], .str, false⟩),
  (35, ⟨1, false, 24, [.nils], [], .sl .device, false⟩),
  (36, ⟨1, false, 24, [.nils], [], .sl .cue, false⟩),
  (37, ⟨1, false, 24, [.nils], [], .sl .gust, false⟩),
  (39, ⟨4, true, 80, [.nils, .nils, .nils, .int .i64 0], [(0, 1, false), (1, 1, false), (2, 1, false), (3, 1, false)], .struct, false⟩),
  (41, ⟨1, false, 24, [.nils], [], .sl .place, false⟩),
  (43, ⟨2, true, 16, [.int .i64 0, .int .i64 0], [(0, 1, false), (1, 1, false)], .struct, true⟩),
  (45, ⟨4, true, 32, [.int .i64 0, .int .i64 0, .int .i64 0, .int .i64 0], [(0, 2, true), (2, 2, true)], .struct, false⟩),
  (50, ⟨1, false, 24, [.nils], [], .sl .u8, false⟩),
  (64, ⟨5, true, 40, [.int .i64 0, .int .i64 0, .int .i64 0, .int .i64 0, .int .i64 0], [(0, 2, true), (2, 1, false), (3, 1, false), (4, 1, false)], .struct, false⟩),
  (66, ⟨7, true, 64, [.str [], .int .i64 0, .int .i64 0, .int .i64 0, .int .i64 0, .int .i64 0, .int .i64 0], [(0, 1, false), (1, 1, false), (2, 5, true)], .struct, false⟩),
  (81, ⟨7, true, 64, [.str [], .int .i64 0, .int .i64 0, .int .i64 0, .int .i64 0, .int .i64 0, .int .i64 0], [(0, 1, false), (1, 1, false), (2, 5, true)], .struct, false⟩),
  (90, ⟨3, true, 24, [.int .i64 0, .int .i64 0, .int .i64 0], [(0, 1, false), (1, 2, true)], .struct, false⟩),
  (106, ⟨1, false, 24, [.nils], [], .sl .throw, false⟩),
  (114, ⟨8, true, 80, [.str [], .int .i64 0, .str [], .int .i64 0, .int .i64 0, .int .i64 0, .int .i64 0, .int .i64 0], [(0, 1, false), (1, 1, false), (2, 1, false), (3, 2, true), (5, 1, false), (6, 1, false), (7, 1, false)], .struct, true⟩),
  (116, ⟨4, true, 40, [.int .i64 0, .str [], .int .i64 0, .int .i64 0], [(0, 1, false), (1, 1, false), (2, 1, false), (3, 1, false)], .struct, false⟩),
  (121, ⟨1, false, 24, [.nils], [], .sl .throw, false⟩),
  (138, ⟨1, false, 24, [.nils], [], .sl .int, false⟩),
  (141, ⟨1, false, 24, [.nils], [], .sl .bool, false⟩),
  (144, ⟨1, false, 24, [.nils], [], .sl .str, false⟩)]
theorem tab_ok : TabOK Proofs.Tryz.prog tab := tab_of2 (by kernel_rfl) (by kernel_rfl)
theorem mixed : Proofs.Tryz.prog.follows .mixedOrders = true := by kernel_rfl
/-! spec.IsName -/
def p129 : List SP := [.one (.str)]
def r129 : List SP := [.one (.bool)]
def q129_0 : List SP := pat 50 0 [(0, .one (.str)), (3, .one (.int .i64))]
noncomputable def s129_0 (t1 : Str × Int × Unit) (rec K : Str × Int × Unit → Option (Bool × Unit)) : Option (Bool × Unit) :=
  cond (decide (t1.2.1 < (Int.ofNat (List.length t1.1)))) (rdL t1.1 t1.2.1 fun d2 => cond (decide ((Int.ofNat (UInt8.toNat d2)) ≥ 97)) (rdL t1.1 t1.2.1 fun d3 => rdL t1.1 t1.2.1 fun d4 => cond (decide ((Int.ofNat (UInt8.toNat d4)) ≥ 48)) (rdL t1.1 t1.2.1 fun d5 => cond (!(decide ((Int.ofNat (UInt8.toNat d3)) ≤ 122))) (cond (!(!(decide ((Int.ofNat (UInt8.toNat d5)) ≤ 57)))) (cond (decide (t1.2.1 = 0)) (some (false, ())) (rec (t1.1, (w64 (t1.2.1 + 1)), ()))) (some (false, ()))) (rec (t1.1, (w64 (t1.2.1 + 1)), ()))) (cond (!(decide ((Int.ofNat (UInt8.toNat d3)) ≤ 122))) (some (false, ())) (rec (t1.1, (w64 (t1.2.1 + 1)), ())))) (rdL t1.1 t1.2.1 fun d6 => cond (decide ((Int.ofNat (UInt8.toNat d6)) ≥ 48)) (rdL t1.1 t1.2.1 fun d7 => cond (!(!(decide ((Int.ofNat (UInt8.toNat d7)) ≤ 57)))) (cond (decide (t1.2.1 = 0)) (some (false, ())) (rec (t1.1, (w64 (t1.2.1 + 1)), ()))) (some (false, ()))) (some (false, ())))) (K (t1.1, t1.2.1, ()))
noncomputable def F129 (a : Str × Unit) : Option (Bool × Unit) :=
  iterF (s129_0) fuel (a.1, 0, ()) fun t8 => cond (decide ((Int.ofNat (List.length t8.1)) > 0)) (some ((decide ((Int.ofNat (List.length t8.1)) ≤ 8)), ())) (some (false, ()))
def E129 : Env := envL []
noncomputable def L129 : LEnv (densS (muts p129 ++ r129)) := lenv [(0, loopL (R := densS (muts p129 ++ r129)) q129_0 (s129_0))]
theorem e129_0 (X : Nat → St → Option (densS (muts p129 ++ r129))) (rec K : densS q129_0 → Option (densS (muts p129 ++ r129))) (t : densS q129_0) :
    ev (E129) tab (fun _ => false) (L129) (retK tab p129 r129 Proofs.Tryz.f129.results.toList) (loopC Proofs.Tryz.f129 0) (fun i s => cond (Nat.beq i 0) (decK 100 q129_0 s K) (X i s)) (fun s => decK 100 q129_0 s rec) (enc q129_0 t) = s129_0 t rec K := by kernel_rfl
theorem e129 (a : densS p129) : runF (E129) tab (fun _ => false) p129 r129 Proofs.Tryz.f129 (L129) a = F129 a := by kernel_rfl
theorem ok129 : OK Proofs.Tryz.prog 129 (mkE p129 r129 false (F129)) :=
  fn_ok tab_ok (envL_ok (l := []) OKs.nil) mixed (ann := (fun _ => false)) (L := L129) (fn := Proofs.Tryz.f129) (c := bodyC Proofs.Tryz.f129) (ls := [(0, loopC Proofs.Tryz.f129 0)]) Proofs.Tryz.func129 (by kernel_rfl) (by kernel_rfl) (by kernel_rfl) (by kernel_rfl)
    (LoopsP.cons q129_0 (s129_0) rfl (e129_0) LoopsP.nil) (e129)
/-! spec.l1In -/
def p54 : List SP := [.one (.int .i64), .one (.int .i64), .one (.int .i64)]
def r54 : List SP := [.one (.bool)]
noncomputable def F54 (a : Int × Int × Int × Unit) : Option (Bool × Unit) :=
  cond (decide (a.1 ≥ a.2.1)) (some ((decide (a.1 ≤ a.2.2.1)), ())) (some (false, ()))
def E54 : Env := envL []
noncomputable def L54 : LEnv (densS (muts p54 ++ r54)) := lenv []
theorem e54 (a : densS p54) : runF (E54) tab (fun _ => false) p54 r54 Proofs.Tryz.f54 (L54) a = F54 a := by kernel_rfl
theorem ok54 : OK Proofs.Tryz.prog 54 (mkE p54 r54 false (F54)) :=
  fn_ok tab_ok (envL_ok (l := []) OKs.nil) mixed (ann := (fun _ => false)) (L := L54) (fn := Proofs.Tryz.f54) (c := bodyC Proofs.Tryz.f54) (ls := []) Proofs.Tryz.func54 (by kernel_rfl) (by kernel_rfl) (by kernel_rfl) (by kernel_rfl)
    LoopsP.nil (e54)
/-! spec.l5Supply -/
def p130 : List SP := [.one (.int .i64)]
def r130 : List SP := [.one (.bool)]
noncomputable def F130 (f54 : Int × Int × Int × Unit → Option (Bool × Unit)) (a : Int × Unit) : Option (Bool × Unit) :=
  (f54 (a.1, 0, 512, ())).bind fun x1 => some (x1.1, ())
def E130 (f54 : Int × Int × Int × Unit → Option (Bool × Unit)) : Env := envL [(54, mkE p54 r54 false f54)]
noncomputable def L130 (f54 : Int × Int × Int × Unit → Option (Bool × Unit)) : LEnv (densS (muts p130 ++ r130)) := lenv []
theorem e130 (f54 : Int × Int × Int × Unit → Option (Bool × Unit)) (a : densS p130) : runF (E130 f54) tab (fun _ => false) p130 r130 Proofs.Tryz.f130 (L130 f54) a = F130 f54 a := by kernel_rfl
theorem ok130 {f54 : Int × Int × Int × Unit → Option (Bool × Unit)} (h54 : OK Proofs.Tryz.prog 54 (mkE p54 r54 false f54)) : OK Proofs.Tryz.prog 130 (mkE p130 r130 false (F130 f54)) :=
  fn_ok tab_ok (envL_ok (l := [(54, mkE p54 r54 false f54)]) (OKs.cons h54 OKs.nil)) mixed (ann := (fun _ => false)) (L := L130 f54) (fn := Proofs.Tryz.f130) (c := bodyC Proofs.Tryz.f130) (ls := []) Proofs.Tryz.func130 (by kernel_rfl) (by kernel_rfl) (by kernel_rfl) (by kernel_rfl)
    LoopsP.nil (e130 f54)
/-! spec.IsHeading -/
def p60 : List SP := [.one (.int .i64)]
def r60 : List SP := [.one (.bool)]
noncomputable def F60 (a : Int × Unit) : Option (Bool × Unit) :=
  cond (decide (a.1 ≥ 0)) (some ((decide (a.1 ≤ 3)), ())) (some (false, ()))
def E60 : Env := envL []
noncomputable def L60 : LEnv (densS (muts p60 ++ r60)) := lenv []
theorem e60 (a : densS p60) : runF (E60) tab (fun _ => false) p60 r60 Proofs.Tryz.f60 (L60) a = F60 a := by kernel_rfl
theorem ok60 : OK Proofs.Tryz.prog 60 (mkE p60 r60 false (F60)) :=
  fn_ok tab_ok (envL_ok (l := []) OKs.nil) mixed (ann := (fun _ => false)) (L := L60) (fn := Proofs.Tryz.f60) (c := bodyC Proofs.Tryz.f60) (ls := []) Proofs.Tryz.func60 (by kernel_rfl) (by kernel_rfl) (by kernel_rfl) (by kernel_rfl)
    LoopsP.nil (e60)
/-! spec.IsJet -/
def p63 : List SP := [.t .jet]
def r63 : List SP := [.one (.bool)]
noncomputable def F63 (f54 : Int × Int × Int × Unit → Option (Bool × Unit)) (f60 : Int × Unit → Option (Bool × Unit)) (a : Jet × Unit) : Option (Bool × Unit) :=
  (f54 (a.1.At.X, (-1024), 1024, ())).bind fun x1 => cond x1.1 ((f54 (a.1.At.Y, (-1024), 1024, ())).bind fun x2 => cond x2.1 ((f60 (a.1.Heading, ())).bind fun x3 => cond x3.1 ((f54 (a.1.Tilt, 0, 16, ())).bind fun x4 => cond x4.1 ((f54 (a.1.Lift, 1, 32, ())).bind fun x5 => some (x5.1, ())) (some (false, ()))) (some (false, ()))) (some (false, ()))) (some (false, ()))
def E63 (f54 : Int × Int × Int × Unit → Option (Bool × Unit)) (f60 : Int × Unit → Option (Bool × Unit)) : Env := envL [(54, mkE p54 r54 false f54), (60, mkE p60 r60 false f60)]
noncomputable def L63 (f54 : Int × Int × Int × Unit → Option (Bool × Unit)) (f60 : Int × Unit → Option (Bool × Unit)) : LEnv (densS (muts p63 ++ r63)) := lenv []
theorem e63 (f54 : Int × Int × Int × Unit → Option (Bool × Unit)) (f60 : Int × Unit → Option (Bool × Unit)) (a : densS p63) : runF (E63 f54 f60) tab (fun _ => false) p63 r63 Proofs.Tryz.f63 (L63 f54 f60) a = F63 f54 f60 a := by kernel_rfl
theorem ok63 {f54 : Int × Int × Int × Unit → Option (Bool × Unit)} {f60 : Int × Unit → Option (Bool × Unit)} (h54 : OK Proofs.Tryz.prog 54 (mkE p54 r54 false f54)) (h60 : OK Proofs.Tryz.prog 60 (mkE p60 r60 false f60)) : OK Proofs.Tryz.prog 63 (mkE p63 r63 false (F63 f54 f60)) :=
  fn_ok tab_ok (envL_ok (l := [(54, mkE p54 r54 false f54), (60, mkE p60 r60 false f60)]) (OKs.cons h54 (OKs.cons h60 OKs.nil))) mixed (ann := (fun _ => false)) (L := L63 f54 f60) (fn := Proofs.Tryz.f63) (c := bodyC Proofs.Tryz.f63) (ls := []) Proofs.Tryz.func63 (by kernel_rfl) (by kernel_rfl) (by kernel_rfl) (by kernel_rfl)
    LoopsP.nil (e63 f54 f60)
/-! spec.l6Jet -/
def p131 : List SP := [.t .device]
def r131 : List SP := [.one (.bool)]
noncomputable def F131 (f63 : Jet × Unit → Option (Bool × Unit)) (a : Device × Unit) : Option (Bool × Unit) :=
  (f63 ((⟨⟨a.1.At.X, a.1.At.Y⟩, a.1.Heading, a.1.Tilt, 1⟩ : Jet), ())).bind fun x1 => some (x1.1, ())
def E131 (f63 : Jet × Unit → Option (Bool × Unit)) : Env := envL [(63, mkE p63 r63 false f63)]
noncomputable def L131 (f63 : Jet × Unit → Option (Bool × Unit)) : LEnv (densS (muts p131 ++ r131)) := lenv []
theorem e131 (f63 : Jet × Unit → Option (Bool × Unit)) (a : densS p131) : runF (E131 f63) tab (fun _ => false) p131 r131 Proofs.Tryz.f131 (L131 f63) a = F131 f63 a := by kernel_rfl
theorem ok131 {f63 : Jet × Unit → Option (Bool × Unit)} (h63 : OK Proofs.Tryz.prog 63 (mkE p63 r63 false f63)) : OK Proofs.Tryz.prog 131 (mkE p131 r131 false (F131 f63)) :=
  fn_ok tab_ok (envL_ok (l := [(63, mkE p63 r63 false f63)]) (OKs.cons h63 OKs.nil)) mixed (ann := (fun _ => false)) (L := L131 f63) (fn := Proofs.Tryz.f131) (c := bodyC Proofs.Tryz.f131) (ls := []) Proofs.Tryz.func131 (by kernel_rfl) (by kernel_rfl) (by kernel_rfl) (by kernel_rfl)
    LoopsP.nil (e131 f63)
/-! spec.IsMeasure -/
def p96 : List SP := [.one (.int .i64)]
def r96 : List SP := [.one (.bool)]
noncomputable def F96 (a : Int × Unit) : Option (Bool × Unit) :=
  cond (decide (a.1 ≥ (-4096))) (some ((decide (a.1 ≤ 4096)), ())) (some (false, ()))
def E96 : Env := envL []
noncomputable def L96 : LEnv (densS (muts p96 ++ r96)) := lenv []
theorem e96 (a : densS p96) : runF (E96) tab (fun _ => false) p96 r96 Proofs.Tryz.f96 (L96) a = F96 a := by kernel_rfl
theorem ok96 : OK Proofs.Tryz.prog 96 (mkE p96 r96 false (F96)) :=
  fn_ok tab_ok (envL_ok (l := []) OKs.nil) mixed (ann := (fun _ => false)) (L := L96) (fn := Proofs.Tryz.f96) (c := bodyC Proofs.Tryz.f96) (ls := []) Proofs.Tryz.func96 (by kernel_rfl) (by kernel_rfl) (by kernel_rfl) (by kernel_rfl)
    LoopsP.nil (e96)
/-! spec.IsPlace -/
def p57 : List SP := [.t .place]
def r57 : List SP := [.one (.bool)]
noncomputable def F57 (f96 : Int × Unit → Option (Bool × Unit)) (a : Place × Unit) : Option (Bool × Unit) :=
  (f96 (a.1.X, ())).bind fun x1 => cond x1.1 ((f96 (a.1.Y, ())).bind fun x2 => some (x2.1, ())) (some (false, ()))
def E57 (f96 : Int × Unit → Option (Bool × Unit)) : Env := envL [(96, mkE p96 r96 false f96)]
noncomputable def L57 (f96 : Int × Unit → Option (Bool × Unit)) : LEnv (densS (muts p57 ++ r57)) := lenv []
theorem e57 (f96 : Int × Unit → Option (Bool × Unit)) (a : densS p57) : runF (E57 f96) tab (fun _ => false) p57 r57 Proofs.Tryz.f57 (L57 f96) a = F57 f96 a := by kernel_rfl
theorem ok57 {f96 : Int × Unit → Option (Bool × Unit)} (h96 : OK Proofs.Tryz.prog 96 (mkE p96 r96 false f96)) : OK Proofs.Tryz.prog 57 (mkE p57 r57 false (F57 f96)) :=
  fn_ok tab_ok (envL_ok (l := [(96, mkE p96 r96 false f96)]) (OKs.cons h96 OKs.nil)) mixed (ann := (fun _ => false)) (L := L57 f96) (fn := Proofs.Tryz.f57) (c := bodyC Proofs.Tryz.f57) (ls := []) Proofs.Tryz.func57 (by kernel_rfl) (by kernel_rfl) (by kernel_rfl) (by kernel_rfl)
    LoopsP.nil (e57 f96)
/-! spec.IsDevice -/
def p92 : List SP := [.t .device]
def r92 : List SP := [.one (.bool)]
noncomputable def F92 (f129 : Str × Unit → Option (Bool × Unit)) (f130 : Int × Unit → Option (Bool × Unit)) (f131 : Device × Unit → Option (Bool × Unit)) (f54 : Int × Int × Int × Unit → Option (Bool × Unit)) (f57 : Place × Unit → Option (Bool × Unit)) (a : Device × Unit) : Option (Bool × Unit) :=
  (f129 (a.1.Line, ())).bind fun x1 => cond x1.1 ((f129 (a.1.Name, ())).bind fun x2 => cond (!x2.1) (some (false, ())) (cond (decide (a.1.Kind = 1)) ((f130 (a.1.Most, ())).bind fun x3 => cond x3.1 (some ((decide (a.1.Name = a.1.Name) && (decide (a.1.Kind = a.1.Kind) && (decide (a.1.Line = []) && (decide (a.1.At.X = 0) && (decide (a.1.At.Y = 0) && (decide (a.1.Heading = 0) && (decide (a.1.Tilt = 0) && (decide (a.1.Most = a.1.Most) && true)))))))), ())) (some (false, ()))) (cond (decide (a.1.Kind = 2)) (cond (!decide (a.1.Line = a.1.Name)) ((f131 (a.1, ())).bind fun x4 => cond x4.1 ((f54 (a.1.Most, 0, 32, ())).bind fun x5 => some (x5.1, ())) (some (false, ()))) (some (false, ()))) (cond (decide (a.1.Kind = 3)) (cond (!decide (a.1.Line = a.1.Name)) ((f57 (a.1.At, ())).bind fun x6 => cond x6.1 (some ((decide (a.1.Name = a.1.Name) && (decide (a.1.Kind = a.1.Kind) && (decide (a.1.Line = a.1.Line) && (decide (a.1.At.X = a.1.At.X) && (decide (a.1.At.Y = a.1.At.Y) && (decide (a.1.Heading = 0) && (decide (a.1.Tilt = 0) && (decide (a.1.Most = 0) && true)))))))), ())) (some (false, ()))) (some (false, ()))) (some (false, ())))))) ((f129 (a.1.Name, ())).bind fun x7 => cond (!x7.1) (some (false, ())) (cond (decide (a.1.Kind = 1)) ((f130 (a.1.Most, ())).bind fun x8 => cond x8.1 (some ((decide (a.1.Name = a.1.Name) && (decide (a.1.Kind = a.1.Kind) && (decide (a.1.Line = []) && (decide (a.1.At.X = 0) && (decide (a.1.At.Y = 0) && (decide (a.1.Heading = 0) && (decide (a.1.Tilt = 0) && (decide (a.1.Most = a.1.Most) && true)))))))), ())) (some (false, ()))) (cond (decide (a.1.Kind = 2)) (some (false, ())) (cond (decide (a.1.Kind = 3)) (some (false, ())) (some (false, ()))))))
def E92 (f129 : Str × Unit → Option (Bool × Unit)) (f130 : Int × Unit → Option (Bool × Unit)) (f131 : Device × Unit → Option (Bool × Unit)) (f54 : Int × Int × Int × Unit → Option (Bool × Unit)) (f57 : Place × Unit → Option (Bool × Unit)) : Env := envL [(129, mkE p129 r129 false f129), (130, mkE p130 r130 false f130), (131, mkE p131 r131 false f131), (54, mkE p54 r54 false f54), (57, mkE p57 r57 false f57)]
noncomputable def L92 (f129 : Str × Unit → Option (Bool × Unit)) (f130 : Int × Unit → Option (Bool × Unit)) (f131 : Device × Unit → Option (Bool × Unit)) (f54 : Int × Int × Int × Unit → Option (Bool × Unit)) (f57 : Place × Unit → Option (Bool × Unit)) : LEnv (densS (muts p92 ++ r92)) := lenv []
theorem e92 (f129 : Str × Unit → Option (Bool × Unit)) (f130 : Int × Unit → Option (Bool × Unit)) (f131 : Device × Unit → Option (Bool × Unit)) (f54 : Int × Int × Int × Unit → Option (Bool × Unit)) (f57 : Place × Unit → Option (Bool × Unit)) (a : densS p92) : runF (E92 f129 f130 f131 f54 f57) tab (fun _ => false) p92 r92 Proofs.Tryz.f92 (L92 f129 f130 f131 f54 f57) a = F92 f129 f130 f131 f54 f57 a := by kernel_rfl
theorem ok92 {f129 : Str × Unit → Option (Bool × Unit)} {f130 : Int × Unit → Option (Bool × Unit)} {f131 : Device × Unit → Option (Bool × Unit)} {f54 : Int × Int × Int × Unit → Option (Bool × Unit)} {f57 : Place × Unit → Option (Bool × Unit)} (h129 : OK Proofs.Tryz.prog 129 (mkE p129 r129 false f129)) (h130 : OK Proofs.Tryz.prog 130 (mkE p130 r130 false f130)) (h131 : OK Proofs.Tryz.prog 131 (mkE p131 r131 false f131)) (h54 : OK Proofs.Tryz.prog 54 (mkE p54 r54 false f54)) (h57 : OK Proofs.Tryz.prog 57 (mkE p57 r57 false f57)) : OK Proofs.Tryz.prog 92 (mkE p92 r92 false (F92 f129 f130 f131 f54 f57)) :=
  fn_ok tab_ok (envL_ok (l := [(129, mkE p129 r129 false f129), (130, mkE p130 r130 false f130), (131, mkE p131 r131 false f131), (54, mkE p54 r54 false f54), (57, mkE p57 r57 false f57)]) (OKs.cons h129 (OKs.cons h130 (OKs.cons h131 (OKs.cons h54 (OKs.cons h57 OKs.nil)))))) mixed (ann := (fun _ => false)) (L := L92 f129 f130 f131 f54 f57) (fn := Proofs.Tryz.f92) (c := bodyC Proofs.Tryz.f92) (ls := []) Proofs.Tryz.func92 (by kernel_rfl) (by kernel_rfl) (by kernel_rfl) (by kernel_rfl)
    LoopsP.nil (e92 f129 f130 f131 f54 f57)
/-! spec.FindDevice -/
def p132 : List SP := [.one (.r .device), .one (.str)]
def r132 : List SP := [.one (.int .i64)]
def q132_0 : List SP := pat 20 0 [(1, .one (.str)), (7, .one (.r .device)), (8, .one (.int .i64)), (9, .one (.int .i64))]
noncomputable def s132_0 (t1 : Str × List Device × Int × Int × Unit) (rec K : Str × List Device × Int × Int × Unit → Option (Int × Unit)) : Option (Int × Unit) :=
  cond (decide (t1.2.2.2.1 < t1.2.2.1)) (rdL t1.2.1 t1.2.2.2.1 fun d2 => cond (decide (d2.Name = t1.1)) (some (t1.2.2.2.1, ())) (rec (t1.1, t1.2.1, t1.2.2.1, (w64 (t1.2.2.2.1 + 1)), ()))) (K (t1.1, t1.2.1, t1.2.2.1, t1.2.2.2.1, ()))
noncomputable def F132 (a : List Device × Str × Unit) : Option (Int × Unit) :=
  iterF (s132_0) fuel (a.2.1, a.1, (Int.ofNat (List.length a.1)), 0, ()) fun t3 => some ((-1), ())
def E132 : Env := envL []
noncomputable def L132 : LEnv (densS (muts p132 ++ r132)) := lenv [(0, loopL (R := densS (muts p132 ++ r132)) q132_0 (s132_0))]
theorem e132_0 (X : Nat → St → Option (densS (muts p132 ++ r132))) (rec K : densS q132_0 → Option (densS (muts p132 ++ r132))) (t : densS q132_0) :
    ev (E132) tab (fun _ => false) (L132) (retK tab p132 r132 Proofs.Tryz.f132.results.toList) (loopC Proofs.Tryz.f132 0) (fun i s => cond (Nat.beq i 0) (decK 100 q132_0 s K) (X i s)) (fun s => decK 100 q132_0 s rec) (enc q132_0 t) = s132_0 t rec K := by kernel_rfl
theorem e132 (a : densS p132) : runF (E132) tab (fun _ => false) p132 r132 Proofs.Tryz.f132 (L132) a = F132 a := by kernel_rfl
theorem ok132 : OK Proofs.Tryz.prog 132 (mkE p132 r132 false (F132)) :=
  fn_ok tab_ok (envL_ok (l := []) OKs.nil) mixed (ann := (fun _ => false)) (L := L132) (fn := Proofs.Tryz.f132) (c := bodyC Proofs.Tryz.f132) (ls := [(0, loopC Proofs.Tryz.f132 0)]) Proofs.Tryz.func132 (by kernel_rfl) (by kernel_rfl) (by kernel_rfl) (by kernel_rfl)
    (LoopsP.cons q132_0 (s132_0) rfl (e132_0) LoopsP.nil) (e132)
/-! spec.l6Hangs -/
def p93 : List SP := [.one (.r .device), .t .device]
def r93 : List SP := [.one (.bool)]
noncomputable def F93 (f132 : List Device × Str × Unit → Option (Int × Unit)) (a : List Device × Device × Unit) : Option (Bool × Unit) :=
  (f132 (a.1, a.2.1.Line, ())).bind fun x1 => cond (decide (a.2.1.Kind = 2)) (cond (decide (x1.1 ≥ 0)) (rdL a.1 x1.1 fun d2 => some ((decide (d2.Kind = 1)), ())) (some (false, ()))) (cond (decide (a.2.1.Kind = 3)) (cond (decide (x1.1 ≥ 0)) (rdL a.1 x1.1 fun d3 => some ((decide (d3.Kind = 2)), ())) (some (false, ()))) (some (true, ())))
def E93 (f132 : List Device × Str × Unit → Option (Int × Unit)) : Env := envL [(132, mkE p132 r132 false f132)]
noncomputable def L93 (f132 : List Device × Str × Unit → Option (Int × Unit)) : LEnv (densS (muts p93 ++ r93)) := lenv []
theorem e93 (f132 : List Device × Str × Unit → Option (Int × Unit)) (a : densS p93) : runF (E93 f132) tab (fun _ => false) p93 r93 Proofs.Tryz.f93 (L93 f132) a = F93 f132 a := by kernel_rfl
theorem ok93 {f132 : List Device × Str × Unit → Option (Int × Unit)} (h132 : OK Proofs.Tryz.prog 132 (mkE p132 r132 false f132)) : OK Proofs.Tryz.prog 93 (mkE p93 r93 false (F93 f132)) :=
  fn_ok tab_ok (envL_ok (l := [(132, mkE p132 r132 false f132)]) (OKs.cons h132 OKs.nil)) mixed (ann := (fun _ => false)) (L := L93 f132) (fn := Proofs.Tryz.f93) (c := bodyC Proofs.Tryz.f93) (ls := []) Proofs.Tryz.func93 (by kernel_rfl) (by kernel_rfl) (by kernel_rfl) (by kernel_rfl)
    LoopsP.nil (e93 f132)
/-! spec.IsRig -/
def p51 : List SP := [.one (.r .device)]
def r51 : List SP := [.one (.bool)]
def q51_0 : List SP := pat 40 0 [(0, .one (.r .device)), (5, .one (.r .device)), (6, .one (.int .i64)), (7, .one (.int .i64))]
noncomputable def s51_0 (f92 : Device × Unit → Option (Bool × Unit)) (f93 : List Device × Device × Unit → Option (Bool × Unit)) (t1 : List Device × List Device × Int × Int × Unit) (rec K : List Device × List Device × Int × Int × Unit → Option (Bool × Unit)) : Option (Bool × Unit) :=
  cond (decide (t1.2.2.2.1 < t1.2.2.1)) (rdL t1.2.1 t1.2.2.2.1 fun d2 => (f92 (d2, ())).bind fun x3 => cond (!(!x3.1)) (cond (decide (t1.2.2.2.1 > 0)) (rdL t1.1 (w64 (t1.2.2.2.1 - 1)) fun d4 => cond (!(!Op.bytesLess d4.Name d2.Name)) ((f93 (t1.1, d2, ())).bind fun x5 => cond (!x5.1) (some (false, ())) (rec (t1.1, t1.2.1, t1.2.2.1, (w64 (t1.2.2.2.1 + 1)), ()))) (some (false, ()))) ((f93 (t1.1, d2, ())).bind fun x6 => cond (!x6.1) (some (false, ())) (rec (t1.1, t1.2.1, t1.2.2.1, (w64 (t1.2.2.2.1 + 1)), ())))) (some (false, ()))) (K (t1.1, t1.2.1, t1.2.2.1, t1.2.2.2.1, ()))
noncomputable def F51 (f92 : Device × Unit → Option (Bool × Unit)) (f93 : List Device × Device × Unit → Option (Bool × Unit)) (a : List Device × Unit) : Option (Bool × Unit) :=
  iterF (s51_0 f92 f93) fuel (a.1, a.1, (Int.ofNat (List.length a.1)), 0, ()) fun t7 => some ((decide ((Int.ofNat (List.length t7.1)) ≤ 8)), ())
def E51 (f92 : Device × Unit → Option (Bool × Unit)) (f93 : List Device × Device × Unit → Option (Bool × Unit)) : Env := envL [(92, mkE p92 r92 false f92), (93, mkE p93 r93 false f93)]
noncomputable def L51 (f92 : Device × Unit → Option (Bool × Unit)) (f93 : List Device × Device × Unit → Option (Bool × Unit)) : LEnv (densS (muts p51 ++ r51)) := lenv [(0, loopL (R := densS (muts p51 ++ r51)) q51_0 (s51_0 f92 f93))]
theorem e51_0 (f92 : Device × Unit → Option (Bool × Unit)) (f93 : List Device × Device × Unit → Option (Bool × Unit)) (X : Nat → St → Option (densS (muts p51 ++ r51))) (rec K : densS q51_0 → Option (densS (muts p51 ++ r51))) (t : densS q51_0) :
    ev (E51 f92 f93) tab (fun _ => false) (L51 f92 f93) (retK tab p51 r51 Proofs.Tryz.f51.results.toList) (loopC Proofs.Tryz.f51 0) (fun i s => cond (Nat.beq i 0) (decK 100 q51_0 s K) (X i s)) (fun s => decK 100 q51_0 s rec) (enc q51_0 t) = s51_0 f92 f93 t rec K := by kernel_rfl
theorem e51 (f92 : Device × Unit → Option (Bool × Unit)) (f93 : List Device × Device × Unit → Option (Bool × Unit)) (a : densS p51) : runF (E51 f92 f93) tab (fun _ => false) p51 r51 Proofs.Tryz.f51 (L51 f92 f93) a = F51 f92 f93 a := by kernel_rfl
theorem ok51 {f92 : Device × Unit → Option (Bool × Unit)} {f93 : List Device × Device × Unit → Option (Bool × Unit)} (h92 : OK Proofs.Tryz.prog 92 (mkE p92 r92 false f92)) (h93 : OK Proofs.Tryz.prog 93 (mkE p93 r93 false f93)) : OK Proofs.Tryz.prog 51 (mkE p51 r51 false (F51 f92 f93)) :=
  fn_ok tab_ok (envL_ok (l := [(92, mkE p92 r92 false f92), (93, mkE p93 r93 false f93)]) (OKs.cons h92 (OKs.cons h93 OKs.nil))) mixed (ann := (fun _ => false)) (L := L51 f92 f93) (fn := Proofs.Tryz.f51) (c := bodyC Proofs.Tryz.f51) (ls := [(0, loopC Proofs.Tryz.f51 0)]) Proofs.Tryz.func51 (by kernel_rfl) (by kernel_rfl) (by kernel_rfl) (by kernel_rfl)
    (LoopsP.cons q51_0 (s51_0 f92 f93) rfl (e51_0 f92 f93) LoopsP.nil) (e51 f92 f93)
/-! spec.IsCue -/
def p94 : List SP := [.t .cue]
def r94 : List SP := [.one (.bool)]
noncomputable def F94 (f54 : Int × Int × Int × Unit → Option (Bool × Unit)) (f129 : Str × Unit → Option (Bool × Unit)) (a : Cue × Unit) : Option (Bool × Unit) :=
  (f54 (a.1.Tick, 0, 64, ())).bind fun x1 => cond x1.1 ((f129 (a.1.Name, ())).bind fun x2 => cond x2.1 ((f54 (a.1.Level, 0, 32, ())).bind fun x3 => cond x3.1 ((f54 (a.1.Ramp, 0, 16, ())).bind fun x4 => some (x4.1, ())) (some (false, ()))) (some (false, ()))) (some (false, ()))
def E94 (f54 : Int × Int × Int × Unit → Option (Bool × Unit)) (f129 : Str × Unit → Option (Bool × Unit)) : Env := envL [(54, mkE p54 r54 false f54), (129, mkE p129 r129 false f129)]
noncomputable def L94 (f54 : Int × Int × Int × Unit → Option (Bool × Unit)) (f129 : Str × Unit → Option (Bool × Unit)) : LEnv (densS (muts p94 ++ r94)) := lenv []
theorem e94 (f54 : Int × Int × Int × Unit → Option (Bool × Unit)) (f129 : Str × Unit → Option (Bool × Unit)) (a : densS p94) : runF (E94 f54 f129) tab (fun _ => false) p94 r94 Proofs.Tryz.f94 (L94 f54 f129) a = F94 f54 f129 a := by kernel_rfl
theorem ok94 {f54 : Int × Int × Int × Unit → Option (Bool × Unit)} {f129 : Str × Unit → Option (Bool × Unit)} (h54 : OK Proofs.Tryz.prog 54 (mkE p54 r54 false f54)) (h129 : OK Proofs.Tryz.prog 129 (mkE p129 r129 false f129)) : OK Proofs.Tryz.prog 94 (mkE p94 r94 false (F94 f54 f129)) :=
  fn_ok tab_ok (envL_ok (l := [(54, mkE p54 r54 false f54), (129, mkE p129 r129 false f129)]) (OKs.cons h54 (OKs.cons h129 OKs.nil))) mixed (ann := (fun _ => false)) (L := L94 f54 f129) (fn := Proofs.Tryz.f94) (c := bodyC Proofs.Tryz.f94) (ls := []) Proofs.Tryz.func94 (by kernel_rfl) (by kernel_rfl) (by kernel_rfl) (by kernel_rfl)
    LoopsP.nil (e94 f54 f129)
/-! spec.CompareCues -/
def p95 : List SP := [.t .cue, .t .cue]
def r95 : List SP := [.one (.int .i64)]
noncomputable def F95 (a : Cue × Cue × Unit) : Option (Int × Unit) :=
  cond (decide (a.1.Tick < a.2.1.Tick)) (cond (decide (a.1.Tick < a.2.1.Tick)) (some ((-1), ())) (cond (decide (a.1.Tick = a.2.1.Tick)) (cond (decide (a.1.Name = a.2.1.Name)) (some (0, ())) (some (1, ()))) (some (1, ())))) (cond (decide (a.1.Tick = a.2.1.Tick)) (cond (Op.bytesLess a.1.Name a.2.1.Name) (some ((-1), ())) (cond (decide (a.1.Tick = a.2.1.Tick)) (cond (decide (a.1.Name = a.2.1.Name)) (some (0, ())) (some (1, ()))) (some (1, ())))) (cond (decide (a.1.Tick = a.2.1.Tick)) (cond (decide (a.1.Name = a.2.1.Name)) (some (0, ())) (some (1, ()))) (some (1, ()))))
def E95 : Env := envL []
noncomputable def L95 : LEnv (densS (muts p95 ++ r95)) := lenv []
theorem e95 (a : densS p95) : runF (E95) tab (fun _ => false) p95 r95 Proofs.Tryz.f95 (L95) a = F95 a := by kernel_rfl
theorem ok95 : OK Proofs.Tryz.prog 95 (mkE p95 r95 false (F95)) :=
  fn_ok tab_ok (envL_ok (l := []) OKs.nil) mixed (ann := (fun _ => false)) (L := L95) (fn := Proofs.Tryz.f95) (c := bodyC Proofs.Tryz.f95) (ls := []) Proofs.Tryz.func95 (by kernel_rfl) (by kernel_rfl) (by kernel_rfl) (by kernel_rfl)
    LoopsP.nil (e95)
/-! spec.IsScore -/
def p52 : List SP := [.one (.r .cue)]
def r52 : List SP := [.one (.bool)]
def q52_0 : List SP := pat 33 0 [(0, .one (.r .cue)), (5, .one (.r .cue)), (6, .one (.int .i64)), (7, .one (.int .i64))]
noncomputable def s52_0 (f94 : Cue × Unit → Option (Bool × Unit)) (f95 : Cue × Cue × Unit → Option (Int × Unit)) (t1 : List Cue × List Cue × Int × Int × Unit) (rec K : List Cue × List Cue × Int × Int × Unit → Option (Bool × Unit)) : Option (Bool × Unit) :=
  cond (decide (t1.2.2.2.1 < t1.2.2.1)) (rdL t1.2.1 t1.2.2.2.1 fun d2 => (f94 (d2, ())).bind fun x3 => cond (!(!x3.1)) (cond (decide (t1.2.2.2.1 > 0)) (rdL t1.1 (w64 (t1.2.2.2.1 - 1)) fun d4 => (f95 (d4, d2, ())).bind fun x5 => cond (decide (x5.1 ≥ 0)) (some (false, ())) (rec (t1.1, t1.2.1, t1.2.2.1, (w64 (t1.2.2.2.1 + 1)), ()))) (rec (t1.1, t1.2.1, t1.2.2.1, (w64 (t1.2.2.2.1 + 1)), ()))) (some (false, ()))) (K (t1.1, t1.2.1, t1.2.2.1, t1.2.2.2.1, ()))
noncomputable def F52 (f94 : Cue × Unit → Option (Bool × Unit)) (f95 : Cue × Cue × Unit → Option (Int × Unit)) (a : List Cue × Unit) : Option (Bool × Unit) :=
  iterF (s52_0 f94 f95) fuel (a.1, a.1, (Int.ofNat (List.length a.1)), 0, ()) fun t6 => some ((decide ((Int.ofNat (List.length t6.1)) ≤ 12)), ())
def E52 (f94 : Cue × Unit → Option (Bool × Unit)) (f95 : Cue × Cue × Unit → Option (Int × Unit)) : Env := envL [(94, mkE p94 r94 false f94), (95, mkE p95 r95 false f95)]
noncomputable def L52 (f94 : Cue × Unit → Option (Bool × Unit)) (f95 : Cue × Cue × Unit → Option (Int × Unit)) : LEnv (densS (muts p52 ++ r52)) := lenv [(0, loopL (R := densS (muts p52 ++ r52)) q52_0 (s52_0 f94 f95))]
theorem e52_0 (f94 : Cue × Unit → Option (Bool × Unit)) (f95 : Cue × Cue × Unit → Option (Int × Unit)) (X : Nat → St → Option (densS (muts p52 ++ r52))) (rec K : densS q52_0 → Option (densS (muts p52 ++ r52))) (t : densS q52_0) :
    ev (E52 f94 f95) tab (fun _ => false) (L52 f94 f95) (retK tab p52 r52 Proofs.Tryz.f52.results.toList) (loopC Proofs.Tryz.f52 0) (fun i s => cond (Nat.beq i 0) (decK 100 q52_0 s K) (X i s)) (fun s => decK 100 q52_0 s rec) (enc q52_0 t) = s52_0 f94 f95 t rec K := by kernel_rfl
theorem e52 (f94 : Cue × Unit → Option (Bool × Unit)) (f95 : Cue × Cue × Unit → Option (Int × Unit)) (a : densS p52) : runF (E52 f94 f95) tab (fun _ => false) p52 r52 Proofs.Tryz.f52 (L52 f94 f95) a = F52 f94 f95 a := by kernel_rfl
theorem ok52 {f94 : Cue × Unit → Option (Bool × Unit)} {f95 : Cue × Cue × Unit → Option (Int × Unit)} (h94 : OK Proofs.Tryz.prog 94 (mkE p94 r94 false f94)) (h95 : OK Proofs.Tryz.prog 95 (mkE p95 r95 false f95)) : OK Proofs.Tryz.prog 52 (mkE p52 r52 false (F52 f94 f95)) :=
  fn_ok tab_ok (envL_ok (l := [(94, mkE p94 r94 false f94), (95, mkE p95 r95 false f95)]) (OKs.cons h94 (OKs.cons h95 OKs.nil))) mixed (ann := (fun _ => false)) (L := L52 f94 f95) (fn := Proofs.Tryz.f52) (c := bodyC Proofs.Tryz.f52) (ls := [(0, loopC Proofs.Tryz.f52 0)]) Proofs.Tryz.func52 (by kernel_rfl) (by kernel_rfl) (by kernel_rfl) (by kernel_rfl)
    (LoopsP.cons q52_0 (s52_0 f94 f95) rfl (e52_0 f94 f95) LoopsP.nil) (e52 f94 f95)
/-! spec.l4Drift -/
def p55 : List SP := [.t .place]
def r55 : List SP := [.one (.bool)]
noncomputable def F55 (f54 : Int × Int × Int × Unit → Option (Bool × Unit)) (a : Place × Unit) : Option (Bool × Unit) :=
  (f54 (a.1.X, (-8), 8, ())).bind fun x1 => cond x1.1 ((f54 (a.1.Y, (-8), 8, ())).bind fun x2 => some (x2.1, ())) (some (false, ()))
def E55 (f54 : Int × Int × Int × Unit → Option (Bool × Unit)) : Env := envL [(54, mkE p54 r54 false f54)]
noncomputable def L55 (f54 : Int × Int × Int × Unit → Option (Bool × Unit)) : LEnv (densS (muts p55 ++ r55)) := lenv []
theorem e55 (f54 : Int × Int × Int × Unit → Option (Bool × Unit)) (a : densS p55) : runF (E55 f54) tab (fun _ => false) p55 r55 Proofs.Tryz.f55 (L55 f54) a = F55 f54 a := by kernel_rfl
theorem ok55 {f54 : Int × Int × Int × Unit → Option (Bool × Unit)} (h54 : OK Proofs.Tryz.prog 54 (mkE p54 r54 false f54)) : OK Proofs.Tryz.prog 55 (mkE p55 r55 false (F55 f54)) :=
  fn_ok tab_ok (envL_ok (l := [(54, mkE p54 r54 false f54)]) (OKs.cons h54 OKs.nil)) mixed (ann := (fun _ => false)) (L := L55 f54) (fn := Proofs.Tryz.f55) (c := bodyC Proofs.Tryz.f55) (ls := []) Proofs.Tryz.func55 (by kernel_rfl) (by kernel_rfl) (by kernel_rfl) (by kernel_rfl)
    LoopsP.nil (e55 f54)
/-! spec.IsWind -/
def p53 : List SP := [.one (.r .gust)]
def r53 : List SP := [.one (.bool)]
def q53_0 : List SP := pat 41 0 [(0, .one (.r .gust)), (5, .one (.r .gust)), (6, .one (.int .i64)), (7, .one (.int .i64))]
noncomputable def s53_0 (f54 : Int × Int × Int × Unit → Option (Bool × Unit)) (f55 : Place × Unit → Option (Bool × Unit)) (t1 : List Gust × List Gust × Int × Int × Unit) (rec K : List Gust × List Gust × Int × Int × Unit → Option (Bool × Unit)) : Option (Bool × Unit) :=
  cond (decide (t1.2.2.2.1 < t1.2.2.1)) (rdL t1.2.1 t1.2.2.2.1 fun d2 => (f54 (d2.From, 0, 64, ())).bind fun x3 => cond (!(!x3.1)) ((f55 (d2.Drift, ())).bind fun x4 => cond (!(!x4.1)) (cond (decide (t1.2.2.2.1 > 0)) (rdL t1.1 (w64 (t1.2.2.2.1 - 1)) fun d5 => cond (decide (d5.From ≥ d2.From)) (some (false, ())) (rec (t1.1, t1.2.1, t1.2.2.1, (w64 (t1.2.2.2.1 + 1)), ()))) (rec (t1.1, t1.2.1, t1.2.2.1, (w64 (t1.2.2.2.1 + 1)), ()))) (some (false, ()))) (some (false, ()))) (K (t1.1, t1.2.1, t1.2.2.1, t1.2.2.2.1, ()))
noncomputable def F53 (f54 : Int × Int × Int × Unit → Option (Bool × Unit)) (f55 : Place × Unit → Option (Bool × Unit)) (a : List Gust × Unit) : Option (Bool × Unit) :=
  iterF (s53_0 f54 f55) fuel (a.1, a.1, (Int.ofNat (List.length a.1)), 0, ()) fun t6 => some ((decide ((Int.ofNat (List.length t6.1)) ≤ 8)), ())
def E53 (f54 : Int × Int × Int × Unit → Option (Bool × Unit)) (f55 : Place × Unit → Option (Bool × Unit)) : Env := envL [(54, mkE p54 r54 false f54), (55, mkE p55 r55 false f55)]
noncomputable def L53 (f54 : Int × Int × Int × Unit → Option (Bool × Unit)) (f55 : Place × Unit → Option (Bool × Unit)) : LEnv (densS (muts p53 ++ r53)) := lenv [(0, loopL (R := densS (muts p53 ++ r53)) q53_0 (s53_0 f54 f55))]
theorem e53_0 (f54 : Int × Int × Int × Unit → Option (Bool × Unit)) (f55 : Place × Unit → Option (Bool × Unit)) (X : Nat → St → Option (densS (muts p53 ++ r53))) (rec K : densS q53_0 → Option (densS (muts p53 ++ r53))) (t : densS q53_0) :
    ev (E53 f54 f55) tab (fun _ => false) (L53 f54 f55) (retK tab p53 r53 Proofs.Tryz.f53.results.toList) (loopC Proofs.Tryz.f53 0) (fun i s => cond (Nat.beq i 0) (decK 100 q53_0 s K) (X i s)) (fun s => decK 100 q53_0 s rec) (enc q53_0 t) = s53_0 f54 f55 t rec K := by kernel_rfl
theorem e53 (f54 : Int × Int × Int × Unit → Option (Bool × Unit)) (f55 : Place × Unit → Option (Bool × Unit)) (a : densS p53) : runF (E53 f54 f55) tab (fun _ => false) p53 r53 Proofs.Tryz.f53 (L53 f54 f55) a = F53 f54 f55 a := by kernel_rfl
theorem ok53 {f54 : Int × Int × Int × Unit → Option (Bool × Unit)} {f55 : Place × Unit → Option (Bool × Unit)} (h54 : OK Proofs.Tryz.prog 54 (mkE p54 r54 false f54)) (h55 : OK Proofs.Tryz.prog 55 (mkE p55 r55 false f55)) : OK Proofs.Tryz.prog 53 (mkE p53 r53 false (F53 f54 f55)) :=
  fn_ok tab_ok (envL_ok (l := [(54, mkE p54 r54 false f54), (55, mkE p55 r55 false f55)]) (OKs.cons h54 (OKs.cons h55 OKs.nil))) mixed (ann := (fun _ => false)) (L := L53 f54 f55) (fn := Proofs.Tryz.f53) (c := bodyC Proofs.Tryz.f53) (ls := [(0, loopC Proofs.Tryz.f53 0)]) Proofs.Tryz.func53 (by kernel_rfl) (by kernel_rfl) (by kernel_rfl) (by kernel_rfl)
    (LoopsP.cons q53_0 (s53_0 f54 f55) rfl (e53_0 f54 f55) LoopsP.nil) (e53 f54 f55)
/-! spec.IsShow -/
def p21 : List SP := [.agg [.r .device, .r .cue, .r .gust, .int .i64]]
def r21 : List SP := [.one (.bool)]
noncomputable def F21 (f51 : List Device × Unit → Option (Bool × Unit)) (f52 : List Cue × Unit → Option (Bool × Unit)) (f53 : List Gust × Unit → Option (Bool × Unit)) (f54 : Int × Int × Int × Unit → Option (Bool × Unit)) (a : ShD × Unit) : Option (Bool × Unit) :=
  (f51 (a.1.1, ())).bind fun x1 => cond x1.1 ((f52 (a.1.2.1, ())).bind fun x2 => cond x2.1 ((f53 (a.1.2.2.1, ())).bind fun x3 => cond x3.1 ((f54 (a.1.2.2.2.1, 0, 64, ())).bind fun x4 => some (x4.1, ())) (some (false, ()))) (some (false, ()))) (some (false, ()))
def E21 (f51 : List Device × Unit → Option (Bool × Unit)) (f52 : List Cue × Unit → Option (Bool × Unit)) (f53 : List Gust × Unit → Option (Bool × Unit)) (f54 : Int × Int × Int × Unit → Option (Bool × Unit)) : Env := envL [(51, mkE p51 r51 false f51), (52, mkE p52 r52 false f52), (53, mkE p53 r53 false f53), (54, mkE p54 r54 false f54)]
noncomputable def L21 (f51 : List Device × Unit → Option (Bool × Unit)) (f52 : List Cue × Unit → Option (Bool × Unit)) (f53 : List Gust × Unit → Option (Bool × Unit)) (f54 : Int × Int × Int × Unit → Option (Bool × Unit)) : LEnv (densS (muts p21 ++ r21)) := lenv []
theorem e21 (f51 : List Device × Unit → Option (Bool × Unit)) (f52 : List Cue × Unit → Option (Bool × Unit)) (f53 : List Gust × Unit → Option (Bool × Unit)) (f54 : Int × Int × Int × Unit → Option (Bool × Unit)) (a : densS p21) : runF (E21 f51 f52 f53 f54) tab (fun _ => false) p21 r21 Proofs.Tryz.f21 (L21 f51 f52 f53 f54) a = F21 f51 f52 f53 f54 a := by kernel_rfl
theorem ok21 {f51 : List Device × Unit → Option (Bool × Unit)} {f52 : List Cue × Unit → Option (Bool × Unit)} {f53 : List Gust × Unit → Option (Bool × Unit)} {f54 : Int × Int × Int × Unit → Option (Bool × Unit)} (h51 : OK Proofs.Tryz.prog 51 (mkE p51 r51 false f51)) (h52 : OK Proofs.Tryz.prog 52 (mkE p52 r52 false f52)) (h53 : OK Proofs.Tryz.prog 53 (mkE p53 r53 false f53)) (h54 : OK Proofs.Tryz.prog 54 (mkE p54 r54 false f54)) : OK Proofs.Tryz.prog 21 (mkE p21 r21 false (F21 f51 f52 f53 f54)) :=
  fn_ok tab_ok (envL_ok (l := [(51, mkE p51 r51 false f51), (52, mkE p52 r52 false f52), (53, mkE p53 r53 false f53), (54, mkE p54 r54 false f54)]) (OKs.cons h51 (OKs.cons h52 (OKs.cons h53 (OKs.cons h54 OKs.nil))))) mixed (ann := (fun _ => false)) (L := L21 f51 f52 f53 f54) (fn := Proofs.Tryz.f21) (c := bodyC Proofs.Tryz.f21) (ls := []) Proofs.Tryz.func21 (by kernel_rfl) (by kernel_rfl) (by kernel_rfl) (by kernel_rfl)
    LoopsP.nil (e21 f51 f52 f53 f54)
/-! spec.ComparePlaces -/
def p56 : List SP := [.t .place, .t .place]
def r56 : List SP := [.one (.int .i64)]
noncomputable def F56 (a : Place × Place × Unit) : Option (Int × Unit) :=
  cond (decide (a.1.X < a.2.1.X)) (cond (decide (a.1.X < a.2.1.X)) (some ((-1), ())) (cond (decide (a.1.X = a.2.1.X) && (decide (a.1.Y = a.2.1.Y) && true)) (some (0, ())) (some (1, ())))) (cond (decide (a.1.X = a.2.1.X)) (cond (decide (a.1.Y < a.2.1.Y)) (some ((-1), ())) (cond (decide (a.1.X = a.2.1.X) && (decide (a.1.Y = a.2.1.Y) && true)) (some (0, ())) (some (1, ())))) (cond (decide (a.1.X = a.2.1.X) && (decide (a.1.Y = a.2.1.Y) && true)) (some (0, ())) (some (1, ()))))
def E56 : Env := envL []
noncomputable def L56 : LEnv (densS (muts p56 ++ r56)) := lenv []
theorem e56 (a : densS p56) : runF (E56) tab (fun _ => false) p56 r56 Proofs.Tryz.f56 (L56) a = F56 a := by kernel_rfl
theorem ok56 : OK Proofs.Tryz.prog 56 (mkE p56 r56 false (F56)) :=
  fn_ok tab_ok (envL_ok (l := []) OKs.nil) mixed (ann := (fun _ => false)) (L := L56) (fn := Proofs.Tryz.f56) (c := bodyC Proofs.Tryz.f56) (ls := []) Proofs.Tryz.func56 (by kernel_rfl) (by kernel_rfl) (by kernel_rfl) (by kernel_rfl)
    LoopsP.nil (e56)
/-! spec.IsRose -/
def p22 : List SP := [.one (.r .place)]
def r22 : List SP := [.one (.bool)]
def q22_0 : List SP := pat 38 0 [(0, .one (.r .place)), (5, .one (.r .place)), (6, .one (.int .i64)), (7, .one (.int .i64))]
noncomputable def s22_0 (f55 : Place × Unit → Option (Bool × Unit)) (f56 : Place × Place × Unit → Option (Int × Unit)) (t1 : List Place × List Place × Int × Int × Unit) (rec K : List Place × List Place × Int × Int × Unit → Option (Bool × Unit)) : Option (Bool × Unit) :=
  cond (decide (t1.2.2.2.1 < t1.2.2.1)) (rdL t1.2.1 t1.2.2.2.1 fun d2 => (f55 (d2, ())).bind fun x3 => cond (!(!x3.1)) (cond (decide (t1.2.2.2.1 > 0)) (rdL t1.1 (w64 (t1.2.2.2.1 - 1)) fun d4 => (f56 (d4, d2, ())).bind fun x5 => cond (decide (x5.1 ≥ 0)) (some (false, ())) (rec (t1.1, t1.2.1, t1.2.2.1, (w64 (t1.2.2.2.1 + 1)), ()))) (rec (t1.1, t1.2.1, t1.2.2.1, (w64 (t1.2.2.2.1 + 1)), ()))) (some (false, ()))) (K (t1.1, t1.2.1, t1.2.2.1, t1.2.2.2.1, ()))
noncomputable def F22 (f55 : Place × Unit → Option (Bool × Unit)) (f56 : Place × Place × Unit → Option (Int × Unit)) (a : List Place × Unit) : Option (Bool × Unit) :=
  iterF (s22_0 f55 f56) fuel (a.1, a.1, (Int.ofNat (List.length a.1)), 0, ()) fun t6 => cond (decide ((Int.ofNat (List.length t6.1)) ≥ 1)) (some ((decide ((Int.ofNat (List.length t6.1)) ≤ 4)), ())) (some (false, ()))
def E22 (f55 : Place × Unit → Option (Bool × Unit)) (f56 : Place × Place × Unit → Option (Int × Unit)) : Env := envL [(55, mkE p55 r55 false f55), (56, mkE p56 r56 false f56)]
noncomputable def L22 (f55 : Place × Unit → Option (Bool × Unit)) (f56 : Place × Place × Unit → Option (Int × Unit)) : LEnv (densS (muts p22 ++ r22)) := lenv [(0, loopL (R := densS (muts p22 ++ r22)) q22_0 (s22_0 f55 f56))]
theorem e22_0 (f55 : Place × Unit → Option (Bool × Unit)) (f56 : Place × Place × Unit → Option (Int × Unit)) (X : Nat → St → Option (densS (muts p22 ++ r22))) (rec K : densS q22_0 → Option (densS (muts p22 ++ r22))) (t : densS q22_0) :
    ev (E22 f55 f56) tab (fun _ => false) (L22 f55 f56) (retK tab p22 r22 Proofs.Tryz.f22.results.toList) (loopC Proofs.Tryz.f22 0) (fun i s => cond (Nat.beq i 0) (decK 100 q22_0 s K) (X i s)) (fun s => decK 100 q22_0 s rec) (enc q22_0 t) = s22_0 f55 f56 t rec K := by kernel_rfl
theorem e22 (f55 : Place × Unit → Option (Bool × Unit)) (f56 : Place × Place × Unit → Option (Int × Unit)) (a : densS p22) : runF (E22 f55 f56) tab (fun _ => false) p22 r22 Proofs.Tryz.f22 (L22 f55 f56) a = F22 f55 f56 a := by kernel_rfl
theorem ok22 {f55 : Place × Unit → Option (Bool × Unit)} {f56 : Place × Place × Unit → Option (Int × Unit)} (h55 : OK Proofs.Tryz.prog 55 (mkE p55 r55 false f55)) (h56 : OK Proofs.Tryz.prog 56 (mkE p56 r56 false f56)) : OK Proofs.Tryz.prog 22 (mkE p22 r22 false (F22 f55 f56)) :=
  fn_ok tab_ok (envL_ok (l := [(55, mkE p55 r55 false f55), (56, mkE p56 r56 false f56)]) (OKs.cons h55 (OKs.cons h56 OKs.nil))) mixed (ann := (fun _ => false)) (L := L22 f55 f56) (fn := Proofs.Tryz.f22) (c := bodyC Proofs.Tryz.f22) (ls := [(0, loopC Proofs.Tryz.f22 0)]) Proofs.Tryz.func22 (by kernel_rfl) (by kernel_rfl) (by kernel_rfl) (by kernel_rfl)
    (LoopsP.cons q22_0 (s22_0 f55 f56) rfl (e22_0 f55 f56) LoopsP.nil) (e22 f55 f56)
/-! spec.IsBox -/
def p23 : List SP := [.t .box]
def r23 : List SP := [.one (.bool)]
noncomputable def F23 (f57 : Place × Unit → Option (Bool × Unit)) (a : Box × Unit) : Option (Bool × Unit) :=
  (f57 (a.1.Low, ())).bind fun x1 => cond x1.1 ((f57 (a.1.High, ())).bind fun x2 => cond x2.1 (cond (decide (a.1.Low.X ≤ a.1.High.X)) (some ((decide (a.1.Low.Y ≤ a.1.High.Y)), ())) (some (false, ()))) (some (false, ()))) (some (false, ()))
def E23 (f57 : Place × Unit → Option (Bool × Unit)) : Env := envL [(57, mkE p57 r57 false f57)]
noncomputable def L23 (f57 : Place × Unit → Option (Bool × Unit)) : LEnv (densS (muts p23 ++ r23)) := lenv []
theorem e23 (f57 : Place × Unit → Option (Bool × Unit)) (a : densS p23) : runF (E23 f57) tab (fun _ => false) p23 r23 Proofs.Tryz.f23 (L23 f57) a = F23 f57 a := by kernel_rfl
theorem ok23 {f57 : Place × Unit → Option (Bool × Unit)} (h57 : OK Proofs.Tryz.prog 57 (mkE p57 r57 false f57)) : OK Proofs.Tryz.prog 23 (mkE p23 r23 false (F23 f57)) :=
  fn_ok tab_ok (envL_ok (l := [(57, mkE p57 r57 false f57)]) (OKs.cons h57 OKs.nil)) mixed (ann := (fun _ => false)) (L := L23 f57) (fn := Proofs.Tryz.f23) (c := bodyC Proofs.Tryz.f23) (ls := []) Proofs.Tryz.func23 (by kernel_rfl) (by kernel_rfl) (by kernel_rfl) (by kernel_rfl)
    LoopsP.nil (e23 f57)
/-! spec.l1Floor -/
def p197 : List SP := [.one (.int .i64), .one (.int .i64)]
def r197 : List SP := [.one (.int .i64)]
noncomputable def F197 (a : Int × Int × Unit) : Option (Int × Unit) :=
  cond (decide (a.2.1 = 0)) none (cond (decide (a.2.1 = 0)) none (cond (decide ((Int.tmod a.1 a.2.1) < 0)) (some ((w64 ((w64 (Int.tdiv a.1 a.2.1)) - 1)), ())) (some ((w64 (Int.tdiv a.1 a.2.1)), ()))))
def E197 : Env := envL []
noncomputable def L197 : LEnv (densS (muts p197 ++ r197)) := lenv []
theorem e197 (a : densS p197) : runF (E197) tab (fun _ => false) p197 r197 Proofs.Tryz.f197 (L197) a = F197 a := by kernel_rfl
theorem ok197 : OK Proofs.Tryz.prog 197 (mkE p197 r197 false (F197)) :=
  fn_ok tab_ok (envL_ok (l := []) OKs.nil) mixed (ann := (fun _ => false)) (L := L197) (fn := Proofs.Tryz.f197) (c := bodyC Proofs.Tryz.f197) (ls := []) Proofs.Tryz.func197 (by kernel_rfl) (by kernel_rfl) (by kernel_rfl) (by kernel_rfl)
    LoopsP.nil (e197)
/-! spec.RampAt -/
def p163 : List SP := [.one (.int .i64), .one (.int .i64), .one (.int .i64), .one (.int .i64)]
def r163 : List SP := [.one (.int .i64)]
noncomputable def F163 (f96 : Int × Unit → Option (Bool × Unit)) (f197 : Int × Int × Unit → Option (Int × Unit)) (a : Int × Int × Int × Int × Unit) : Option (Int × Unit) :=
  (f96 (a.1, ())).bind fun x1 => cond (!(!x1.1)) ((f96 (a.2.1, ())).bind fun x2 => cond (!x2.1) (some (0, ())) (cond (decide (a.2.2.1 ≥ a.2.2.2.1)) (some (a.2.1, ())) (cond (!(decide (a.2.2.1 ≤ 0))) (cond (decide (a.2.2.2.1 > 999)) (some (a.1, ())) ((f197 ((w64 ((w64 (a.2.1 - a.1)) * a.2.2.1)), a.2.2.2.1, ())).bind fun x3 => some ((w64 (a.1 + x3.1)), ()))) (some (a.1, ()))))) (some (0, ()))
def E163 (f96 : Int × Unit → Option (Bool × Unit)) (f197 : Int × Int × Unit → Option (Int × Unit)) : Env := envL [(96, mkE p96 r96 false f96), (197, mkE p197 r197 false f197)]
noncomputable def L163 (f96 : Int × Unit → Option (Bool × Unit)) (f197 : Int × Int × Unit → Option (Int × Unit)) : LEnv (densS (muts p163 ++ r163)) := lenv []
theorem e163 (f96 : Int × Unit → Option (Bool × Unit)) (f197 : Int × Int × Unit → Option (Int × Unit)) (a : densS p163) : runF (E163 f96 f197) tab (fun _ => false) p163 r163 Proofs.Tryz.f163 (L163 f96 f197) a = F163 f96 f197 a := by kernel_rfl
theorem ok163 {f96 : Int × Unit → Option (Bool × Unit)} {f197 : Int × Int × Unit → Option (Int × Unit)} (h96 : OK Proofs.Tryz.prog 96 (mkE p96 r96 false f96)) (h197 : OK Proofs.Tryz.prog 197 (mkE p197 r197 false f197)) : OK Proofs.Tryz.prog 163 (mkE p163 r163 false (F163 f96 f197)) :=
  fn_ok tab_ok (envL_ok (l := [(96, mkE p96 r96 false f96), (197, mkE p197 r197 false f197)]) (OKs.cons h96 (OKs.cons h197 OKs.nil))) mixed (ann := (fun _ => false)) (L := L163 f96 f197) (fn := Proofs.Tryz.f163) (c := bodyC Proofs.Tryz.f163) (ls := []) Proofs.Tryz.func163 (by kernel_rfl) (by kernel_rfl) (by kernel_rfl) (by kernel_rfl)
    LoopsP.nil (e163 f96 f197)
/-! spec.l7Level -/
def p133 : List SP := [.one (.r .cue), .one (.str), .one (.int .i64)]
def r133 : List SP := [.one (.int .i64)]
def q133_0 : List SP := pat 51 0 [(1, .one (.str)), (2, .one (.int .i64)), (7, .one (.int .i64)), (8, .boxt 5000001 .cue), (12, .one (.r .cue)), (13, .one (.int .i64)), (14, .one (.int .i64))]
noncomputable def s133_0 (f163 : Int × Int × Int × Int × Unit → Option (Int × Unit)) (t1 : Str × Int × Int × Cue × List Cue × Int × Int × Unit) (rec K : Str × Int × Int × Cue × List Cue × Int × Int × Unit → Option (Int × Unit)) : Option (Int × Unit) :=
  cond (decide (t1.2.2.2.2.2.2.1 < t1.2.2.2.2.2.1)) (rdL t1.2.2.2.2.1 t1.2.2.2.2.2.2.1 fun d2 => cond (decide (d2.Name = t1.1)) (cond (decide (d2.Tick ≤ t1.2.1)) ((f163 (t1.2.2.1, t1.2.2.2.1.Level, (w64 (d2.Tick - t1.2.2.2.1.Tick)), t1.2.2.2.1.Ramp, ())).bind fun x3 => rec (t1.1, t1.2.1, x3.1, d2, t1.2.2.2.2.1, t1.2.2.2.2.2.1, (w64 (t1.2.2.2.2.2.2.1 + 1)), ())) (rec (t1.1, t1.2.1, t1.2.2.1, t1.2.2.2.1, t1.2.2.2.2.1, t1.2.2.2.2.2.1, (w64 (t1.2.2.2.2.2.2.1 + 1)), ()))) (rec (t1.1, t1.2.1, t1.2.2.1, t1.2.2.2.1, t1.2.2.2.2.1, t1.2.2.2.2.2.1, (w64 (t1.2.2.2.2.2.2.1 + 1)), ()))) (K (t1.1, t1.2.1, t1.2.2.1, t1.2.2.2.1, t1.2.2.2.2.1, t1.2.2.2.2.2.1, t1.2.2.2.2.2.2.1, ()))
noncomputable def F133 (f163 : Int × Int × Int × Int × Unit → Option (Int × Unit)) (a : List Cue × Str × Int × Unit) : Option (Int × Unit) :=
  iterF (s133_0 f163) fuel (a.2.1, a.2.2.1, 0, (⟨0, [], 0, 0⟩ : Cue), a.1, (Int.ofNat (List.length a.1)), 0, ()) fun t4 => (f163 (t4.2.2.1, t4.2.2.2.1.Level, (w64 (t4.2.1 - t4.2.2.2.1.Tick)), t4.2.2.2.1.Ramp, ())).bind fun x5 => some (x5.1, ())
def E133 (f163 : Int × Int × Int × Int × Unit → Option (Int × Unit)) : Env := envL [(163, mkE p163 r163 false f163)]
noncomputable def L133 (f163 : Int × Int × Int × Int × Unit → Option (Int × Unit)) : LEnv (densS (muts p133 ++ r133)) := lenv [(0, loopL (R := densS (muts p133 ++ r133)) q133_0 (s133_0 f163))]
theorem e133_0 (f163 : Int × Int × Int × Int × Unit → Option (Int × Unit)) (X : Nat → St → Option (densS (muts p133 ++ r133))) (rec K : densS q133_0 → Option (densS (muts p133 ++ r133))) (t : densS q133_0) :
    ev (E133 f163) tab (fun _ => false) (L133 f163) (retK tab p133 r133 Proofs.Tryz.f133.results.toList) (loopC Proofs.Tryz.f133 0) (fun i s => cond (Nat.beq i 0) (decK 100 q133_0 s K) (X i s)) (fun s => decK 100 q133_0 s rec) (enc q133_0 t) = s133_0 f163 t rec K := by kernel_rfl
theorem e133 (f163 : Int × Int × Int × Int × Unit → Option (Int × Unit)) (a : densS p133) : runF (E133 f163) tab (fun _ => false) p133 r133 Proofs.Tryz.f133 (L133 f163) a = F133 f163 a := by kernel_rfl
theorem ok133 {f163 : Int × Int × Int × Int × Unit → Option (Int × Unit)} (h163 : OK Proofs.Tryz.prog 163 (mkE p163 r163 false f163)) : OK Proofs.Tryz.prog 133 (mkE p133 r133 false (F133 f163)) :=
  fn_ok tab_ok (envL_ok (l := [(163, mkE p163 r163 false f163)]) (OKs.cons h163 OKs.nil)) mixed (ann := (fun _ => false)) (L := L133 f163) (fn := Proofs.Tryz.f133) (c := bodyC Proofs.Tryz.f133) (ls := [(0, loopC Proofs.Tryz.f133 0)]) Proofs.Tryz.func133 (by kernel_rfl) (by kernel_rfl) (by kernel_rfl) (by kernel_rfl)
    (LoopsP.cons q133_0 (s133_0 f163) rfl (e133_0 f163) LoopsP.nil) (e133 f163)
/-! spec.l1Min -/
def p122 : List SP := [.one (.int .i64), .one (.int .i64)]
def r122 : List SP := [.one (.int .i64)]
noncomputable def F122 (a : Int × Int × Unit) : Option (Int × Unit) :=
  cond (decide (a.1 < a.2.1)) (some (a.1, ())) (some (a.2.1, ()))
def E122 : Env := envL []
noncomputable def L122 : LEnv (densS (muts p122 ++ r122)) := lenv []
theorem e122 (a : densS p122) : runF (E122) tab (fun _ => false) p122 r122 Proofs.Tryz.f122 (L122) a = F122 a := by kernel_rfl
theorem ok122 : OK Proofs.Tryz.prog 122 (mkE p122 r122 false (F122)) :=
  fn_ok tab_ok (envL_ok (l := []) OKs.nil) mixed (ann := (fun _ => false)) (L := L122) (fn := Proofs.Tryz.f122) (c := bodyC Proofs.Tryz.f122) (ls := []) Proofs.Tryz.func122 (by kernel_rfl) (by kernel_rfl) (by kernel_rfl) (by kernel_rfl)
    LoopsP.nil (e122)
/-! spec.IsDemands -/
def p164 : List SP := [.one (.r .int)]
def r164 : List SP := [.one (.bool)]
def q164_0 : List SP := pat 18 0 [(0, .one (.r .int)), (5, .one (.r .int)), (6, .one (.int .i64)), (7, .one (.int .i64))]
noncomputable def s164_0 (f54 : Int × Int × Int × Unit → Option (Bool × Unit)) (t1 : List Int × List Int × Int × Int × Unit) (rec K : List Int × List Int × Int × Int × Unit → Option (Bool × Unit)) : Option (Bool × Unit) :=
  cond (decide (t1.2.2.2.1 < t1.2.2.1)) (rdL t1.2.1 t1.2.2.2.1 fun d2 => (f54 (d2, 0, 64, ())).bind fun x3 => cond (!x3.1) (some (false, ())) (rec (t1.1, t1.2.1, t1.2.2.1, (w64 (t1.2.2.2.1 + 1)), ()))) (K (t1.1, t1.2.1, t1.2.2.1, t1.2.2.2.1, ()))
noncomputable def F164 (f54 : Int × Int × Int × Unit → Option (Bool × Unit)) (a : List Int × Unit) : Option (Bool × Unit) :=
  iterF (s164_0 f54) fuel (a.1, a.1, (Int.ofNat (List.length a.1)), 0, ()) fun t4 => some ((decide ((Int.ofNat (List.length t4.1)) ≤ 8)), ())
def E164 (f54 : Int × Int × Int × Unit → Option (Bool × Unit)) : Env := envL [(54, mkE p54 r54 false f54)]
noncomputable def L164 (f54 : Int × Int × Int × Unit → Option (Bool × Unit)) : LEnv (densS (muts p164 ++ r164)) := lenv [(0, loopL (R := densS (muts p164 ++ r164)) q164_0 (s164_0 f54))]
theorem e164_0 (f54 : Int × Int × Int × Unit → Option (Bool × Unit)) (X : Nat → St → Option (densS (muts p164 ++ r164))) (rec K : densS q164_0 → Option (densS (muts p164 ++ r164))) (t : densS q164_0) :
    ev (E164 f54) tab (fun _ => false) (L164 f54) (retK tab p164 r164 Proofs.Tryz.f164.results.toList) (loopC Proofs.Tryz.f164 0) (fun i s => cond (Nat.beq i 0) (decK 100 q164_0 s K) (X i s)) (fun s => decK 100 q164_0 s rec) (enc q164_0 t) = s164_0 f54 t rec K := by kernel_rfl
theorem e164 (f54 : Int × Int × Int × Unit → Option (Bool × Unit)) (a : densS p164) : runF (E164 f54) tab (fun _ => false) p164 r164 Proofs.Tryz.f164 (L164 f54) a = F164 f54 a := by kernel_rfl
theorem ok164 {f54 : Int × Int × Int × Unit → Option (Bool × Unit)} (h54 : OK Proofs.Tryz.prog 54 (mkE p54 r54 false f54)) : OK Proofs.Tryz.prog 164 (mkE p164 r164 false (F164 f54)) :=
  fn_ok tab_ok (envL_ok (l := [(54, mkE p54 r54 false f54)]) (OKs.cons h54 OKs.nil)) mixed (ann := (fun _ => false)) (L := L164 f54) (fn := Proofs.Tryz.f164) (c := bodyC Proofs.Tryz.f164) (ls := [(0, loopC Proofs.Tryz.f164 0)]) Proofs.Tryz.func164 (by kernel_rfl) (by kernel_rfl) (by kernel_rfl) (by kernel_rfl)
    (LoopsP.cons q164_0 (s164_0 f54) rfl (e164_0 f54) LoopsP.nil) (e164 f54)
/-! spec.l5Cut -/
def p166 : List SP := [.one (.r .int), .one (.int .i64)]
def r166 : List SP := [.one (.o 0 .int)]
def q166_0 : List SP := pat 23 0 [(1, .one (.int .i64)), (5, .one (.o 5000001 .int)), (9, .one (.r .int)), (10, .one (.int .i64)), (11, .one (.int .i64))]
noncomputable def s166_0 (f122 : Int × Int × Unit → Option (Int × Unit)) (t1 : Int × List Int × List Int × Int × Int × Unit) (rec K : Int × List Int × List Int × Int × Int × Unit → Option (List Int × Unit)) : Option (List Int × Unit) :=
  cond (decide (t1.2.2.2.2.1 < t1.2.2.2.1)) (rdL t1.2.2.1 t1.2.2.2.2.1 fun d2 => (f122 (d2, t1.1, ())).bind fun x3 => capK (List.length t1.2.1 + List.length ([x3.1] : List Int)) (rec (t1.1, (t1.2.1 ++ ([x3.1] : List Int)), t1.2.2.1, t1.2.2.2.1, (w64 (t1.2.2.2.2.1 + 1)), ()))) (K (t1.1, t1.2.1, t1.2.2.1, t1.2.2.2.1, t1.2.2.2.2.1, ()))
noncomputable def F166 (f122 : Int × Int × Unit → Option (Int × Unit)) (a : List Int × Int × Unit) : Option (List Int × Unit) :=
  iterF (s166_0 f122) fuel (a.2.1, ([] : List Int), a.1, (Int.ofNat (List.length a.1)), 0, ()) fun t4 => some (t4.2.1, ())
def E166 (f122 : Int × Int × Unit → Option (Int × Unit)) : Env := envL [(122, mkE p122 r122 false f122)]
noncomputable def L166 (f122 : Int × Int × Unit → Option (Int × Unit)) : LEnv (densS (muts p166 ++ r166)) := lenv [(0, loopL (R := densS (muts p166 ++ r166)) q166_0 (s166_0 f122))]
theorem e166_0 (f122 : Int × Int × Unit → Option (Int × Unit)) (X : Nat → St → Option (densS (muts p166 ++ r166))) (rec K : densS q166_0 → Option (densS (muts p166 ++ r166))) (t : densS q166_0) :
    ev (E166 f122) tab (fun _ => false) (L166 f122) (retK tab p166 r166 Proofs.Tryz.f166.results.toList) (loopC Proofs.Tryz.f166 0) (fun i s => cond (Nat.beq i 0) (decK 100 q166_0 s K) (X i s)) (fun s => decK 100 q166_0 s rec) (enc q166_0 t) = s166_0 f122 t rec K := by kernel_rfl
theorem e166 (f122 : Int × Int × Unit → Option (Int × Unit)) (a : densS p166) : runF (E166 f122) tab (fun _ => false) p166 r166 Proofs.Tryz.f166 (L166 f122) a = F166 f122 a := by kernel_rfl
theorem ok166 {f122 : Int × Int × Unit → Option (Int × Unit)} (h122 : OK Proofs.Tryz.prog 122 (mkE p122 r122 false f122)) : OK Proofs.Tryz.prog 166 (mkE p166 r166 false (F166 f122)) :=
  fn_ok tab_ok (envL_ok (l := [(122, mkE p122 r122 false f122)]) (OKs.cons h122 OKs.nil)) mixed (ann := (fun _ => false)) (L := L166 f122) (fn := Proofs.Tryz.f166) (c := bodyC Proofs.Tryz.f166) (ls := [(0, loopC Proofs.Tryz.f166 0)]) Proofs.Tryz.func166 (by kernel_rfl) (by kernel_rfl) (by kernel_rfl) (by kernel_rfl)
    (LoopsP.cons q166_0 (s166_0 f122) rfl (e166_0 f122) LoopsP.nil) (e166 f122)
/-! spec.l5Sum -/
def p167 : List SP := [.one (.r .int)]
def r167 : List SP := [.one (.int .i64)]
def q167_0 : List SP := pat 17 0 [(3, .one (.int .i64)), (6, .one (.r .int)), (7, .one (.int .i64)), (8, .one (.int .i64))]
noncomputable def s167_0 (t1 : Int × List Int × Int × Int × Unit) (rec K : Int × List Int × Int × Int × Unit → Option (Int × Unit)) : Option (Int × Unit) :=
  cond (decide (t1.2.2.2.1 < t1.2.2.1)) (rdL t1.2.1 t1.2.2.2.1 fun d2 => rec ((w64 (t1.1 + d2)), t1.2.1, t1.2.2.1, (w64 (t1.2.2.2.1 + 1)), ())) (K (t1.1, t1.2.1, t1.2.2.1, t1.2.2.2.1, ()))
noncomputable def F167 (a : List Int × Unit) : Option (Int × Unit) :=
  iterF (s167_0) fuel (0, a.1, (Int.ofNat (List.length a.1)), 0, ()) fun t3 => some (t3.1, ())
def E167 : Env := envL []
noncomputable def L167 : LEnv (densS (muts p167 ++ r167)) := lenv [(0, loopL (R := densS (muts p167 ++ r167)) q167_0 (s167_0))]
theorem e167_0 (X : Nat → St → Option (densS (muts p167 ++ r167))) (rec K : densS q167_0 → Option (densS (muts p167 ++ r167))) (t : densS q167_0) :
    ev (E167) tab (fun _ => false) (L167) (retK tab p167 r167 Proofs.Tryz.f167.results.toList) (loopC Proofs.Tryz.f167 0) (fun i s => cond (Nat.beq i 0) (decK 100 q167_0 s K) (X i s)) (fun s => decK 100 q167_0 s rec) (enc q167_0 t) = s167_0 t rec K := by kernel_rfl
theorem e167 (a : densS p167) : runF (E167) tab (fun _ => false) p167 r167 Proofs.Tryz.f167 (L167) a = F167 a := by kernel_rfl
theorem ok167 : OK Proofs.Tryz.prog 167 (mkE p167 r167 false (F167)) :=
  fn_ok tab_ok (envL_ok (l := []) OKs.nil) mixed (ann := (fun _ => false)) (L := L167) (fn := Proofs.Tryz.f167) (c := bodyC Proofs.Tryz.f167) (ls := [(0, loopC Proofs.Tryz.f167 0)]) Proofs.Tryz.func167 (by kernel_rfl) (by kernel_rfl) (by kernel_rfl) (by kernel_rfl)
    (LoopsP.cons q167_0 (s167_0) rfl (e167_0) LoopsP.nil) (e167)
/-! spec.LevelFor -/
def p165 : List SP := [.one (.int .i64), .one (.r .int)]
def r165 : List SP := [.one (.int .i64)]
def q165_0 : List SP := pat 27 0 [(0, .one (.int .i64)), (1, .one (.r .int)), (5, .one (.int .i64)), (6, .one (.int .i64))]
noncomputable def s165_0 (f164 : List Int × Unit → Option (Bool × Unit)) (f130 : Int × Unit → Option (Bool × Unit)) (f166 : List Int × Int × Unit → Option (List Int × Unit)) (f167 : List Int × Unit → Option (Int × Unit)) (t1 : Int × List Int × Int × Int × Unit) (rec K : Int × List Int × Int × Int × Unit → Option (Int × Unit)) : Option (Int × Unit) :=
  cond (decide (t1.2.2.2.1 ≤ 64)) ((f164 (t1.2.1, ())).bind fun x2 => cond x2.1 ((f130 (t1.1, ())).bind fun x3 => cond x3.1 ((f166 (t1.2.1, t1.2.2.2.1, ())).bind fun x4 => (f167 (x4.1, ())).bind fun x5 => cond (decide (x5.1 ≤ t1.1)) (rec (t1.1, t1.2.1, t1.2.2.2.1, (w64 (t1.2.2.2.1 + 1)), ())) (rec (t1.1, t1.2.1, t1.2.2.1, (w64 (t1.2.2.2.1 + 1)), ()))) (K (t1.1, t1.2.1, t1.2.2.1, t1.2.2.2.1, ()))) (K (t1.1, t1.2.1, t1.2.2.1, t1.2.2.2.1, ()))) (K (t1.1, t1.2.1, t1.2.2.1, t1.2.2.2.1, ()))
noncomputable def F165 (f164 : List Int × Unit → Option (Bool × Unit)) (f130 : Int × Unit → Option (Bool × Unit)) (f166 : List Int × Int × Unit → Option (List Int × Unit)) (f167 : List Int × Unit → Option (Int × Unit)) (a : Int × List Int × Unit) : Option (Int × Unit) :=
  iterF (s165_0 f164 f130 f166 f167) fuel (a.1, a.2.1, 0, 1, ()) fun t6 => some (t6.2.2.1, ())
def E165 (f164 : List Int × Unit → Option (Bool × Unit)) (f130 : Int × Unit → Option (Bool × Unit)) (f166 : List Int × Int × Unit → Option (List Int × Unit)) (f167 : List Int × Unit → Option (Int × Unit)) : Env := envL [(164, mkE p164 r164 false f164), (130, mkE p130 r130 false f130), (166, mkE p166 r166 false f166), (167, mkE p167 r167 false f167)]
noncomputable def L165 (f164 : List Int × Unit → Option (Bool × Unit)) (f130 : Int × Unit → Option (Bool × Unit)) (f166 : List Int × Int × Unit → Option (List Int × Unit)) (f167 : List Int × Unit → Option (Int × Unit)) : LEnv (densS (muts p165 ++ r165)) := lenv [(0, loopL (R := densS (muts p165 ++ r165)) q165_0 (s165_0 f164 f130 f166 f167))]
theorem e165_0 (f164 : List Int × Unit → Option (Bool × Unit)) (f130 : Int × Unit → Option (Bool × Unit)) (f166 : List Int × Int × Unit → Option (List Int × Unit)) (f167 : List Int × Unit → Option (Int × Unit)) (X : Nat → St → Option (densS (muts p165 ++ r165))) (rec K : densS q165_0 → Option (densS (muts p165 ++ r165))) (t : densS q165_0) :
    ev (E165 f164 f130 f166 f167) tab (fun _ => false) (L165 f164 f130 f166 f167) (retK tab p165 r165 Proofs.Tryz.f165.results.toList) (loopC Proofs.Tryz.f165 0) (fun i s => cond (Nat.beq i 0) (decK 100 q165_0 s K) (X i s)) (fun s => decK 100 q165_0 s rec) (enc q165_0 t) = s165_0 f164 f130 f166 f167 t rec K := by kernel_rfl
theorem e165 (f164 : List Int × Unit → Option (Bool × Unit)) (f130 : Int × Unit → Option (Bool × Unit)) (f166 : List Int × Int × Unit → Option (List Int × Unit)) (f167 : List Int × Unit → Option (Int × Unit)) (a : densS p165) : runF (E165 f164 f130 f166 f167) tab (fun _ => false) p165 r165 Proofs.Tryz.f165 (L165 f164 f130 f166 f167) a = F165 f164 f130 f166 f167 a := by kernel_rfl
theorem ok165 {f164 : List Int × Unit → Option (Bool × Unit)} {f130 : Int × Unit → Option (Bool × Unit)} {f166 : List Int × Int × Unit → Option (List Int × Unit)} {f167 : List Int × Unit → Option (Int × Unit)} (h164 : OK Proofs.Tryz.prog 164 (mkE p164 r164 false f164)) (h130 : OK Proofs.Tryz.prog 130 (mkE p130 r130 false f130)) (h166 : OK Proofs.Tryz.prog 166 (mkE p166 r166 false f166)) (h167 : OK Proofs.Tryz.prog 167 (mkE p167 r167 false f167)) : OK Proofs.Tryz.prog 165 (mkE p165 r165 false (F165 f164 f130 f166 f167)) :=
  fn_ok tab_ok (envL_ok (l := [(164, mkE p164 r164 false f164), (130, mkE p130 r130 false f130), (166, mkE p166 r166 false f166), (167, mkE p167 r167 false f167)]) (OKs.cons h164 (OKs.cons h130 (OKs.cons h166 (OKs.cons h167 OKs.nil))))) mixed (ann := (fun _ => false)) (L := L165 f164 f130 f166 f167) (fn := Proofs.Tryz.f165) (c := bodyC Proofs.Tryz.f165) (ls := [(0, loopC Proofs.Tryz.f165 0)]) Proofs.Tryz.func165 (by kernel_rfl) (by kernel_rfl) (by kernel_rfl) (by kernel_rfl)
    (LoopsP.cons q165_0 (s165_0 f164 f130 f166 f167) rfl (e165_0 f164 f130 f166 f167) LoopsP.nil) (e165 f164 f130 f166 f167)
/-! spec.ShareOut -/
def p134 : List SP := [.one (.int .i64), .one (.r .int)]
def r134 : List SP := [.one (.o 0 .int)]
def q134_0 : List SP := pat 55 0 [(5, .one (.int .i64)), (6, .one (.o 5000001 .int)), (7, .one (.int .i64)), (29, .one (.r .int)), (30, .one (.int .i64)), (31, .one (.int .i64))]
noncomputable def s134_0 (f164 : List Int × Unit → Option (Bool × Unit)) (f130 : Int × Unit → Option (Bool × Unit)) (f165 : Int × List Int × Unit → Option (Int × Unit)) (f166 : List Int × Int × Unit → Option (List Int × Unit)) (f167 : List Int × Unit → Option (Int × Unit)) (t6 : Int × List Int × Int × List Int × Int × Int × Unit) (rec K : Int × List Int × Int × List Int × Int × Int × Unit → Option (List Int × Unit)) : Option (List Int × Unit) :=
  cond (decide (t6.2.2.2.2.2.1 < t6.2.2.2.2.1)) (rdL t6.2.2.2.1 t6.2.2.2.2.2.1 fun d7 => cond (decide (d7 > t6.1)) (cond (decide (t6.2.2.1 > 0)) (rdL t6.2.1 t6.2.2.2.2.2.1 fun _ => (t6.2.1[(Int.toNat t6.2.2.2.2.2.1)]?).bind fun d8 => rdL t6.2.1 t6.2.2.2.2.2.1 fun _ => (t6.2.1[(Int.toNat t6.2.2.2.2.2.1)]?).bind fun d9 => rec (t6.1, (List.set t6.2.1 (Int.toNat t6.2.2.2.2.2.1) (w64 (d8 + 1))), (w64 (t6.2.2.1 - 1)), t6.2.2.2.1, t6.2.2.2.2.1, (w64 (t6.2.2.2.2.2.1 + 1)), ())) (rec (t6.1, t6.2.1, t6.2.2.1, t6.2.2.2.1, t6.2.2.2.2.1, (w64 (t6.2.2.2.2.2.1 + 1)), ()))) (rec (t6.1, t6.2.1, t6.2.2.1, t6.2.2.2.1, t6.2.2.2.2.1, (w64 (t6.2.2.2.2.2.1 + 1)), ()))) (K (t6.1, t6.2.1, t6.2.2.1, t6.2.2.2.1, t6.2.2.2.2.1, t6.2.2.2.2.2.1, ()))
noncomputable def F134 (f164 : List Int × Unit → Option (Bool × Unit)) (f130 : Int × Unit → Option (Bool × Unit)) (f165 : Int × List Int × Unit → Option (Int × Unit)) (f166 : List Int × Int × Unit → Option (List Int × Unit)) (f167 : List Int × Unit → Option (Int × Unit)) (a : Int × List Int × Unit) : Option (List Int × Unit) :=
  (f164 (a.2.1, ())).bind fun x1 => cond (!(!x1.1)) ((f130 (a.1, ())).bind fun x2 => cond (!x2.1) (some (([] : List Int), ())) ((f165 (a.1, a.2.1, ())).bind fun x3 => (f166 (a.2.1, x3.1, ())).bind fun x4 => (f167 (x4.1, ())).bind fun x5 => iterF (s134_0 f164 f130 f165 f166 f167) fuel (x3.1, x4.1, (w64 (a.1 - x5.1)), a.2.1, (Int.ofNat (List.length a.2.1)), 0, ()) fun t10 => some (t10.2.1, ()))) (some (([] : List Int), ()))
def E134 (f164 : List Int × Unit → Option (Bool × Unit)) (f130 : Int × Unit → Option (Bool × Unit)) (f165 : Int × List Int × Unit → Option (Int × Unit)) (f166 : List Int × Int × Unit → Option (List Int × Unit)) (f167 : List Int × Unit → Option (Int × Unit)) : Env := envL [(164, mkE p164 r164 false f164), (130, mkE p130 r130 false f130), (165, mkE p165 r165 false f165), (166, mkE p166 r166 false f166), (167, mkE p167 r167 false f167)]
noncomputable def L134 (f164 : List Int × Unit → Option (Bool × Unit)) (f130 : Int × Unit → Option (Bool × Unit)) (f165 : Int × List Int × Unit → Option (Int × Unit)) (f166 : List Int × Int × Unit → Option (List Int × Unit)) (f167 : List Int × Unit → Option (Int × Unit)) : LEnv (densS (muts p134 ++ r134)) := lenv [(0, loopL (R := densS (muts p134 ++ r134)) q134_0 (s134_0 f164 f130 f165 f166 f167))]
theorem e134_0 (f164 : List Int × Unit → Option (Bool × Unit)) (f130 : Int × Unit → Option (Bool × Unit)) (f165 : Int × List Int × Unit → Option (Int × Unit)) (f166 : List Int × Int × Unit → Option (List Int × Unit)) (f167 : List Int × Unit → Option (Int × Unit)) (X : Nat → St → Option (densS (muts p134 ++ r134))) (rec K : densS q134_0 → Option (densS (muts p134 ++ r134))) (t : densS q134_0) :
    ev (E134 f164 f130 f165 f166 f167) tab (fun _ => false) (L134 f164 f130 f165 f166 f167) (retK tab p134 r134 Proofs.Tryz.f134.results.toList) (loopC Proofs.Tryz.f134 0) (fun i s => cond (Nat.beq i 0) (decK 100 q134_0 s K) (X i s)) (fun s => decK 100 q134_0 s rec) (enc q134_0 t) = s134_0 f164 f130 f165 f166 f167 t rec K := by kernel_rfl
theorem e134 (f164 : List Int × Unit → Option (Bool × Unit)) (f130 : Int × Unit → Option (Bool × Unit)) (f165 : Int × List Int × Unit → Option (Int × Unit)) (f166 : List Int × Int × Unit → Option (List Int × Unit)) (f167 : List Int × Unit → Option (Int × Unit)) (a : densS p134) : runF (E134 f164 f130 f165 f166 f167) tab (fun _ => false) p134 r134 Proofs.Tryz.f134 (L134 f164 f130 f165 f166 f167) a = F134 f164 f130 f165 f166 f167 a := by kernel_rfl
theorem ok134 {f164 : List Int × Unit → Option (Bool × Unit)} {f130 : Int × Unit → Option (Bool × Unit)} {f165 : Int × List Int × Unit → Option (Int × Unit)} {f166 : List Int × Int × Unit → Option (List Int × Unit)} {f167 : List Int × Unit → Option (Int × Unit)} (h164 : OK Proofs.Tryz.prog 164 (mkE p164 r164 false f164)) (h130 : OK Proofs.Tryz.prog 130 (mkE p130 r130 false f130)) (h165 : OK Proofs.Tryz.prog 165 (mkE p165 r165 false f165)) (h166 : OK Proofs.Tryz.prog 166 (mkE p166 r166 false f166)) (h167 : OK Proofs.Tryz.prog 167 (mkE p167 r167 false f167)) : OK Proofs.Tryz.prog 134 (mkE p134 r134 false (F134 f164 f130 f165 f166 f167)) :=
  fn_ok tab_ok (envL_ok (l := [(164, mkE p164 r164 false f164), (130, mkE p130 r130 false f130), (165, mkE p165 r165 false f165), (166, mkE p166 r166 false f166), (167, mkE p167 r167 false f167)]) (OKs.cons h164 (OKs.cons h130 (OKs.cons h165 (OKs.cons h166 (OKs.cons h167 OKs.nil)))))) mixed (ann := (fun _ => false)) (L := L134 f164 f130 f165 f166 f167) (fn := Proofs.Tryz.f134) (c := bodyC Proofs.Tryz.f134) (ls := [(0, loopC Proofs.Tryz.f134 0)]) Proofs.Tryz.func134 (by kernel_rfl) (by kernel_rfl) (by kernel_rfl) (by kernel_rfl)
    (LoopsP.cons q134_0 (s134_0 f164 f130 f165 f166 f167) rfl (e134_0 f164 f130 f165 f166 f167) LoopsP.nil) (e134 f164 f130 f165 f166 f167)
/-! spec.l9Lifts -/
def p97 : List SP := [.agg [.r .device, .r .cue, .r .gust, .int .i64], .one (.int .i64)]
def r97 : List SP := [.one (.o 0 .int)]
def q97_2 : List SP := pat 92 0 [(1, .one (.int .i64)), (2, .box 5002001 [.r .device, .r .cue, .r .gust, .int .i64]), (5, .one (.o 5002002 .int)), (7, .boxt 5002003 .device), (8, .one (.o 5002004 .int)), (9, .one (.o 5002005 .int)), (19, .one (.r .device)), (20, .one (.int .i64)), (21, .one (.int .i64)), (28, .one (.r .device)), (29, .one (.int .i64)), (30, .one (.int .i64))]
noncomputable def s97_2 (f54 : Int × Int × Int × Unit → Option (Bool × Unit)) (f133 : List Cue × Str × Int × Unit → Option (Int × Unit)) (f122 : Int × Int × Unit → Option (Int × Unit)) (f134 : Int × List Int × Unit → Option (List Int × Unit)) (t3 : Int × ShD × List Int × Device × List Int × List Int × List Device × Int × Int × List Device × Int × Int × Unit) (rec K : Int × ShD × List Int × Device × List Int × List Int × List Device × Int × Int × List Device × Int × Int × Unit → Option (List Int × Unit)) : Option (List Int × Unit) :=
  cond (decide (t3.2.2.2.2.2.2.2.2.2.2.2.1 < t3.2.2.2.2.2.2.2.2.2.2.1)) (rdL t3.2.2.2.2.2.2.2.2.2.1 t3.2.2.2.2.2.2.2.2.2.2.2.1 fun d4 => cond (decide (d4.Kind = 2)) (cond (decide (d4.Line = t3.2.2.2.1.Name)) ((f54 (t3.1, 0, (w64 (t3.2.1.2.2.2.1 - 1)), ())).bind fun x5 => cond x5.1 ((f133 (t3.2.1.2.1, d4.Name, t3.1, ())).bind fun x6 => (f122 (x6.1, d4.Most, ())).bind fun x7 => capK (List.length t3.2.2.2.2.1 + List.length ([x7.1] : List Int)) (capK (List.length t3.2.2.2.2.2.1 + List.length ([t3.2.2.2.2.2.2.2.2.2.2.2.1] : List Int)) (rec (t3.1, (t3.2.1.1, t3.2.1.2.1, t3.2.1.2.2.1, t3.2.1.2.2.2.1, ()), t3.2.2.1, t3.2.2.2.1, (t3.2.2.2.2.1 ++ ([x7.1] : List Int)), (t3.2.2.2.2.2.1 ++ ([t3.2.2.2.2.2.2.2.2.2.2.2.1] : List Int)), t3.2.2.2.2.2.2.1, t3.2.2.2.2.2.2.2.1, t3.2.2.2.2.2.2.2.2.1, t3.2.2.2.2.2.2.2.2.2.1, t3.2.2.2.2.2.2.2.2.2.2.1, (w64 (t3.2.2.2.2.2.2.2.2.2.2.2.1 + 1)), ())))) (rec (t3.1, (t3.2.1.1, t3.2.1.2.1, t3.2.1.2.2.1, t3.2.1.2.2.2.1, ()), t3.2.2.1, t3.2.2.2.1, t3.2.2.2.2.1, t3.2.2.2.2.2.1, t3.2.2.2.2.2.2.1, t3.2.2.2.2.2.2.2.1, t3.2.2.2.2.2.2.2.2.1, t3.2.2.2.2.2.2.2.2.2.1, t3.2.2.2.2.2.2.2.2.2.2.1, (w64 (t3.2.2.2.2.2.2.2.2.2.2.2.1 + 1)), ()))) (rec (t3.1, (t3.2.1.1, t3.2.1.2.1, t3.2.1.2.2.1, t3.2.1.2.2.2.1, ()), t3.2.2.1, t3.2.2.2.1, t3.2.2.2.2.1, t3.2.2.2.2.2.1, t3.2.2.2.2.2.2.1, t3.2.2.2.2.2.2.2.1, t3.2.2.2.2.2.2.2.2.1, t3.2.2.2.2.2.2.2.2.2.1, t3.2.2.2.2.2.2.2.2.2.2.1, (w64 (t3.2.2.2.2.2.2.2.2.2.2.2.1 + 1)), ()))) (rec (t3.1, (t3.2.1.1, t3.2.1.2.1, t3.2.1.2.2.1, t3.2.1.2.2.2.1, ()), t3.2.2.1, t3.2.2.2.1, t3.2.2.2.2.1, t3.2.2.2.2.2.1, t3.2.2.2.2.2.2.1, t3.2.2.2.2.2.2.2.1, t3.2.2.2.2.2.2.2.2.1, t3.2.2.2.2.2.2.2.2.2.1, t3.2.2.2.2.2.2.2.2.2.2.1, (w64 (t3.2.2.2.2.2.2.2.2.2.2.2.1 + 1)), ()))) (K (t3.1, (t3.2.1.1, t3.2.1.2.1, t3.2.1.2.2.1, t3.2.1.2.2.2.1, ()), t3.2.2.1, t3.2.2.2.1, t3.2.2.2.2.1, t3.2.2.2.2.2.1, t3.2.2.2.2.2.2.1, t3.2.2.2.2.2.2.2.1, t3.2.2.2.2.2.2.2.2.1, t3.2.2.2.2.2.2.2.2.2.1, t3.2.2.2.2.2.2.2.2.2.2.1, t3.2.2.2.2.2.2.2.2.2.2.2.1, ()))
def q97_4 : List SP := pat 92 0 [(1, .one (.int .i64)), (2, .box 5004001 [.r .device, .r .cue, .r .gust, .int .i64]), (5, .one (.o 5004002 .int)), (9, .one (.o 5004003 .int)), (19, .one (.r .device)), (20, .one (.int .i64)), (21, .one (.int .i64)), (75, .one (.o 5004004 .int)), (76, .one (.int .i64)), (77, .one (.int .i64))]
noncomputable def s97_4 (f54 : Int × Int × Int × Unit → Option (Bool × Unit)) (f133 : List Cue × Str × Int × Unit → Option (Int × Unit)) (f122 : Int × Int × Unit → Option (Int × Unit)) (f134 : Int × List Int × Unit → Option (List Int × Unit)) (t10 : Int × ShD × List Int × List Int × List Device × Int × Int × List Int × Int × Int × Unit) (rec K : Int × ShD × List Int × List Int × List Device × Int × Int × List Int × Int × Int × Unit → Option (List Int × Unit)) : Option (List Int × Unit) :=
  cond (decide (t10.2.2.2.2.2.2.2.2.2.1 < t10.2.2.2.2.2.2.2.2.1)) (rdL t10.2.2.2.2.2.2.2.1 t10.2.2.2.2.2.2.2.2.2.1 fun _ => (t10.2.2.2.2.2.2.2.1[(Int.toNat t10.2.2.2.2.2.2.2.2.2.1)]?).bind fun d11 => rdL t10.2.2.2.1 t10.2.2.2.2.2.2.2.2.2.1 fun _ => (t10.2.2.2.1[(Int.toNat t10.2.2.2.2.2.2.2.2.2.1)]?).bind fun d12 => rdL t10.2.2.1 d12 fun _ => (t10.2.2.1[(Int.toNat d12)]?).bind fun d13 => rec (t10.1, (t10.2.1.1, t10.2.1.2.1, t10.2.1.2.2.1, t10.2.1.2.2.2.1, ()), (List.set t10.2.2.1 (Int.toNat d12) d11), t10.2.2.2.1, t10.2.2.2.2.1, t10.2.2.2.2.2.1, t10.2.2.2.2.2.2.1, t10.2.2.2.2.2.2.2.1, t10.2.2.2.2.2.2.2.2.1, (w64 (t10.2.2.2.2.2.2.2.2.2.1 + 1)), ())) (K (t10.1, (t10.2.1.1, t10.2.1.2.1, t10.2.1.2.2.1, t10.2.1.2.2.2.1, ()), t10.2.2.1, t10.2.2.2.1, t10.2.2.2.2.1, t10.2.2.2.2.2.1, t10.2.2.2.2.2.2.1, t10.2.2.2.2.2.2.2.1, t10.2.2.2.2.2.2.2.2.1, t10.2.2.2.2.2.2.2.2.2.1, ()))
def q97_0 : List SP := pat 92 0 [(1, .one (.int .i64)), (2, .box 5000001 [.r .device, .r .cue, .r .gust, .int .i64]), (5, .one (.o 5000002 .int)), (19, .one (.r .device)), (20, .one (.int .i64)), (21, .one (.int .i64))]
noncomputable def s97_0 (f54 : Int × Int × Int × Unit → Option (Bool × Unit)) (f133 : List Cue × Str × Int × Unit → Option (Int × Unit)) (f122 : Int × Int × Unit → Option (Int × Unit)) (f134 : Int × List Int × Unit → Option (List Int × Unit)) (t1 : Int × ShD × List Int × List Device × Int × Int × Unit) (rec K : Int × ShD × List Int × List Device × Int × Int × Unit → Option (List Int × Unit)) : Option (List Int × Unit) :=
  cond (decide (t1.2.2.2.2.2.1 < t1.2.2.2.2.1)) (rdL t1.2.2.2.1 t1.2.2.2.2.2.1 fun d2 => iterF (s97_2 f54 f133 f122 f134) fuel (t1.1, (t1.2.1.1, t1.2.1.2.1, t1.2.1.2.2.1, t1.2.1.2.2.2.1, ()), t1.2.2.1, d2, ([] : List Int), ([] : List Int), t1.2.2.2.1, t1.2.2.2.2.1, t1.2.2.2.2.2.1, t1.2.1.1, (Int.ofNat (List.length t1.2.1.1)), 0, ()) fun t8 => cond (decide ((Int.ofNat (List.length t8.2.2.2.2.1)) > 0)) ((f134 (t8.2.2.2.1.Most, t8.2.2.2.2.1, ())).bind fun x9 => iterF (s97_4 f54 f133 f122 f134) fuel (t8.1, (t8.2.1.1, t8.2.1.2.1, t8.2.1.2.2.1, t8.2.1.2.2.2.1, ()), t8.2.2.1, t8.2.2.2.2.2.1, t8.2.2.2.2.2.2.1, t8.2.2.2.2.2.2.2.1, t8.2.2.2.2.2.2.2.2.1, x9.1, (Int.ofNat (List.length x9.1)), 0, ()) fun t14 => rec (t14.1, (t14.2.1.1, t14.2.1.2.1, t14.2.1.2.2.1, t14.2.1.2.2.2.1, ()), t14.2.2.1, t14.2.2.2.2.1, t14.2.2.2.2.2.1, (w64 (t14.2.2.2.2.2.2.1 + 1)), ())) (rec (t8.1, (t8.2.1.1, t8.2.1.2.1, t8.2.1.2.2.1, t8.2.1.2.2.2.1, ()), t8.2.2.1, t8.2.2.2.2.2.2.1, t8.2.2.2.2.2.2.2.1, (w64 (t8.2.2.2.2.2.2.2.2.1 + 1)), ()))) (K (t1.1, (t1.2.1.1, t1.2.1.2.1, t1.2.1.2.2.1, t1.2.1.2.2.2.1, ()), t1.2.2.1, t1.2.2.2.1, t1.2.2.2.2.1, t1.2.2.2.2.2.1, ()))
noncomputable def F97 (f54 : Int × Int × Int × Unit → Option (Bool × Unit)) (f133 : List Cue × Str × Int × Unit → Option (Int × Unit)) (f122 : Int × Int × Unit → Option (Int × Unit)) (f134 : Int × List Int × Unit → Option (List Int × Unit)) (a : ShD × Int × Unit) : Option (List Int × Unit) :=
  okIf ((0 : Int) ≤ (Int.ofNat (List.length a.1.1))) (capK (Int.toNat (Int.ofNat (List.length a.1.1))) (iterF (s97_0 f54 f133 f122 f134) fuel (a.2.1, (a.1.1, a.1.2.1, a.1.2.2.1, a.1.2.2.2.1, ()), (List.replicate (Int.toNat (Int.ofNat (List.length a.1.1))) (Ty.zero .int)), a.1.1, (Int.ofNat (List.length a.1.1)), 0, ()) fun t15 => some (t15.2.2.1, ())))
def E97 (f54 : Int × Int × Int × Unit → Option (Bool × Unit)) (f133 : List Cue × Str × Int × Unit → Option (Int × Unit)) (f122 : Int × Int × Unit → Option (Int × Unit)) (f134 : Int × List Int × Unit → Option (List Int × Unit)) : Env := envL [(54, mkE p54 r54 false f54), (133, mkE p133 r133 false f133), (122, mkE p122 r122 false f122), (134, mkE p134 r134 false f134)]
noncomputable def L97 (f54 : Int × Int × Int × Unit → Option (Bool × Unit)) (f133 : List Cue × Str × Int × Unit → Option (Int × Unit)) (f122 : Int × Int × Unit → Option (Int × Unit)) (f134 : Int × List Int × Unit → Option (List Int × Unit)) : LEnv (densS (muts p97 ++ r97)) := lenv [(0, loopL (R := densS (muts p97 ++ r97)) q97_0 (s97_0 f54 f133 f122 f134)), (2, loopL (R := densS (muts p97 ++ r97)) q97_2 (s97_2 f54 f133 f122 f134)), (4, loopL (R := densS (muts p97 ++ r97)) q97_4 (s97_4 f54 f133 f122 f134))]
theorem e97_0 (f54 : Int × Int × Int × Unit → Option (Bool × Unit)) (f133 : List Cue × Str × Int × Unit → Option (Int × Unit)) (f122 : Int × Int × Unit → Option (Int × Unit)) (f134 : Int × List Int × Unit → Option (List Int × Unit)) (X : Nat → St → Option (densS (muts p97 ++ r97))) (rec K : densS q97_0 → Option (densS (muts p97 ++ r97))) (t : densS q97_0) :
    ev (E97 f54 f133 f122 f134) tab (fun _ => false) (L97 f54 f133 f122 f134) (retK tab p97 r97 Proofs.Tryz.f97.results.toList) (loopC Proofs.Tryz.f97 0) (fun i s => cond (Nat.beq i 0) (decK 100 q97_0 s K) (X i s)) (fun s => decK 100 q97_0 s rec) (enc q97_0 t) = s97_0 f54 f133 f122 f134 t rec K := by kernel_rfl
theorem e97_2 (f54 : Int × Int × Int × Unit → Option (Bool × Unit)) (f133 : List Cue × Str × Int × Unit → Option (Int × Unit)) (f122 : Int × Int × Unit → Option (Int × Unit)) (f134 : Int × List Int × Unit → Option (List Int × Unit)) (X : Nat → St → Option (densS (muts p97 ++ r97))) (rec K : densS q97_2 → Option (densS (muts p97 ++ r97))) (t : densS q97_2) :
    ev (E97 f54 f133 f122 f134) tab (fun _ => false) (L97 f54 f133 f122 f134) (retK tab p97 r97 Proofs.Tryz.f97.results.toList) (loopC Proofs.Tryz.f97 1) (fun i s => cond (Nat.beq i 2) (decK 100 q97_2 s K) (X i s)) (fun s => decK 100 q97_2 s rec) (enc q97_2 t) = s97_2 f54 f133 f122 f134 t rec K := by kernel_rfl
theorem e97_4 (f54 : Int × Int × Int × Unit → Option (Bool × Unit)) (f133 : List Cue × Str × Int × Unit → Option (Int × Unit)) (f122 : Int × Int × Unit → Option (Int × Unit)) (f134 : Int × List Int × Unit → Option (List Int × Unit)) (X : Nat → St → Option (densS (muts p97 ++ r97))) (rec K : densS q97_4 → Option (densS (muts p97 ++ r97))) (t : densS q97_4) :
    ev (E97 f54 f133 f122 f134) tab (fun _ => false) (L97 f54 f133 f122 f134) (retK tab p97 r97 Proofs.Tryz.f97.results.toList) (loopC Proofs.Tryz.f97 2) (fun i s => cond (Nat.beq i 4) (decK 100 q97_4 s K) (X i s)) (fun s => decK 100 q97_4 s rec) (enc q97_4 t) = s97_4 f54 f133 f122 f134 t rec K := by kernel_rfl
theorem e97 (f54 : Int × Int × Int × Unit → Option (Bool × Unit)) (f133 : List Cue × Str × Int × Unit → Option (Int × Unit)) (f122 : Int × Int × Unit → Option (Int × Unit)) (f134 : Int × List Int × Unit → Option (List Int × Unit)) (a : densS p97) : runF (E97 f54 f133 f122 f134) tab (fun _ => false) p97 r97 Proofs.Tryz.f97 (L97 f54 f133 f122 f134) a = F97 f54 f133 f122 f134 a := by kernel_rfl
theorem ok97 {f54 : Int × Int × Int × Unit → Option (Bool × Unit)} {f133 : List Cue × Str × Int × Unit → Option (Int × Unit)} {f122 : Int × Int × Unit → Option (Int × Unit)} {f134 : Int × List Int × Unit → Option (List Int × Unit)} (h54 : OK Proofs.Tryz.prog 54 (mkE p54 r54 false f54)) (h133 : OK Proofs.Tryz.prog 133 (mkE p133 r133 false f133)) (h122 : OK Proofs.Tryz.prog 122 (mkE p122 r122 false f122)) (h134 : OK Proofs.Tryz.prog 134 (mkE p134 r134 false f134)) : OK Proofs.Tryz.prog 97 (mkE p97 r97 false (F97 f54 f133 f122 f134)) :=
  fn_ok tab_ok (envL_ok (l := [(54, mkE p54 r54 false f54), (133, mkE p133 r133 false f133), (122, mkE p122 r122 false f122), (134, mkE p134 r134 false f134)]) (OKs.cons h54 (OKs.cons h133 (OKs.cons h122 (OKs.cons h134 OKs.nil))))) mixed (ann := (fun _ => false)) (L := L97 f54 f133 f122 f134) (fn := Proofs.Tryz.f97) (c := bodyC Proofs.Tryz.f97) (ls := [(0, loopC Proofs.Tryz.f97 0), (2, loopC Proofs.Tryz.f97 1), (4, loopC Proofs.Tryz.f97 2)]) Proofs.Tryz.func97 (by kernel_rfl) (by kernel_rfl) (by kernel_rfl) (by kernel_rfl)
    (LoopsP.cons q97_0 (s97_0 f54 f133 f122 f134) rfl (e97_0 f54 f133 f122 f134) (LoopsP.cons q97_2 (s97_2 f54 f133 f122 f134) rfl (e97_2 f54 f133 f122 f134) (LoopsP.cons q97_4 (s97_4 f54 f133 f122 f134) rfl (e97_4 f54 f133 f122 f134) LoopsP.nil))) (e97 f54 f133 f122 f134)
/-! spec.l9Jet -/
def p98 : List SP := [.t .device, .one (.int .i64)]
def r98 : List SP := [.t .jet]
noncomputable def F98 (a : Device × Int × Unit) : Option (Jet × Unit) :=
  some ((⟨⟨a.1.At.X, a.1.At.Y⟩, a.1.Heading, a.1.Tilt, a.2.1⟩ : Jet), ())
def E98 : Env := envL []
noncomputable def L98 : LEnv (densS (muts p98 ++ r98)) := lenv []
theorem e98 (a : densS p98) : runF (E98) tab (fun _ => false) p98 r98 Proofs.Tryz.f98 (L98) a = F98 a := by kernel_rfl
theorem ok98 : OK Proofs.Tryz.prog 98 (mkE p98 r98 false (F98)) :=
  fn_ok tab_ok (envL_ok (l := []) OKs.nil) mixed (ann := (fun _ => false)) (L := L98) (fn := Proofs.Tryz.f98) (c := bodyC Proofs.Tryz.f98) (ls := []) Proofs.Tryz.func98 (by kernel_rfl) (by kernel_rfl) (by kernel_rfl) (by kernel_rfl)
    LoopsP.nil (e98)
/-! spec.l9All -/
def p58 : List SP := [.agg [.r .device, .r .cue, .r .gust, .int .i64]]
def r58 : List SP := [.one (.o 0 .throw)]
def q58_2 : List SP := pat 45 0 [(1, .box 5002001 [.r .device, .r .cue, .r .gust, .int .i64]), (3, .one (.o 5002002 .throw)), (4, .one (.int .i64)), (16, .one (.o 5002003 .int)), (17, .one (.int .i64)), (18, .one (.int .i64))]
noncomputable def s58_2 (f97 : ShD × Int × Unit → Option (List Int × Unit)) (f98 : Device × Int × Unit → Option (Jet × Unit)) (t3 : ShD × List Throw × Int × List Int × Int × Int × Unit) (rec K : ShD × List Throw × Int × List Int × Int × Int × Unit → Option (List Throw × Unit)) : Option (List Throw × Unit) :=
  cond (decide (t3.2.2.2.2.2.1 < t3.2.2.2.2.1)) (rdL t3.2.2.2.1 t3.2.2.2.2.2.1 fun _ => (t3.2.2.2.1[(Int.toNat t3.2.2.2.2.2.1)]?).bind fun d4 => cond (decide (d4 > 0)) (rdL t3.1.1 t3.2.2.2.2.2.1 fun d5 => rdL t3.1.1 t3.2.2.2.2.2.1 fun d6 => (f98 (d6, d4, ())).bind fun x7 => capK (List.length t3.2.1 + List.length ([(⟨d5.Name, t3.2.2.1, ⟨⟨x7.1.At.X, x7.1.At.Y⟩, x7.1.Heading, x7.1.Tilt, x7.1.Lift⟩⟩ : Throw)] : List Throw)) (rec ((t3.1.1, t3.1.2.1, t3.1.2.2.1, t3.1.2.2.2.1, ()), (t3.2.1 ++ ([(⟨d5.Name, t3.2.2.1, ⟨⟨x7.1.At.X, x7.1.At.Y⟩, x7.1.Heading, x7.1.Tilt, x7.1.Lift⟩⟩ : Throw)] : List Throw)), t3.2.2.1, t3.2.2.2.1, t3.2.2.2.2.1, (w64 (t3.2.2.2.2.2.1 + 1)), ()))) (rec ((t3.1.1, t3.1.2.1, t3.1.2.2.1, t3.1.2.2.2.1, ()), t3.2.1, t3.2.2.1, t3.2.2.2.1, t3.2.2.2.2.1, (w64 (t3.2.2.2.2.2.1 + 1)), ()))) (K ((t3.1.1, t3.1.2.1, t3.1.2.2.1, t3.1.2.2.2.1, ()), t3.2.1, t3.2.2.1, t3.2.2.2.1, t3.2.2.2.2.1, t3.2.2.2.2.2.1, ()))
def q58_0 : List SP := pat 45 0 [(1, .box 5000001 [.r .device, .r .cue, .r .gust, .int .i64]), (3, .one (.o 5000002 .throw)), (4, .one (.int .i64))]
noncomputable def s58_0 (f97 : ShD × Int × Unit → Option (List Int × Unit)) (f98 : Device × Int × Unit → Option (Jet × Unit)) (t1 : ShD × List Throw × Int × Unit) (rec K : ShD × List Throw × Int × Unit → Option (List Throw × Unit)) : Option (List Throw × Unit) :=
  cond (decide (t1.2.2.1 < t1.1.2.2.2.1)) ((f97 ((t1.1.1, t1.1.2.1, t1.1.2.2.1, t1.1.2.2.2.1, ()), t1.2.2.1, ())).bind fun x2 => iterF (s58_2 f97 f98) fuel ((t1.1.1, t1.1.2.1, t1.1.2.2.1, t1.1.2.2.2.1, ()), t1.2.1, t1.2.2.1, x2.1, (Int.ofNat (List.length x2.1)), 0, ()) fun t8 => rec ((t8.1.1, t8.1.2.1, t8.1.2.2.1, t8.1.2.2.2.1, ()), t8.2.1, (w64 (t8.2.2.1 + 1)), ())) (K ((t1.1.1, t1.1.2.1, t1.1.2.2.1, t1.1.2.2.2.1, ()), t1.2.1, t1.2.2.1, ()))
noncomputable def F58 (f97 : ShD × Int × Unit → Option (List Int × Unit)) (f98 : Device × Int × Unit → Option (Jet × Unit)) (a : ShD × Unit) : Option (List Throw × Unit) :=
  iterF (s58_0 f97 f98) fuel ((a.1.1, a.1.2.1, a.1.2.2.1, a.1.2.2.2.1, ()), ([] : List Throw), 0, ()) fun t9 => some (t9.2.1, ())
def E58 (f97 : ShD × Int × Unit → Option (List Int × Unit)) (f98 : Device × Int × Unit → Option (Jet × Unit)) : Env := envL [(97, mkE p97 r97 false f97), (98, mkE p98 r98 false f98)]
noncomputable def L58 (f97 : ShD × Int × Unit → Option (List Int × Unit)) (f98 : Device × Int × Unit → Option (Jet × Unit)) : LEnv (densS (muts p58 ++ r58)) := lenv [(0, loopL (R := densS (muts p58 ++ r58)) q58_0 (s58_0 f97 f98)), (2, loopL (R := densS (muts p58 ++ r58)) q58_2 (s58_2 f97 f98))]
theorem e58_0 (f97 : ShD × Int × Unit → Option (List Int × Unit)) (f98 : Device × Int × Unit → Option (Jet × Unit)) (X : Nat → St → Option (densS (muts p58 ++ r58))) (rec K : densS q58_0 → Option (densS (muts p58 ++ r58))) (t : densS q58_0) :
    ev (E58 f97 f98) tab (fun _ => false) (L58 f97 f98) (retK tab p58 r58 Proofs.Tryz.f58.results.toList) (loopC Proofs.Tryz.f58 0) (fun i s => cond (Nat.beq i 0) (decK 100 q58_0 s K) (X i s)) (fun s => decK 100 q58_0 s rec) (enc q58_0 t) = s58_0 f97 f98 t rec K := by kernel_rfl
theorem e58_2 (f97 : ShD × Int × Unit → Option (List Int × Unit)) (f98 : Device × Int × Unit → Option (Jet × Unit)) (X : Nat → St → Option (densS (muts p58 ++ r58))) (rec K : densS q58_2 → Option (densS (muts p58 ++ r58))) (t : densS q58_2) :
    ev (E58 f97 f98) tab (fun _ => false) (L58 f97 f98) (retK tab p58 r58 Proofs.Tryz.f58.results.toList) (loopC Proofs.Tryz.f58 1) (fun i s => cond (Nat.beq i 2) (decK 100 q58_2 s K) (X i s)) (fun s => decK 100 q58_2 s rec) (enc q58_2 t) = s58_2 f97 f98 t rec K := by kernel_rfl
theorem e58 (f97 : ShD × Int × Unit → Option (List Int × Unit)) (f98 : Device × Int × Unit → Option (Jet × Unit)) (a : densS p58) : runF (E58 f97 f98) tab (fun _ => false) p58 r58 Proofs.Tryz.f58 (L58 f97 f98) a = F58 f97 f98 a := by kernel_rfl
theorem ok58 {f97 : ShD × Int × Unit → Option (List Int × Unit)} {f98 : Device × Int × Unit → Option (Jet × Unit)} (h97 : OK Proofs.Tryz.prog 97 (mkE p97 r97 false f97)) (h98 : OK Proofs.Tryz.prog 98 (mkE p98 r98 false f98)) : OK Proofs.Tryz.prog 58 (mkE p58 r58 false (F58 f97 f98)) :=
  fn_ok tab_ok (envL_ok (l := [(97, mkE p97 r97 false f97), (98, mkE p98 r98 false f98)]) (OKs.cons h97 (OKs.cons h98 OKs.nil))) mixed (ann := (fun _ => false)) (L := L58 f97 f98) (fn := Proofs.Tryz.f58) (c := bodyC Proofs.Tryz.f58) (ls := [(0, loopC Proofs.Tryz.f58 0), (2, loopC Proofs.Tryz.f58 1)]) Proofs.Tryz.func58 (by kernel_rfl) (by kernel_rfl) (by kernel_rfl) (by kernel_rfl)
    (LoopsP.cons q58_0 (s58_0 f97 f98) rfl (e58_0 f97 f98) (LoopsP.cons q58_2 (s58_2 f97 f98) rfl (e58_2 f97 f98) LoopsP.nil)) (e58 f97 f98)
/-! spec.FlightOf -/
def p27 : List SP := [.t .jet]
def r27 : List SP := [.one (.int .i64)]
def q27_0 : List SP := pat 24 0 [(3, .one (.int .i64)), (4, .one (.int .i64)), (5, .one (.int .i64))]
noncomputable def s27_0 (f63 : Jet × Unit → Option (Bool × Unit)) (t2 : Int × Int × Int × Unit) (rec K : Int × Int × Int × Unit → Option (Int × Unit)) : Option (Int × Unit) :=
  cond (decide (t2.2.1 > 0)) (rec ((w64 (t2.1 + 1)), (w64 (t2.2.1 + t2.2.2.1)), (w64 (t2.2.2.1 - 2)), ())) (K (t2.1, t2.2.1, t2.2.2.1, ()))
noncomputable def F27 (f63 : Jet × Unit → Option (Bool × Unit)) (a : Jet × Unit) : Option (Int × Unit) :=
  (f63 (a.1, ())).bind fun x1 => cond (!x1.1) (some (0, ())) (iterF (s27_0 f63) fuel (1, a.1.Lift, (w64 (a.1.Lift - 2)), ()) fun t3 => some (t3.1, ()))
def E27 (f63 : Jet × Unit → Option (Bool × Unit)) : Env := envL [(63, mkE p63 r63 false f63)]
noncomputable def L27 (f63 : Jet × Unit → Option (Bool × Unit)) : LEnv (densS (muts p27 ++ r27)) := lenv [(0, loopL (R := densS (muts p27 ++ r27)) q27_0 (s27_0 f63))]
theorem e27_0 (f63 : Jet × Unit → Option (Bool × Unit)) (X : Nat → St → Option (densS (muts p27 ++ r27))) (rec K : densS q27_0 → Option (densS (muts p27 ++ r27))) (t : densS q27_0) :
    ev (E27 f63) tab (fun _ => false) (L27 f63) (retK tab p27 r27 Proofs.Tryz.f27.results.toList) (loopC Proofs.Tryz.f27 0) (fun i s => cond (Nat.beq i 0) (decK 100 q27_0 s K) (X i s)) (fun s => decK 100 q27_0 s rec) (enc q27_0 t) = s27_0 f63 t rec K := by kernel_rfl
theorem e27 (f63 : Jet × Unit → Option (Bool × Unit)) (a : densS p27) : runF (E27 f63) tab (fun _ => false) p27 r27 Proofs.Tryz.f27 (L27 f63) a = F27 f63 a := by kernel_rfl
theorem ok27 {f63 : Jet × Unit → Option (Bool × Unit)} (h63 : OK Proofs.Tryz.prog 63 (mkE p63 r63 false f63)) : OK Proofs.Tryz.prog 27 (mkE p27 r27 false (F27 f63)) :=
  fn_ok tab_ok (envL_ok (l := [(63, mkE p63 r63 false f63)]) (OKs.cons h63 OKs.nil)) mixed (ann := (fun _ => false)) (L := L27 f63) (fn := Proofs.Tryz.f27) (c := bodyC Proofs.Tryz.f27) (ls := [(0, loopC Proofs.Tryz.f27 0)]) Proofs.Tryz.func27 (by kernel_rfl) (by kernel_rfl) (by kernel_rfl) (by kernel_rfl)
    (LoopsP.cons q27_0 (s27_0 f63) rfl (e27_0 f63) LoopsP.nil) (e27 f63)
/-! spec.l2Mod -/
def p99 : List SP := [.one (.int .i64)]
def r99 : List SP := [.one (.int .i64)]
noncomputable def F99 (a : Int × Unit) : Option (Int × Unit) :=
  cond (decide ((Int.tmod a.1 4) < 0)) (some ((w64 ((Int.tmod a.1 4) + 4)), ())) (some ((Int.tmod a.1 4), ()))
def E99 : Env := envL []
noncomputable def L99 : LEnv (densS (muts p99 ++ r99)) := lenv []
theorem e99 (a : densS p99) : runF (E99) tab (fun _ => false) p99 r99 Proofs.Tryz.f99 (L99) a = F99 a := by kernel_rfl
theorem ok99 : OK Proofs.Tryz.prog 99 (mkE p99 r99 false (F99)) :=
  fn_ok tab_ok (envL_ok (l := []) OKs.nil) mixed (ann := (fun _ => false)) (L := L99) (fn := Proofs.Tryz.f99) (c := bodyC Proofs.Tryz.f99) (ls := []) Proofs.Tryz.func99 (by kernel_rfl) (by kernel_rfl) (by kernel_rfl) (by kernel_rfl)
    LoopsP.nil (e99)
/-! spec.l2Turn -/
def p61 : List SP := [.t .place, .one (.int .i64)]
def r61 : List SP := [.t .place]
def q61_0 : List SP := pat 19 0 [(2, .boxt 5000001 .place), (4, .boxt 5000002 .place), (5, .one (.int .i64))]
noncomputable def s61_0 (f99 : Int × Unit → Option (Int × Unit)) (t2 : Place × Place × Int × Unit) (rec K : Place × Place × Int × Unit → Option (Place × Unit)) : Option (Place × Unit) :=
  cond (decide (t2.2.2.1 > 0)) (rec ((⟨(w64 (0 - t2.1.Y)), t2.1.X⟩ : Place), t2.2.1, (w64 (t2.2.2.1 - 1)), ())) (K (t2.1, t2.2.1, t2.2.2.1, ()))
noncomputable def F61 (f99 : Int × Unit → Option (Int × Unit)) (a : Place × Int × Unit) : Option (Place × Unit) :=
  (f99 (a.2.1, ())).bind fun x1 => iterF (s61_0 f99) fuel (a.1, (⟨0, 0⟩ : Place), x1.1, ()) fun t3 => some (t3.1, ())
def E61 (f99 : Int × Unit → Option (Int × Unit)) : Env := envL [(99, mkE p99 r99 false f99)]
noncomputable def L61 (f99 : Int × Unit → Option (Int × Unit)) : LEnv (densS (muts p61 ++ r61)) := lenv [(0, loopL (R := densS (muts p61 ++ r61)) q61_0 (s61_0 f99))]
theorem e61_0 (f99 : Int × Unit → Option (Int × Unit)) (X : Nat → St → Option (densS (muts p61 ++ r61))) (rec K : densS q61_0 → Option (densS (muts p61 ++ r61))) (t : densS q61_0) :
    ev (E61 f99) tab (fun _ => false) (L61 f99) (retK tab p61 r61 Proofs.Tryz.f61.results.toList) (loopC Proofs.Tryz.f61 0) (fun i s => cond (Nat.beq i 0) (decK 100 q61_0 s K) (X i s)) (fun s => decK 100 q61_0 s rec) (enc q61_0 t) = s61_0 f99 t rec K := by kernel_rfl
theorem e61 (f99 : Int × Unit → Option (Int × Unit)) (a : densS p61) : runF (E61 f99) tab (fun _ => false) p61 r61 Proofs.Tryz.f61 (L61 f99) a = F61 f99 a := by kernel_rfl
theorem ok61 {f99 : Int × Unit → Option (Int × Unit)} (h99 : OK Proofs.Tryz.prog 99 (mkE p99 r99 false f99)) : OK Proofs.Tryz.prog 61 (mkE p61 r61 false (F61 f99)) :=
  fn_ok tab_ok (envL_ok (l := [(99, mkE p99 r99 false f99)]) (OKs.cons h99 OKs.nil)) mixed (ann := (fun _ => false)) (L := L61 f99) (fn := Proofs.Tryz.f61) (c := bodyC Proofs.Tryz.f61) (ls := [(0, loopC Proofs.Tryz.f61 0)]) Proofs.Tryz.func61 (by kernel_rfl) (by kernel_rfl) (by kernel_rfl) (by kernel_rfl)
    (LoopsP.cons q61_0 (s61_0 f99) rfl (e61_0 f99) LoopsP.nil) (e61 f99)
/-! spec.l2Add -/
def p30 : List SP := [.t .place, .t .place]
def r30 : List SP := [.t .place]
noncomputable def F30 (a : Place × Place × Unit) : Option (Place × Unit) :=
  some ((⟨(w64 (a.1.X + a.2.1.X)), (w64 (a.1.Y + a.2.1.Y))⟩ : Place), ())
def E30 : Env := envL []
noncomputable def L30 : LEnv (densS (muts p30 ++ r30)) := lenv []
theorem e30 (a : densS p30) : runF (E30) tab (fun _ => false) p30 r30 Proofs.Tryz.f30 (L30) a = F30 a := by kernel_rfl
theorem ok30 : OK Proofs.Tryz.prog 30 (mkE p30 r30 false (F30)) :=
  fn_ok tab_ok (envL_ok (l := []) OKs.nil) mixed (ann := (fun _ => false)) (L := L30) (fn := Proofs.Tryz.f30) (c := bodyC Proofs.Tryz.f30) (ls := []) Proofs.Tryz.func30 (by kernel_rfl) (by kernel_rfl) (by kernel_rfl) (by kernel_rfl)
    LoopsP.nil (e30)
/-! spec.l3Place -/
def p100 : List SP := [.t .jet, .one (.int .i64)]
def r100 : List SP := [.t .place]
noncomputable def F100 (f61 : Place × Int × Unit → Option (Place × Unit)) (f30 : Place × Place × Unit → Option (Place × Unit)) (a : Jet × Int × Unit) : Option (Place × Unit) :=
  (f61 ((⟨(w64 (a.2.1 * a.1.Tilt)), 0⟩ : Place), a.1.Heading, ())).bind fun x1 => (f30 (a.1.At, x1.1, ())).bind fun x2 => some (x2.1, ())
def E100 (f61 : Place × Int × Unit → Option (Place × Unit)) (f30 : Place × Place × Unit → Option (Place × Unit)) : Env := envL [(61, mkE p61 r61 false f61), (30, mkE p30 r30 false f30)]
noncomputable def L100 (f61 : Place × Int × Unit → Option (Place × Unit)) (f30 : Place × Place × Unit → Option (Place × Unit)) : LEnv (densS (muts p100 ++ r100)) := lenv []
theorem e100 (f61 : Place × Int × Unit → Option (Place × Unit)) (f30 : Place × Place × Unit → Option (Place × Unit)) (a : densS p100) : runF (E100 f61 f30) tab (fun _ => false) p100 r100 Proofs.Tryz.f100 (L100 f61 f30) a = F100 f61 f30 a := by kernel_rfl
theorem ok100 {f61 : Place × Int × Unit → Option (Place × Unit)} {f30 : Place × Place × Unit → Option (Place × Unit)} (h61 : OK Proofs.Tryz.prog 61 (mkE p61 r61 false f61)) (h30 : OK Proofs.Tryz.prog 30 (mkE p30 r30 false f30)) : OK Proofs.Tryz.prog 100 (mkE p100 r100 false (F100 f61 f30)) :=
  fn_ok tab_ok (envL_ok (l := [(61, mkE p61 r61 false f61), (30, mkE p30 r30 false f30)]) (OKs.cons h61 (OKs.cons h30 OKs.nil))) mixed (ann := (fun _ => false)) (L := L100 f61 f30) (fn := Proofs.Tryz.f100) (c := bodyC Proofs.Tryz.f100) (ls := []) Proofs.Tryz.func100 (by kernel_rfl) (by kernel_rfl) (by kernel_rfl) (by kernel_rfl)
    LoopsP.nil (e100 f61 f30)
/-! spec.PlaceAt -/
def p62 : List SP := [.t .jet, .one (.int .i64)]
def r62 : List SP := [.t .place, .one (.bool)]
noncomputable def F62 (f63 : Jet × Unit → Option (Bool × Unit)) (f27 : Jet × Unit → Option (Int × Unit)) (f100 : Jet × Int × Unit → Option (Place × Unit)) (a : Jet × Int × Unit) : Option (Place × Bool × Unit) :=
  (f63 (a.1, ())).bind fun x1 => cond (!(!x1.1)) (cond (!(decide (a.2.1 < 0))) ((f27 (a.1, ())).bind fun x2 => cond (decide (a.2.1 > x2.1)) (some ((⟨0, 0⟩ : Place), false, ())) ((f100 (a.1, a.2.1, ())).bind fun x3 => some (x3.1, true, ()))) (some ((⟨0, 0⟩ : Place), false, ()))) (some ((⟨0, 0⟩ : Place), false, ()))
def E62 (f63 : Jet × Unit → Option (Bool × Unit)) (f27 : Jet × Unit → Option (Int × Unit)) (f100 : Jet × Int × Unit → Option (Place × Unit)) : Env := envL [(63, mkE p63 r63 false f63), (27, mkE p27 r27 false f27), (100, mkE p100 r100 false f100)]
noncomputable def L62 (f63 : Jet × Unit → Option (Bool × Unit)) (f27 : Jet × Unit → Option (Int × Unit)) (f100 : Jet × Int × Unit → Option (Place × Unit)) : LEnv (densS (muts p62 ++ r62)) := lenv []
theorem e62 (f63 : Jet × Unit → Option (Bool × Unit)) (f27 : Jet × Unit → Option (Int × Unit)) (f100 : Jet × Int × Unit → Option (Place × Unit)) (a : densS p62) : runF (E62 f63 f27 f100) tab (fun _ => false) p62 r62 Proofs.Tryz.f62 (L62 f63 f27 f100) a = F62 f63 f27 f100 a := by kernel_rfl
theorem ok62 {f63 : Jet × Unit → Option (Bool × Unit)} {f27 : Jet × Unit → Option (Int × Unit)} {f100 : Jet × Int × Unit → Option (Place × Unit)} (h63 : OK Proofs.Tryz.prog 63 (mkE p63 r63 false f63)) (h27 : OK Proofs.Tryz.prog 27 (mkE p27 r27 false f27)) (h100 : OK Proofs.Tryz.prog 100 (mkE p100 r100 false f100)) : OK Proofs.Tryz.prog 62 (mkE p62 r62 false (F62 f63 f27 f100)) :=
  fn_ok tab_ok (envL_ok (l := [(63, mkE p63 r63 false f63), (27, mkE p27 r27 false f27), (100, mkE p100 r100 false f100)]) (OKs.cons h63 (OKs.cons h27 (OKs.cons h100 OKs.nil)))) mixed (ann := (fun _ => false)) (L := L62 f63 f27 f100) (fn := Proofs.Tryz.f62) (c := bodyC Proofs.Tryz.f62) (ls := []) Proofs.Tryz.func62 (by kernel_rfl) (by kernel_rfl) (by kernel_rfl) (by kernel_rfl)
    LoopsP.nil (e62 f63 f27 f100)
/-! spec.LandingOf -/
def p26 : List SP := [.t .jet]
def r26 : List SP := [.t .place, .one (.bool)]
noncomputable def F26 (f27 : Jet × Unit → Option (Int × Unit)) (f62 : Jet × Int × Unit → Option (Place × Bool × Unit)) (a : Jet × Unit) : Option (Place × Bool × Unit) :=
  (f27 (a.1, ())).bind fun x1 => (f62 (a.1, x1.1, ())).bind fun x2 => some (x2.1, x2.2.1, ())
def E26 (f27 : Jet × Unit → Option (Int × Unit)) (f62 : Jet × Int × Unit → Option (Place × Bool × Unit)) : Env := envL [(27, mkE p27 r27 false f27), (62, mkE p62 r62 false f62)]
noncomputable def L26 (f27 : Jet × Unit → Option (Int × Unit)) (f62 : Jet × Int × Unit → Option (Place × Bool × Unit)) : LEnv (densS (muts p26 ++ r26)) := lenv []
theorem e26 (f27 : Jet × Unit → Option (Int × Unit)) (f62 : Jet × Int × Unit → Option (Place × Bool × Unit)) (a : densS p26) : runF (E26 f27 f62) tab (fun _ => false) p26 r26 Proofs.Tryz.f26 (L26 f27 f62) a = F26 f27 f62 a := by kernel_rfl
theorem ok26 {f27 : Jet × Unit → Option (Int × Unit)} {f62 : Jet × Int × Unit → Option (Place × Bool × Unit)} (h27 : OK Proofs.Tryz.prog 27 (mkE p27 r27 false f27)) (h62 : OK Proofs.Tryz.prog 62 (mkE p62 r62 false f62)) : OK Proofs.Tryz.prog 26 (mkE p26 r26 false (F26 f27 f62)) :=
  fn_ok tab_ok (envL_ok (l := [(27, mkE p27 r27 false f27), (62, mkE p62 r62 false f62)]) (OKs.cons h27 (OKs.cons h62 OKs.nil))) mixed (ann := (fun _ => false)) (L := L26 f27 f62) (fn := Proofs.Tryz.f26) (c := bodyC Proofs.Tryz.f26) (ls := []) Proofs.Tryz.func26 (by kernel_rfl) (by kernel_rfl) (by kernel_rfl) (by kernel_rfl)
    LoopsP.nil (e26 f27 f62)
/-! spec.WorstDrift -/
def p25 : List SP := [.one (.r .place), .one (.int .i64)]
def r25 : List SP := [.t .place]
def q25_0 : List SP := pat 43 0 [(1, .one (.int .i64)), (4, .boxt 5000001 .place), (5, .boxt 5000002 .place), (18, .one (.r .place)), (19, .one (.int .i64)), (20, .one (.int .i64))]
noncomputable def s25_0 (f22 : List Place × Unit → Option (Bool × Unit)) (f60 : Int × Unit → Option (Bool × Unit)) (f61 : Place × Int × Unit → Option (Place × Unit)) (t3 : Int × Place × Place × List Place × Int × Int × Unit) (rec K : Int × Place × Place × List Place × Int × Int × Unit → Option (Place × Unit)) : Option (Place × Unit) :=
  cond (decide (t3.2.2.2.2.2.1 < t3.2.2.2.2.1)) (rdL t3.2.2.2.1 t3.2.2.2.2.2.1 fun d4 => cond (!(decide (t3.2.2.2.2.2.1 = 0))) ((f61 (d4, (w64 (0 - t3.1)), ())).bind fun x5 => (f61 (t3.2.2.1, (w64 (0 - t3.1)), ())).bind fun x6 => cond (decide (x5.1.X > x6.1.X)) (rec (t3.1, t3.2.1, d4, t3.2.2.2.1, t3.2.2.2.2.1, (w64 (t3.2.2.2.2.2.1 + 1)), ())) (rec (t3.1, t3.2.1, t3.2.2.1, t3.2.2.2.1, t3.2.2.2.2.1, (w64 (t3.2.2.2.2.2.1 + 1)), ()))) (rec (t3.1, t3.2.1, d4, t3.2.2.2.1, t3.2.2.2.2.1, (w64 (t3.2.2.2.2.2.1 + 1)), ()))) (K (t3.1, t3.2.1, t3.2.2.1, t3.2.2.2.1, t3.2.2.2.2.1, t3.2.2.2.2.2.1, ()))
noncomputable def F25 (f22 : List Place × Unit → Option (Bool × Unit)) (f60 : Int × Unit → Option (Bool × Unit)) (f61 : Place × Int × Unit → Option (Place × Unit)) (a : List Place × Int × Unit) : Option (Place × Unit) :=
  (f22 (a.1, ())).bind fun x1 => cond (!(!x1.1)) ((f60 (a.2.1, ())).bind fun x2 => cond (!x2.1) (some ((⟨0, 0⟩ : Place), ())) (iterF (s25_0 f22 f60 f61) fuel (a.2.1, (⟨0, 0⟩ : Place), (⟨0, 0⟩ : Place), a.1, (Int.ofNat (List.length a.1)), 0, ()) fun t7 => some (t7.2.2.1, ()))) (some ((⟨0, 0⟩ : Place), ()))
def E25 (f22 : List Place × Unit → Option (Bool × Unit)) (f60 : Int × Unit → Option (Bool × Unit)) (f61 : Place × Int × Unit → Option (Place × Unit)) : Env := envL [(22, mkE p22 r22 false f22), (60, mkE p60 r60 false f60), (61, mkE p61 r61 false f61)]
noncomputable def L25 (f22 : List Place × Unit → Option (Bool × Unit)) (f60 : Int × Unit → Option (Bool × Unit)) (f61 : Place × Int × Unit → Option (Place × Unit)) : LEnv (densS (muts p25 ++ r25)) := lenv [(0, loopL (R := densS (muts p25 ++ r25)) q25_0 (s25_0 f22 f60 f61))]
theorem e25_0 (f22 : List Place × Unit → Option (Bool × Unit)) (f60 : Int × Unit → Option (Bool × Unit)) (f61 : Place × Int × Unit → Option (Place × Unit)) (X : Nat → St → Option (densS (muts p25 ++ r25))) (rec K : densS q25_0 → Option (densS (muts p25 ++ r25))) (t : densS q25_0) :
    ev (E25 f22 f60 f61) tab (fun _ => false) (L25 f22 f60 f61) (retK tab p25 r25 Proofs.Tryz.f25.results.toList) (loopC Proofs.Tryz.f25 0) (fun i s => cond (Nat.beq i 0) (decK 100 q25_0 s K) (X i s)) (fun s => decK 100 q25_0 s rec) (enc q25_0 t) = s25_0 f22 f60 f61 t rec K := by kernel_rfl
theorem e25 (f22 : List Place × Unit → Option (Bool × Unit)) (f60 : Int × Unit → Option (Bool × Unit)) (f61 : Place × Int × Unit → Option (Place × Unit)) (a : densS p25) : runF (E25 f22 f60 f61) tab (fun _ => false) p25 r25 Proofs.Tryz.f25 (L25 f22 f60 f61) a = F25 f22 f60 f61 a := by kernel_rfl
theorem ok25 {f22 : List Place × Unit → Option (Bool × Unit)} {f60 : Int × Unit → Option (Bool × Unit)} {f61 : Place × Int × Unit → Option (Place × Unit)} (h22 : OK Proofs.Tryz.prog 22 (mkE p22 r22 false f22)) (h60 : OK Proofs.Tryz.prog 60 (mkE p60 r60 false f60)) (h61 : OK Proofs.Tryz.prog 61 (mkE p61 r61 false f61)) : OK Proofs.Tryz.prog 25 (mkE p25 r25 false (F25 f22 f60 f61)) :=
  fn_ok tab_ok (envL_ok (l := [(22, mkE p22 r22 false f22), (60, mkE p60 r60 false f60), (61, mkE p61 r61 false f61)]) (OKs.cons h22 (OKs.cons h60 (OKs.cons h61 OKs.nil)))) mixed (ann := (fun _ => false)) (L := L25 f22 f60 f61) (fn := Proofs.Tryz.f25) (c := bodyC Proofs.Tryz.f25) (ls := [(0, loopC Proofs.Tryz.f25 0)]) Proofs.Tryz.func25 (by kernel_rfl) (by kernel_rfl) (by kernel_rfl) (by kernel_rfl)
    (LoopsP.cons q25_0 (s25_0 f22 f60 f61) rfl (e25_0 f22 f60 f61) LoopsP.nil) (e25 f22 f60 f61)
/-! spec.l10Side -/
def p59 : List SP := [.t .place, .t .box, .one (.int .i64)]
def r59 : List SP := [.one (.bool)]
noncomputable def F59 (a : Place × Box × Int × Unit) : Option (Bool × Unit) :=
  rdL ([(decide (a.1.X > a.2.1.High.X)), (decide (a.1.Y > a.2.1.High.Y)), (decide (a.1.X < a.2.1.Low.X)), (decide (a.1.Y < a.2.1.Low.Y))] : List Bool) a.2.2.1 fun _ => (([(decide (a.1.X > a.2.1.High.X)), (decide (a.1.Y > a.2.1.High.Y)), (decide (a.1.X < a.2.1.Low.X)), (decide (a.1.Y < a.2.1.Low.Y))] : List Bool)[(Int.toNat a.2.2.1)]?).bind fun d1 => some (d1, ())
def E59 : Env := envL []
noncomputable def L59 : LEnv (densS (muts p59 ++ r59)) := lenv []
theorem e59 (a : densS p59) : runF (E59) tab (fun _ => false) p59 r59 Proofs.Tryz.f59 (L59) a = F59 a := by kernel_rfl
theorem ok59 : OK Proofs.Tryz.prog 59 (mkE p59 r59 false (F59)) :=
  fn_ok tab_ok (envL_ok (l := []) OKs.nil) mixed (ann := (fun _ => false)) (L := L59) (fn := Proofs.Tryz.f59) (c := bodyC Proofs.Tryz.f59) (ls := []) Proofs.Tryz.func59 (by kernel_rfl) (by kernel_rfl) (by kernel_rfl) (by kernel_rfl)
    LoopsP.nil (e59)
/-! spec.l10Wet -/
def p24 : List SP := [.agg [.r .device, .r .cue, .r .gust, .int .i64], .one (.r .place), .t .box]
def r24 : List SP := [.t .throw, .one (.int .i64), .one (.bool)]
def q24_2 : List SP := pat 57 0 [(1, .one (.r .place)), (5, .boxt 5002001 .box), (6, .boxt 5002002 .throw), (10, .boxt 5002003 .throw), (11, .boxt 5002004 .place), (13, .one (.int .i64)), (17, .one (.o 5002005 .throw)), (18, .one (.int .i64)), (19, .one (.int .i64))]
noncomputable def s24_2 (f58 : ShD × Unit → Option (List Throw × Unit)) (f26 : Jet × Unit → Option (Place × Bool × Unit)) (f25 : List Place × Int × Unit → Option (Place × Unit)) (f27 : Jet × Unit → Option (Int × Unit)) (f30 : Place × Place × Unit → Option (Place × Unit)) (f59 : Place × Box × Int × Unit → Option (Bool × Unit)) (t5 : List Place × Box × Throw × Throw × Place × Int × List Throw × Int × Int × Unit) (rec K : List Place × Box × Throw × Throw × Place × Int × List Throw × Int × Int × Unit → Option (Throw × Int × Bool × Unit)) : Option (Throw × Int × Bool × Unit) :=
  cond (decide (t5.2.2.2.2.2.1 < 4)) ((f25 (t5.1, t5.2.2.2.2.2.1, ())).bind fun x6 => (f27 (t5.2.2.2.1.jet, ())).bind fun x7 => (f30 (t5.2.2.2.2.1, (⟨(w64 (x7.1 * x6.1.X)), (w64 (x7.1 * x6.1.Y))⟩ : Place), ())).bind fun x8 => (f59 (x8.1, t5.2.1, t5.2.2.2.2.2.1, ())).bind fun x9 => cond x9.1 (some (t5.2.2.2.1, t5.2.2.2.2.2.1, true, ())) (rec (t5.1, t5.2.1, t5.2.2.1, t5.2.2.2.1, t5.2.2.2.2.1, (w64 (t5.2.2.2.2.2.1 + 1)), t5.2.2.2.2.2.2.1, t5.2.2.2.2.2.2.2.1, t5.2.2.2.2.2.2.2.2.1, ()))) (K (t5.1, t5.2.1, t5.2.2.1, t5.2.2.2.1, t5.2.2.2.2.1, t5.2.2.2.2.2.1, t5.2.2.2.2.2.2.1, t5.2.2.2.2.2.2.2.1, t5.2.2.2.2.2.2.2.2.1, ()))
def q24_0 : List SP := pat 57 0 [(1, .one (.r .place)), (5, .boxt 5000001 .box), (6, .boxt 5000002 .throw), (17, .one (.o 5000003 .throw)), (18, .one (.int .i64)), (19, .one (.int .i64))]
noncomputable def s24_0 (f58 : ShD × Unit → Option (List Throw × Unit)) (f26 : Jet × Unit → Option (Place × Bool × Unit)) (f25 : List Place × Int × Unit → Option (Place × Unit)) (f27 : Jet × Unit → Option (Int × Unit)) (f30 : Place × Place × Unit → Option (Place × Unit)) (f59 : Place × Box × Int × Unit → Option (Bool × Unit)) (t2 : List Place × Box × Throw × List Throw × Int × Int × Unit) (rec K : List Place × Box × Throw × List Throw × Int × Int × Unit → Option (Throw × Int × Bool × Unit)) : Option (Throw × Int × Bool × Unit) :=
  cond (decide (t2.2.2.2.2.2.1 < t2.2.2.2.2.1)) (rdL t2.2.2.2.1 t2.2.2.2.2.2.1 fun _ => (t2.2.2.2.1[(Int.toNat t2.2.2.2.2.2.1)]?).bind fun d3 => (f26 (d3.jet, ())).bind fun x4 => iterF (s24_2 f58 f26 f25 f27 f30 f59) fuel (t2.1, t2.2.1, t2.2.2.1, d3, x4.1, 0, t2.2.2.2.1, t2.2.2.2.2.1, t2.2.2.2.2.2.1, ()) fun t10 => rec (t10.1, t10.2.1, t10.2.2.1, t10.2.2.2.2.2.2.1, t10.2.2.2.2.2.2.2.1, (w64 (t10.2.2.2.2.2.2.2.2.1 + 1)), ())) (K (t2.1, t2.2.1, t2.2.2.1, t2.2.2.2.1, t2.2.2.2.2.1, t2.2.2.2.2.2.1, ()))
noncomputable def F24 (f58 : ShD × Unit → Option (List Throw × Unit)) (f26 : Jet × Unit → Option (Place × Bool × Unit)) (f25 : List Place × Int × Unit → Option (Place × Unit)) (f27 : Jet × Unit → Option (Int × Unit)) (f30 : Place × Place × Unit → Option (Place × Unit)) (f59 : Place × Box × Int × Unit → Option (Bool × Unit)) (a : ShD × List Place × Box × Unit) : Option (Throw × Int × Bool × Unit) :=
  (f58 ((a.1.1, a.1.2.1, a.1.2.2.1, a.1.2.2.2.1, ()), ())).bind fun x1 => iterF (s24_0 f58 f26 f25 f27 f30 f59) fuel (a.2.1, a.2.2.1, (⟨[], 0, ⟨⟨0, 0⟩, 0, 0, 0⟩⟩ : Throw), x1.1, (Int.ofNat (List.length x1.1)), 0, ()) fun t11 => some ((⟨[], 0, ⟨⟨0, 0⟩, 0, 0, 0⟩⟩ : Throw), 0, false, ())
def E24 (f58 : ShD × Unit → Option (List Throw × Unit)) (f26 : Jet × Unit → Option (Place × Bool × Unit)) (f25 : List Place × Int × Unit → Option (Place × Unit)) (f27 : Jet × Unit → Option (Int × Unit)) (f30 : Place × Place × Unit → Option (Place × Unit)) (f59 : Place × Box × Int × Unit → Option (Bool × Unit)) : Env := envL [(58, mkE p58 r58 false f58), (26, mkE p26 r26 false f26), (25, mkE p25 r25 false f25), (27, mkE p27 r27 false f27), (30, mkE p30 r30 false f30), (59, mkE p59 r59 false f59)]
noncomputable def L24 (f58 : ShD × Unit → Option (List Throw × Unit)) (f26 : Jet × Unit → Option (Place × Bool × Unit)) (f25 : List Place × Int × Unit → Option (Place × Unit)) (f27 : Jet × Unit → Option (Int × Unit)) (f30 : Place × Place × Unit → Option (Place × Unit)) (f59 : Place × Box × Int × Unit → Option (Bool × Unit)) : LEnv (densS (muts p24 ++ r24)) := lenv [(0, loopL (R := densS (muts p24 ++ r24)) q24_0 (s24_0 f58 f26 f25 f27 f30 f59)), (2, loopL (R := densS (muts p24 ++ r24)) q24_2 (s24_2 f58 f26 f25 f27 f30 f59))]
theorem e24_0 (f58 : ShD × Unit → Option (List Throw × Unit)) (f26 : Jet × Unit → Option (Place × Bool × Unit)) (f25 : List Place × Int × Unit → Option (Place × Unit)) (f27 : Jet × Unit → Option (Int × Unit)) (f30 : Place × Place × Unit → Option (Place × Unit)) (f59 : Place × Box × Int × Unit → Option (Bool × Unit)) (X : Nat → St → Option (densS (muts p24 ++ r24))) (rec K : densS q24_0 → Option (densS (muts p24 ++ r24))) (t : densS q24_0) :
    ev (E24 f58 f26 f25 f27 f30 f59) tab (fun _ => false) (L24 f58 f26 f25 f27 f30 f59) (retK tab p24 r24 Proofs.Tryz.f24.results.toList) (loopC Proofs.Tryz.f24 0) (fun i s => cond (Nat.beq i 0) (decK 100 q24_0 s K) (X i s)) (fun s => decK 100 q24_0 s rec) (enc q24_0 t) = s24_0 f58 f26 f25 f27 f30 f59 t rec K := by kernel_rfl
theorem e24_2 (f58 : ShD × Unit → Option (List Throw × Unit)) (f26 : Jet × Unit → Option (Place × Bool × Unit)) (f25 : List Place × Int × Unit → Option (Place × Unit)) (f27 : Jet × Unit → Option (Int × Unit)) (f30 : Place × Place × Unit → Option (Place × Unit)) (f59 : Place × Box × Int × Unit → Option (Bool × Unit)) (X : Nat → St → Option (densS (muts p24 ++ r24))) (rec K : densS q24_2 → Option (densS (muts p24 ++ r24))) (t : densS q24_2) :
    ev (E24 f58 f26 f25 f27 f30 f59) tab (fun _ => false) (L24 f58 f26 f25 f27 f30 f59) (retK tab p24 r24 Proofs.Tryz.f24.results.toList) (loopC Proofs.Tryz.f24 1) (fun i s => cond (Nat.beq i 2) (decK 100 q24_2 s K) (X i s)) (fun s => decK 100 q24_2 s rec) (enc q24_2 t) = s24_2 f58 f26 f25 f27 f30 f59 t rec K := by kernel_rfl
theorem e24 (f58 : ShD × Unit → Option (List Throw × Unit)) (f26 : Jet × Unit → Option (Place × Bool × Unit)) (f25 : List Place × Int × Unit → Option (Place × Unit)) (f27 : Jet × Unit → Option (Int × Unit)) (f30 : Place × Place × Unit → Option (Place × Unit)) (f59 : Place × Box × Int × Unit → Option (Bool × Unit)) (a : densS p24) : runF (E24 f58 f26 f25 f27 f30 f59) tab (fun _ => false) p24 r24 Proofs.Tryz.f24 (L24 f58 f26 f25 f27 f30 f59) a = F24 f58 f26 f25 f27 f30 f59 a := by kernel_rfl
theorem ok24 {f58 : ShD × Unit → Option (List Throw × Unit)} {f26 : Jet × Unit → Option (Place × Bool × Unit)} {f25 : List Place × Int × Unit → Option (Place × Unit)} {f27 : Jet × Unit → Option (Int × Unit)} {f30 : Place × Place × Unit → Option (Place × Unit)} {f59 : Place × Box × Int × Unit → Option (Bool × Unit)} (h58 : OK Proofs.Tryz.prog 58 (mkE p58 r58 false f58)) (h26 : OK Proofs.Tryz.prog 26 (mkE p26 r26 false f26)) (h25 : OK Proofs.Tryz.prog 25 (mkE p25 r25 false f25)) (h27 : OK Proofs.Tryz.prog 27 (mkE p27 r27 false f27)) (h30 : OK Proofs.Tryz.prog 30 (mkE p30 r30 false f30)) (h59 : OK Proofs.Tryz.prog 59 (mkE p59 r59 false f59)) : OK Proofs.Tryz.prog 24 (mkE p24 r24 false (F24 f58 f26 f25 f27 f30 f59)) :=
  fn_ok tab_ok (envL_ok (l := [(58, mkE p58 r58 false f58), (26, mkE p26 r26 false f26), (25, mkE p25 r25 false f25), (27, mkE p27 r27 false f27), (30, mkE p30 r30 false f30), (59, mkE p59 r59 false f59)]) (OKs.cons h58 (OKs.cons h26 (OKs.cons h25 (OKs.cons h27 (OKs.cons h30 (OKs.cons h59 OKs.nil))))))) mixed (ann := (fun _ => false)) (L := L24 f58 f26 f25 f27 f30 f59) (fn := Proofs.Tryz.f24) (c := bodyC Proofs.Tryz.f24) (ls := [(0, loopC Proofs.Tryz.f24 0), (2, loopC Proofs.Tryz.f24 1)]) Proofs.Tryz.func24 (by kernel_rfl) (by kernel_rfl) (by kernel_rfl) (by kernel_rfl)
    (LoopsP.cons q24_0 (s24_0 f58 f26 f25 f27 f30 f59) rfl (e24_0 f58 f26 f25 f27 f30 f59) (LoopsP.cons q24_2 (s24_2 f58 f26 f25 f27 f30 f59) rfl (e24_2 f58 f26 f25 f27 f30 f59) LoopsP.nil)) (e24 f58 f26 f25 f27 f30 f59)
/-! spec.FormatNumber -/
def p28 : List SP := [.one (.int .i64)]
def r28 : List SP := [.one (.str)]
noncomputable def F28 (f28 : Int × Unit → Option (Str × Unit)) (a : Int × Unit) : Option (Str × Unit) :=
  cond (decide (a.1 = (-9223372036854775808))) (some ([45, 57, 50, 50, 51, 51, 55, 50, 48, 51, 54, 56, 53, 52, 55, 55, 53, 56, 48, 56], ())) (cond (decide (a.1 < 0)) ((f28 ((w64 (0 - a.1)), ())).bind fun x1 => capK (List.length [45] + List.length x1.1) (some (([45] ++ x1.1), ()))) (cond (decide (a.1 > 9)) ((f28 ((w64 (Int.tdiv a.1 10)), ())).bind fun x2 => capK (List.length x2.1 + List.length (List.map (fun n => UInt8.ofNat (Int.toNat n)) ([(IntKind.wrap .u8 (w64 (48 + (Int.tmod a.1 10))))] : List Int))) (some ((x2.1 ++ (List.map (fun n => UInt8.ofNat (Int.toNat n)) ([(IntKind.wrap .u8 (w64 (48 + (Int.tmod a.1 10))))] : List Int))), ()))) (some ((List.map (fun n => UInt8.ofNat (Int.toNat n)) ([(IntKind.wrap .u8 (w64 (48 + (Int.tmod a.1 10))))] : List Int)), ()))))
def E28 (f28 : Int × Unit → Option (Str × Unit)) : Env := envL [(28, mkE p28 r28 false f28)]
noncomputable def L28 (f28 : Int × Unit → Option (Str × Unit)) : LEnv (densS (muts p28 ++ r28)) := lenv []
theorem e28 (f28 : Int × Unit → Option (Str × Unit)) (a : densS p28) : runF (E28 f28) tab (fun _ => false) p28 r28 Proofs.Tryz.f28 (L28 f28) a = F28 f28 a := by kernel_rfl
theorem ok28 {f28 : Int × Unit → Option (Str × Unit)} (h28 : OK Proofs.Tryz.prog 28 (mkE p28 r28 false f28)) : OK Proofs.Tryz.prog 28 (mkE p28 r28 false (F28 f28)) :=
  fn_ok tab_ok (envL_ok (l := [(28, mkE p28 r28 false f28)]) (OKs.cons h28 OKs.nil)) mixed (ann := (fun _ => false)) (L := L28 f28) (fn := Proofs.Tryz.f28) (c := bodyC Proofs.Tryz.f28) (ls := []) Proofs.Tryz.func28 (by kernel_rfl) (by kernel_rfl) (by kernel_rfl) (by kernel_rfl)
    LoopsP.nil (e28 f28)
/-! spec.FormatMeasure -/
def p64 : List SP := [.one (.int .i64)]
def r64 : List SP := [.one (.str)]
noncomputable def F64 (f96 : Int × Unit → Option (Bool × Unit)) (f28 : Int × Unit → Option (Str × Unit)) (a : Int × Unit) : Option (Str × Unit) :=
  (f96 (a.1, ())).bind fun x1 => cond (!x1.1) (some ([], ())) (cond (decide (a.1 < 0)) ((f28 ((w64 (Int.tdiv (w64 (0 - a.1)) 8)), ())).bind fun x2 => capK (List.length [45] + List.length x2.1) (rdL ([[], [46, 49, 50, 53], [46, 50, 53], [46, 51, 55, 53], [46, 53], [46, 54, 50, 53], [46, 55, 53], [46, 56, 55, 53]] : List Str) (Int.tmod (w64 (0 - a.1)) 8) fun _ => (([[], [46, 49, 50, 53], [46, 50, 53], [46, 51, 55, 53], [46, 53], [46, 54, 50, 53], [46, 55, 53], [46, 56, 55, 53]] : List Str)[(Int.toNat (Int.tmod (w64 (0 - a.1)) 8))]?).bind fun d3 => capK (List.length ([45] ++ x2.1) + List.length d3) (some ((([45] ++ x2.1) ++ d3), ())))) ((f28 ((w64 (Int.tdiv a.1 8)), ())).bind fun x4 => capK (List.length ([] : Str) + List.length x4.1) (rdL ([[], [46, 49, 50, 53], [46, 50, 53], [46, 51, 55, 53], [46, 53], [46, 54, 50, 53], [46, 55, 53], [46, 56, 55, 53]] : List Str) (Int.tmod a.1 8) fun _ => (([[], [46, 49, 50, 53], [46, 50, 53], [46, 51, 55, 53], [46, 53], [46, 54, 50, 53], [46, 55, 53], [46, 56, 55, 53]] : List Str)[(Int.toNat (Int.tmod a.1 8))]?).bind fun d5 => capK (List.length (([] : Str) ++ x4.1) + List.length d5) (some (((([] : Str) ++ x4.1) ++ d5), ())))))
def E64 (f96 : Int × Unit → Option (Bool × Unit)) (f28 : Int × Unit → Option (Str × Unit)) : Env := envL [(96, mkE p96 r96 false f96), (28, mkE p28 r28 false f28)]
noncomputable def L64 (f96 : Int × Unit → Option (Bool × Unit)) (f28 : Int × Unit → Option (Str × Unit)) : LEnv (densS (muts p64 ++ r64)) := lenv []
theorem e64 (f96 : Int × Unit → Option (Bool × Unit)) (f28 : Int × Unit → Option (Str × Unit)) (a : densS p64) : runF (E64 f96 f28) tab (fun _ => false) p64 r64 Proofs.Tryz.f64 (L64 f96 f28) a = F64 f96 f28 a := by kernel_rfl
theorem ok64 {f96 : Int × Unit → Option (Bool × Unit)} {f28 : Int × Unit → Option (Str × Unit)} (h96 : OK Proofs.Tryz.prog 96 (mkE p96 r96 false f96)) (h28 : OK Proofs.Tryz.prog 28 (mkE p28 r28 false f28)) : OK Proofs.Tryz.prog 64 (mkE p64 r64 false (F64 f96 f28)) :=
  fn_ok tab_ok (envL_ok (l := [(96, mkE p96 r96 false f96), (28, mkE p28 r28 false f28)]) (OKs.cons h96 (OKs.cons h28 OKs.nil))) mixed (ann := (fun _ => false)) (L := L64 f96 f28) (fn := Proofs.Tryz.f64) (c := bodyC Proofs.Tryz.f64) (ls := []) Proofs.Tryz.func64 (by kernel_rfl) (by kernel_rfl) (by kernel_rfl) (by kernel_rfl)
    LoopsP.nil (e64 f96 f28)
/-! spec.FormatPlace -/
def p29 : List SP := [.t .place]
def r29 : List SP := [.one (.str)]
noncomputable def F29 (f57 : Place × Unit → Option (Bool × Unit)) (f64 : Int × Unit → Option (Str × Unit)) (a : Place × Unit) : Option (Str × Unit) :=
  (f57 (a.1, ())).bind fun x1 => cond (!x1.1) (some ([], ())) ((f64 (a.1.X, ())).bind fun x2 => cond (decide (a.1.Y ≥ 0)) (capK (List.length x2.1 + List.length [43]) ((f64 (a.1.Y, ())).bind fun x3 => capK (List.length (x2.1 ++ [43]) + List.length x3.1) (capK (List.length ((x2.1 ++ [43]) ++ x3.1) + List.length [105]) (some ((((x2.1 ++ [43]) ++ x3.1) ++ [105]), ()))))) ((f64 (a.1.Y, ())).bind fun x4 => capK (List.length x2.1 + List.length x4.1) (capK (List.length (x2.1 ++ x4.1) + List.length [105]) (some (((x2.1 ++ x4.1) ++ [105]), ())))))
def E29 (f57 : Place × Unit → Option (Bool × Unit)) (f64 : Int × Unit → Option (Str × Unit)) : Env := envL [(57, mkE p57 r57 false f57), (64, mkE p64 r64 false f64)]
noncomputable def L29 (f57 : Place × Unit → Option (Bool × Unit)) (f64 : Int × Unit → Option (Str × Unit)) : LEnv (densS (muts p29 ++ r29)) := lenv []
theorem e29 (f57 : Place × Unit → Option (Bool × Unit)) (f64 : Int × Unit → Option (Str × Unit)) (a : densS p29) : runF (E29 f57 f64) tab (fun _ => false) p29 r29 Proofs.Tryz.f29 (L29 f57 f64) a = F29 f57 f64 a := by kernel_rfl
theorem ok29 {f57 : Place × Unit → Option (Bool × Unit)} {f64 : Int × Unit → Option (Str × Unit)} (h57 : OK Proofs.Tryz.prog 57 (mkE p57 r57 false f57)) (h64 : OK Proofs.Tryz.prog 64 (mkE p64 r64 false f64)) : OK Proofs.Tryz.prog 29 (mkE p29 r29 false (F29 f57 f64)) :=
  fn_ok tab_ok (envL_ok (l := [(57, mkE p57 r57 false f57), (64, mkE p64 r64 false f64)]) (OKs.cons h57 (OKs.cons h64 OKs.nil))) mixed (ann := (fun _ => false)) (L := L29 f57 f64) (fn := Proofs.Tryz.f29) (c := bodyC Proofs.Tryz.f29) (ls := []) Proofs.Tryz.func29 (by kernel_rfl) (by kernel_rfl) (by kernel_rfl) (by kernel_rfl)
    LoopsP.nil (e29 f57 f64)
/-! spec.SafetyLine -/
def p7 : List SP := [.agg [.r .device, .r .cue, .r .gust, .int .i64], .one (.r .place), .t .box]
def r7 : List SP := [.one (.str)]
noncomputable def F7 (f21 : ShD × Unit → Option (Bool × Unit)) (f22 : List Place × Unit → Option (Bool × Unit)) (f23 : Box × Unit → Option (Bool × Unit)) (f24 : ShD × List Place × Box × Unit → Option (Throw × Int × Bool × Unit)) (f25 : List Place × Int × Unit → Option (Place × Unit)) (f26 : Jet × Unit → Option (Place × Bool × Unit)) (f27 : Jet × Unit → Option (Int × Unit)) (f28 : Int × Unit → Option (Str × Unit)) (f30 : Place × Place × Unit → Option (Place × Unit)) (f29 : Place × Unit → Option (Str × Unit)) (a : ShD × List Place × Box × Unit) : Option (Str × Unit) :=
  (f21 ((a.1.1, a.1.2.1, a.1.2.2.1, a.1.2.2.2.1, ()), ())).bind fun x1 => cond (!(!x1.1)) ((f22 (a.2.1, ())).bind fun x2 => cond (!(!x2.1)) ((f23 (a.2.2.1, ())).bind fun x3 => cond (!x3.1) (some ([110, 111, 116, 104, 105, 110, 103, 32, 116, 111, 32, 115, 97, 121], ())) ((f24 ((a.1.1, a.1.2.1, a.1.2.2.1, a.1.2.2.2.1, ()), a.2.1, a.2.2.1, ())).bind fun x4 => cond (!x4.2.2.1) (some ([115, 97, 102, 101], ())) ((f25 (a.2.1, x4.2.1, ())).bind fun x5 => (f26 (x4.1.jet, ())).bind fun x6 => (f27 (x4.1.jet, ())).bind fun x7 => capK (List.length [119, 101, 116, 58, 32] + List.length x4.1.name) (capK (List.length ([119, 101, 116, 58, 32] ++ x4.1.name) + List.length [32, 97, 116, 32]) ((f28 (x4.1.born, ())).bind fun x8 => capK (List.length (([119, 101, 116, 58, 32] ++ x4.1.name) ++ [32, 97, 116, 32]) + List.length x8.1) (capK (List.length ((([119, 101, 116, 58, 32] ++ x4.1.name) ++ [32, 97, 116, 32]) ++ x8.1) + List.length [32, 108, 97, 110, 100, 115, 32, 97, 116, 32]) ((f30 (x6.1, (⟨(w64 (x7.1 * x5.1.X)), (w64 (x7.1 * x5.1.Y))⟩ : Place), ())).bind fun x9 => (f29 (x9.1, ())).bind fun x10 => capK (List.length (((([119, 101, 116, 58, 32] ++ x4.1.name) ++ [32, 97, 116, 32]) ++ x8.1) ++ [32, 108, 97, 110, 100, 115, 32, 97, 116, 32]) + List.length x10.1) (capK (List.length ((((([119, 101, 116, 58, 32] ++ x4.1.name) ++ [32, 97, 116, 32]) ++ x8.1) ++ [32, 108, 97, 110, 100, 115, 32, 97, 116, 32]) ++ x10.1) + List.length [32, 105, 110, 32]) ((f29 (x5.1, ())).bind fun x11 => capK (List.length (((((([119, 101, 116, 58, 32] ++ x4.1.name) ++ [32, 97, 116, 32]) ++ x8.1) ++ [32, 108, 97, 110, 100, 115, 32, 97, 116, 32]) ++ x10.1) ++ [32, 105, 110, 32]) + List.length x11.1) (some (((((((([119, 101, 116, 58, 32] ++ x4.1.name) ++ [32, 97, 116, 32]) ++ x8.1) ++ [32, 108, 97, 110, 100, 115, 32, 97, 116, 32]) ++ x10.1) ++ [32, 105, 110, 32]) ++ x11.1), ()))))))))))) (some ([110, 111, 116, 104, 105, 110, 103, 32, 116, 111, 32, 115, 97, 121], ()))) (some ([110, 111, 116, 104, 105, 110, 103, 32, 116, 111, 32, 115, 97, 121], ()))
def E7 (f21 : ShD × Unit → Option (Bool × Unit)) (f22 : List Place × Unit → Option (Bool × Unit)) (f23 : Box × Unit → Option (Bool × Unit)) (f24 : ShD × List Place × Box × Unit → Option (Throw × Int × Bool × Unit)) (f25 : List Place × Int × Unit → Option (Place × Unit)) (f26 : Jet × Unit → Option (Place × Bool × Unit)) (f27 : Jet × Unit → Option (Int × Unit)) (f28 : Int × Unit → Option (Str × Unit)) (f30 : Place × Place × Unit → Option (Place × Unit)) (f29 : Place × Unit → Option (Str × Unit)) : Env := envL [(21, mkE p21 r21 false f21), (22, mkE p22 r22 false f22), (23, mkE p23 r23 false f23), (24, mkE p24 r24 false f24), (25, mkE p25 r25 false f25), (26, mkE p26 r26 false f26), (27, mkE p27 r27 false f27), (28, mkE p28 r28 false f28), (30, mkE p30 r30 false f30), (29, mkE p29 r29 false f29)]
noncomputable def L7 (f21 : ShD × Unit → Option (Bool × Unit)) (f22 : List Place × Unit → Option (Bool × Unit)) (f23 : Box × Unit → Option (Bool × Unit)) (f24 : ShD × List Place × Box × Unit → Option (Throw × Int × Bool × Unit)) (f25 : List Place × Int × Unit → Option (Place × Unit)) (f26 : Jet × Unit → Option (Place × Bool × Unit)) (f27 : Jet × Unit → Option (Int × Unit)) (f28 : Int × Unit → Option (Str × Unit)) (f30 : Place × Place × Unit → Option (Place × Unit)) (f29 : Place × Unit → Option (Str × Unit)) : LEnv (densS (muts p7 ++ r7)) := lenv []
theorem e7 (f21 : ShD × Unit → Option (Bool × Unit)) (f22 : List Place × Unit → Option (Bool × Unit)) (f23 : Box × Unit → Option (Bool × Unit)) (f24 : ShD × List Place × Box × Unit → Option (Throw × Int × Bool × Unit)) (f25 : List Place × Int × Unit → Option (Place × Unit)) (f26 : Jet × Unit → Option (Place × Bool × Unit)) (f27 : Jet × Unit → Option (Int × Unit)) (f28 : Int × Unit → Option (Str × Unit)) (f30 : Place × Place × Unit → Option (Place × Unit)) (f29 : Place × Unit → Option (Str × Unit)) (a : densS p7) : runF (E7 f21 f22 f23 f24 f25 f26 f27 f28 f30 f29) tab (fun _ => false) p7 r7 Proofs.Tryz.f7 (L7 f21 f22 f23 f24 f25 f26 f27 f28 f30 f29) a = F7 f21 f22 f23 f24 f25 f26 f27 f28 f30 f29 a := by kernel_rfl
theorem ok7 {f21 : ShD × Unit → Option (Bool × Unit)} {f22 : List Place × Unit → Option (Bool × Unit)} {f23 : Box × Unit → Option (Bool × Unit)} {f24 : ShD × List Place × Box × Unit → Option (Throw × Int × Bool × Unit)} {f25 : List Place × Int × Unit → Option (Place × Unit)} {f26 : Jet × Unit → Option (Place × Bool × Unit)} {f27 : Jet × Unit → Option (Int × Unit)} {f28 : Int × Unit → Option (Str × Unit)} {f30 : Place × Place × Unit → Option (Place × Unit)} {f29 : Place × Unit → Option (Str × Unit)} (h21 : OK Proofs.Tryz.prog 21 (mkE p21 r21 false f21)) (h22 : OK Proofs.Tryz.prog 22 (mkE p22 r22 false f22)) (h23 : OK Proofs.Tryz.prog 23 (mkE p23 r23 false f23)) (h24 : OK Proofs.Tryz.prog 24 (mkE p24 r24 false f24)) (h25 : OK Proofs.Tryz.prog 25 (mkE p25 r25 false f25)) (h26 : OK Proofs.Tryz.prog 26 (mkE p26 r26 false f26)) (h27 : OK Proofs.Tryz.prog 27 (mkE p27 r27 false f27)) (h28 : OK Proofs.Tryz.prog 28 (mkE p28 r28 false f28)) (h30 : OK Proofs.Tryz.prog 30 (mkE p30 r30 false f30)) (h29 : OK Proofs.Tryz.prog 29 (mkE p29 r29 false f29)) : OK Proofs.Tryz.prog 7 (mkE p7 r7 false (F7 f21 f22 f23 f24 f25 f26 f27 f28 f30 f29)) :=
  fn_ok tab_ok (envL_ok (l := [(21, mkE p21 r21 false f21), (22, mkE p22 r22 false f22), (23, mkE p23 r23 false f23), (24, mkE p24 r24 false f24), (25, mkE p25 r25 false f25), (26, mkE p26 r26 false f26), (27, mkE p27 r27 false f27), (28, mkE p28 r28 false f28), (30, mkE p30 r30 false f30), (29, mkE p29 r29 false f29)]) (OKs.cons h21 (OKs.cons h22 (OKs.cons h23 (OKs.cons h24 (OKs.cons h25 (OKs.cons h26 (OKs.cons h27 (OKs.cons h28 (OKs.cons h30 (OKs.cons h29 OKs.nil))))))))))) mixed (ann := (fun _ => false)) (L := L7 f21 f22 f23 f24 f25 f26 f27 f28 f30 f29) (fn := Proofs.Tryz.f7) (c := bodyC Proofs.Tryz.f7) (ls := []) Proofs.Tryz.func7 (by kernel_rfl) (by kernel_rfl) (by kernel_rfl) (by kernel_rfl)
    LoopsP.nil (e7 f21 f22 f23 f24 f25 f26 f27 f28 f30 f29)
/-! impl.isWithin -/
def p71 : List SP := [.one (.int .i64), .one (.int .i64), .one (.int .i64)]
def r71 : List SP := [.one (.bool)]
noncomputable def F71 (a : Int × Int × Int × Unit) : Option (Bool × Unit) :=
  cond (decide (a.2.1 ≤ a.1)) (some ((decide (a.1 ≤ a.2.2.1)), ())) (some (false, ()))
def E71 : Env := envL []
noncomputable def L71 : LEnv (densS (muts p71 ++ r71)) := lenv []
theorem e71 (a : densS p71) : runF (E71) tab (fun _ => false) p71 r71 Proofs.Tryz.f71 (L71) a = F71 a := by kernel_rfl
theorem ok71 : OK Proofs.Tryz.prog 71 (mkE p71 r71 false (F71)) :=
  fn_ok tab_ok (envL_ok (l := []) OKs.nil) mixed (ann := (fun _ => false)) (L := L71) (fn := Proofs.Tryz.f71) (c := bodyC Proofs.Tryz.f71) (ls := []) Proofs.Tryz.func71 (by kernel_rfl) (by kernel_rfl) (by kernel_rfl) (by kernel_rfl)
    LoopsP.nil (e71)
/-! impl.IsName -/
def p135 : List SP := [.one (.str)]
def r135 : List SP := [.one (.bool)]
def q135_0 : List SP := pat 42 0 [(0, .one (.str)), (6, .one (.int .i64)), (7, .one (.int .i64))]
noncomputable def s135_0 (f71 : Int × Int × Int × Unit → Option (Bool × Unit)) (t1 : Str × Int × Int × Unit) (rec K : Str × Int × Int × Unit → Option (Bool × Unit)) : Option (Bool × Unit) :=
  cond (decide (t1.2.2.1 < t1.2.1)) (rdL t1.1 t1.2.2.1 fun d2 => cond (decide ((Int.ofNat (UInt8.toNat d2)) ≥ 97)) (rdL t1.1 t1.2.2.1 fun d3 => cond (!(decide ((Int.ofNat (UInt8.toNat d3)) ≤ 122))) (cond (!(decide (t1.2.2.1 = 0))) (rdL t1.1 t1.2.2.1 fun d4 => cond (!(decide ((Int.ofNat (UInt8.toNat d4)) < 48))) (rdL t1.1 t1.2.2.1 fun d5 => cond (decide ((Int.ofNat (UInt8.toNat d5)) > 57)) (some (false, ())) (rec (t1.1, t1.2.1, (w64 (t1.2.2.1 + 1)), ()))) (some (false, ()))) (some (false, ()))) (rec (t1.1, t1.2.1, (w64 (t1.2.2.1 + 1)), ()))) (cond (!(decide (t1.2.2.1 = 0))) (rdL t1.1 t1.2.2.1 fun d6 => cond (!(decide ((Int.ofNat (UInt8.toNat d6)) < 48))) (rdL t1.1 t1.2.2.1 fun d7 => cond (decide ((Int.ofNat (UInt8.toNat d7)) > 57)) (some (false, ())) (rec (t1.1, t1.2.1, (w64 (t1.2.2.1 + 1)), ()))) (some (false, ()))) (some (false, ())))) (K (t1.1, t1.2.1, t1.2.2.1, ()))
noncomputable def F135 (f71 : Int × Int × Int × Unit → Option (Bool × Unit)) (a : Str × Unit) : Option (Bool × Unit) :=
  iterF (s135_0 f71) fuel (a.1, (Int.ofNat (List.length a.1)), 0, ()) fun t8 => (f71 ((Int.ofNat (List.length t8.1)), 1, 8, ())).bind fun x9 => some (x9.1, ())
def E135 (f71 : Int × Int × Int × Unit → Option (Bool × Unit)) : Env := envL [(71, mkE p71 r71 false f71)]
noncomputable def L135 (f71 : Int × Int × Int × Unit → Option (Bool × Unit)) : LEnv (densS (muts p135 ++ r135)) := lenv [(0, loopL (R := densS (muts p135 ++ r135)) q135_0 (s135_0 f71))]
theorem e135_0 (f71 : Int × Int × Int × Unit → Option (Bool × Unit)) (X : Nat → St → Option (densS (muts p135 ++ r135))) (rec K : densS q135_0 → Option (densS (muts p135 ++ r135))) (t : densS q135_0) :
    ev (E135 f71) tab (fun _ => false) (L135 f71) (retK tab p135 r135 Proofs.Tryz.f135.results.toList) (loopC Proofs.Tryz.f135 0) (fun i s => cond (Nat.beq i 0) (decK 100 q135_0 s K) (X i s)) (fun s => decK 100 q135_0 s rec) (enc q135_0 t) = s135_0 f71 t rec K := by kernel_rfl
theorem e135 (f71 : Int × Int × Int × Unit → Option (Bool × Unit)) (a : densS p135) : runF (E135 f71) tab (fun _ => false) p135 r135 Proofs.Tryz.f135 (L135 f71) a = F135 f71 a := by kernel_rfl
theorem ok135 {f71 : Int × Int × Int × Unit → Option (Bool × Unit)} (h71 : OK Proofs.Tryz.prog 71 (mkE p71 r71 false f71)) : OK Proofs.Tryz.prog 135 (mkE p135 r135 false (F135 f71)) :=
  fn_ok tab_ok (envL_ok (l := [(71, mkE p71 r71 false f71)]) (OKs.cons h71 OKs.nil)) mixed (ann := (fun _ => false)) (L := L135 f71) (fn := Proofs.Tryz.f135) (c := bodyC Proofs.Tryz.f135) (ls := [(0, loopC Proofs.Tryz.f135 0)]) Proofs.Tryz.func135 (by kernel_rfl) (by kernel_rfl) (by kernel_rfl) (by kernel_rfl)
    (LoopsP.cons q135_0 (s135_0 f71) rfl (e135_0 f71) LoopsP.nil) (e135 f71)
/-! impl.isSupply -/
def p136 : List SP := [.one (.int .i64)]
def r136 : List SP := [.one (.bool)]
noncomputable def F136 (f71 : Int × Int × Int × Unit → Option (Bool × Unit)) (a : Int × Unit) : Option (Bool × Unit) :=
  (f71 (a.1, 0, 512, ())).bind fun x1 => some (x1.1, ())
def E136 (f71 : Int × Int × Int × Unit → Option (Bool × Unit)) : Env := envL [(71, mkE p71 r71 false f71)]
noncomputable def L136 (f71 : Int × Int × Int × Unit → Option (Bool × Unit)) : LEnv (densS (muts p136 ++ r136)) := lenv []
theorem e136 (f71 : Int × Int × Int × Unit → Option (Bool × Unit)) (a : densS p136) : runF (E136 f71) tab (fun _ => false) p136 r136 Proofs.Tryz.f136 (L136 f71) a = F136 f71 a := by kernel_rfl
theorem ok136 {f71 : Int × Int × Int × Unit → Option (Bool × Unit)} (h71 : OK Proofs.Tryz.prog 71 (mkE p71 r71 false f71)) : OK Proofs.Tryz.prog 136 (mkE p136 r136 false (F136 f71)) :=
  fn_ok tab_ok (envL_ok (l := [(71, mkE p71 r71 false f71)]) (OKs.cons h71 OKs.nil)) mixed (ann := (fun _ => false)) (L := L136 f71) (fn := Proofs.Tryz.f136) (c := bodyC Proofs.Tryz.f136) (ls := []) Proofs.Tryz.func136 (by kernel_rfl) (by kernel_rfl) (by kernel_rfl) (by kernel_rfl)
    LoopsP.nil (e136 f71)
/-! impl.IsHeading -/
def p111 : List SP := [.one (.int .i64)]
def r111 : List SP := [.one (.bool)]
noncomputable def F111 (f71 : Int × Int × Int × Unit → Option (Bool × Unit)) (a : Int × Unit) : Option (Bool × Unit) :=
  (f71 (a.1, 0, 3, ())).bind fun x1 => some (x1.1, ())
def E111 (f71 : Int × Int × Int × Unit → Option (Bool × Unit)) : Env := envL [(71, mkE p71 r71 false f71)]
noncomputable def L111 (f71 : Int × Int × Int × Unit → Option (Bool × Unit)) : LEnv (densS (muts p111 ++ r111)) := lenv []
theorem e111 (f71 : Int × Int × Int × Unit → Option (Bool × Unit)) (a : densS p111) : runF (E111 f71) tab (fun _ => false) p111 r111 Proofs.Tryz.f111 (L111 f71) a = F111 f71 a := by kernel_rfl
theorem ok111 {f71 : Int × Int × Int × Unit → Option (Bool × Unit)} (h71 : OK Proofs.Tryz.prog 71 (mkE p71 r71 false f71)) : OK Proofs.Tryz.prog 111 (mkE p111 r111 false (F111 f71)) :=
  fn_ok tab_ok (envL_ok (l := [(71, mkE p71 r71 false f71)]) (OKs.cons h71 OKs.nil)) mixed (ann := (fun _ => false)) (L := L111 f71) (fn := Proofs.Tryz.f111) (c := bodyC Proofs.Tryz.f111) (ls := []) Proofs.Tryz.func111 (by kernel_rfl) (by kernel_rfl) (by kernel_rfl) (by kernel_rfl)
    LoopsP.nil (e111 f71)
/-! impl.IsJet -/
def p110 : List SP := [.t .jet]
def r110 : List SP := [.one (.bool)]
noncomputable def F110 (f71 : Int × Int × Int × Unit → Option (Bool × Unit)) (f111 : Int × Unit → Option (Bool × Unit)) (a : Jet × Unit) : Option (Bool × Unit) :=
  (f71 (a.1.At.X, (-1024), 1024, ())).bind fun x1 => cond x1.1 ((f71 (a.1.At.Y, (-1024), 1024, ())).bind fun x2 => cond x2.1 ((f111 (a.1.Heading, ())).bind fun x3 => cond x3.1 ((f71 (a.1.Tilt, 0, 16, ())).bind fun x4 => cond x4.1 ((f71 (a.1.Lift, 1, 32, ())).bind fun x5 => some (x5.1, ())) (some (false, ()))) (some (false, ()))) (some (false, ()))) (some (false, ()))
def E110 (f71 : Int × Int × Int × Unit → Option (Bool × Unit)) (f111 : Int × Unit → Option (Bool × Unit)) : Env := envL [(71, mkE p71 r71 false f71), (111, mkE p111 r111 false f111)]
noncomputable def L110 (f71 : Int × Int × Int × Unit → Option (Bool × Unit)) (f111 : Int × Unit → Option (Bool × Unit)) : LEnv (densS (muts p110 ++ r110)) := lenv []
theorem e110 (f71 : Int × Int × Int × Unit → Option (Bool × Unit)) (f111 : Int × Unit → Option (Bool × Unit)) (a : densS p110) : runF (E110 f71 f111) tab (fun _ => false) p110 r110 Proofs.Tryz.f110 (L110 f71 f111) a = F110 f71 f111 a := by kernel_rfl
theorem ok110 {f71 : Int × Int × Int × Unit → Option (Bool × Unit)} {f111 : Int × Unit → Option (Bool × Unit)} (h71 : OK Proofs.Tryz.prog 71 (mkE p71 r71 false f71)) (h111 : OK Proofs.Tryz.prog 111 (mkE p111 r111 false f111)) : OK Proofs.Tryz.prog 110 (mkE p110 r110 false (F110 f71 f111)) :=
  fn_ok tab_ok (envL_ok (l := [(71, mkE p71 r71 false f71), (111, mkE p111 r111 false f111)]) (OKs.cons h71 (OKs.cons h111 OKs.nil))) mixed (ann := (fun _ => false)) (L := L110 f71 f111) (fn := Proofs.Tryz.f110) (c := bodyC Proofs.Tryz.f110) (ls := []) Proofs.Tryz.func110 (by kernel_rfl) (by kernel_rfl) (by kernel_rfl) (by kernel_rfl)
    LoopsP.nil (e110 f71 f111)
/-! impl.IsMeasure -/
def p107 : List SP := [.one (.int .i64)]
def r107 : List SP := [.one (.bool)]
noncomputable def F107 (f71 : Int × Int × Int × Unit → Option (Bool × Unit)) (a : Int × Unit) : Option (Bool × Unit) :=
  (f71 (a.1, (-4096), 4096, ())).bind fun x1 => some (x1.1, ())
def E107 (f71 : Int × Int × Int × Unit → Option (Bool × Unit)) : Env := envL [(71, mkE p71 r71 false f71)]
noncomputable def L107 (f71 : Int × Int × Int × Unit → Option (Bool × Unit)) : LEnv (densS (muts p107 ++ r107)) := lenv []
theorem e107 (f71 : Int × Int × Int × Unit → Option (Bool × Unit)) (a : densS p107) : runF (E107 f71) tab (fun _ => false) p107 r107 Proofs.Tryz.f107 (L107 f71) a = F107 f71 a := by kernel_rfl
theorem ok107 {f71 : Int × Int × Int × Unit → Option (Bool × Unit)} (h71 : OK Proofs.Tryz.prog 71 (mkE p71 r71 false f71)) : OK Proofs.Tryz.prog 107 (mkE p107 r107 false (F107 f71)) :=
  fn_ok tab_ok (envL_ok (l := [(71, mkE p71 r71 false f71)]) (OKs.cons h71 OKs.nil)) mixed (ann := (fun _ => false)) (L := L107 f71) (fn := Proofs.Tryz.f107) (c := bodyC Proofs.Tryz.f107) (ls := []) Proofs.Tryz.func107 (by kernel_rfl) (by kernel_rfl) (by kernel_rfl) (by kernel_rfl)
    LoopsP.nil (e107 f71)
/-! impl.IsPlace -/
def p74 : List SP := [.t .place]
def r74 : List SP := [.one (.bool)]
noncomputable def F74 (f107 : Int × Unit → Option (Bool × Unit)) (a : Place × Unit) : Option (Bool × Unit) :=
  (f107 (a.1.X, ())).bind fun x1 => cond x1.1 ((f107 (a.1.Y, ())).bind fun x2 => some (x2.1, ())) (some (false, ()))
def E74 (f107 : Int × Unit → Option (Bool × Unit)) : Env := envL [(107, mkE p107 r107 false f107)]
noncomputable def L74 (f107 : Int × Unit → Option (Bool × Unit)) : LEnv (densS (muts p74 ++ r74)) := lenv []
theorem e74 (f107 : Int × Unit → Option (Bool × Unit)) (a : densS p74) : runF (E74 f107) tab (fun _ => false) p74 r74 Proofs.Tryz.f74 (L74 f107) a = F74 f107 a := by kernel_rfl
theorem ok74 {f107 : Int × Unit → Option (Bool × Unit)} (h107 : OK Proofs.Tryz.prog 107 (mkE p107 r107 false f107)) : OK Proofs.Tryz.prog 74 (mkE p74 r74 false (F74 f107)) :=
  fn_ok tab_ok (envL_ok (l := [(107, mkE p107 r107 false f107)]) (OKs.cons h107 OKs.nil)) mixed (ann := (fun _ => false)) (L := L74 f107) (fn := Proofs.Tryz.f74) (c := bodyC Proofs.Tryz.f74) (ls := []) Proofs.Tryz.func74 (by kernel_rfl) (by kernel_rfl) (by kernel_rfl) (by kernel_rfl)
    LoopsP.nil (e74 f107)
/-! impl.IsDevice -/
def p101 : List SP := [.t .device]
def r101 : List SP := [.one (.bool)]
noncomputable def F101 (f135 : Str × Unit → Option (Bool × Unit)) (f136 : Int × Unit → Option (Bool × Unit)) (f110 : Jet × Unit → Option (Bool × Unit)) (f71 : Int × Int × Int × Unit → Option (Bool × Unit)) (f74 : Place × Unit → Option (Bool × Unit)) (a : Device × Unit) : Option (Bool × Unit) :=
  (f135 (a.1.Name, ())).bind fun x1 => cond (!x1.1) (some (false, ())) (cond (decide (a.1.Kind = 1)) (cond (decide (a.1.Name = a.1.Name) && (decide (a.1.Kind = a.1.Kind) && (decide (a.1.Line = []) && (decide (a.1.At.X = 0) && (decide (a.1.At.Y = 0) && (decide (a.1.Heading = 0) && (decide (a.1.Tilt = 0) && (decide (a.1.Most = a.1.Most) && true)))))))) ((f136 (a.1.Most, ())).bind fun x2 => some (x2.1, ())) (some (false, ()))) (cond (decide (a.1.Kind = 2)) ((f135 (a.1.Line, ())).bind fun x3 => cond x3.1 (cond (!decide (a.1.Line = a.1.Name)) ((f110 ((⟨⟨a.1.At.X, a.1.At.Y⟩, a.1.Heading, a.1.Tilt, 1⟩ : Jet), ())).bind fun x4 => cond x4.1 ((f71 (a.1.Most, 0, 32, ())).bind fun x5 => some (x5.1, ())) (some (false, ()))) (some (false, ()))) (some (false, ()))) (cond (decide (a.1.Kind = 3)) (cond (decide (a.1.Name = a.1.Name) && (decide (a.1.Kind = a.1.Kind) && (decide (a.1.Line = a.1.Line) && (decide (a.1.At.X = a.1.At.X) && (decide (a.1.At.Y = a.1.At.Y) && (decide (a.1.Heading = 0) && (decide (a.1.Tilt = 0) && (decide (a.1.Most = 0) && true)))))))) ((f135 (a.1.Line, ())).bind fun x6 => cond x6.1 (cond (!decide (a.1.Line = a.1.Name)) ((f74 (a.1.At, ())).bind fun x7 => some (x7.1, ())) (some (false, ()))) (some (false, ()))) (some (false, ()))) (some (false, ())))))
def E101 (f135 : Str × Unit → Option (Bool × Unit)) (f136 : Int × Unit → Option (Bool × Unit)) (f110 : Jet × Unit → Option (Bool × Unit)) (f71 : Int × Int × Int × Unit → Option (Bool × Unit)) (f74 : Place × Unit → Option (Bool × Unit)) : Env := envL [(135, mkE p135 r135 false f135), (136, mkE p136 r136 false f136), (110, mkE p110 r110 false f110), (71, mkE p71 r71 false f71), (74, mkE p74 r74 false f74)]
noncomputable def L101 (f135 : Str × Unit → Option (Bool × Unit)) (f136 : Int × Unit → Option (Bool × Unit)) (f110 : Jet × Unit → Option (Bool × Unit)) (f71 : Int × Int × Int × Unit → Option (Bool × Unit)) (f74 : Place × Unit → Option (Bool × Unit)) : LEnv (densS (muts p101 ++ r101)) := lenv []
theorem e101 (f135 : Str × Unit → Option (Bool × Unit)) (f136 : Int × Unit → Option (Bool × Unit)) (f110 : Jet × Unit → Option (Bool × Unit)) (f71 : Int × Int × Int × Unit → Option (Bool × Unit)) (f74 : Place × Unit → Option (Bool × Unit)) (a : densS p101) : runF (E101 f135 f136 f110 f71 f74) tab (fun _ => false) p101 r101 Proofs.Tryz.f101 (L101 f135 f136 f110 f71 f74) a = F101 f135 f136 f110 f71 f74 a := by kernel_rfl
theorem ok101 {f135 : Str × Unit → Option (Bool × Unit)} {f136 : Int × Unit → Option (Bool × Unit)} {f110 : Jet × Unit → Option (Bool × Unit)} {f71 : Int × Int × Int × Unit → Option (Bool × Unit)} {f74 : Place × Unit → Option (Bool × Unit)} (h135 : OK Proofs.Tryz.prog 135 (mkE p135 r135 false f135)) (h136 : OK Proofs.Tryz.prog 136 (mkE p136 r136 false f136)) (h110 : OK Proofs.Tryz.prog 110 (mkE p110 r110 false f110)) (h71 : OK Proofs.Tryz.prog 71 (mkE p71 r71 false f71)) (h74 : OK Proofs.Tryz.prog 74 (mkE p74 r74 false f74)) : OK Proofs.Tryz.prog 101 (mkE p101 r101 false (F101 f135 f136 f110 f71 f74)) :=
  fn_ok tab_ok (envL_ok (l := [(135, mkE p135 r135 false f135), (136, mkE p136 r136 false f136), (110, mkE p110 r110 false f110), (71, mkE p71 r71 false f71), (74, mkE p74 r74 false f74)]) (OKs.cons h135 (OKs.cons h136 (OKs.cons h110 (OKs.cons h71 (OKs.cons h74 OKs.nil)))))) mixed (ann := (fun _ => false)) (L := L101 f135 f136 f110 f71 f74) (fn := Proofs.Tryz.f101) (c := bodyC Proofs.Tryz.f101) (ls := []) Proofs.Tryz.func101 (by kernel_rfl) (by kernel_rfl) (by kernel_rfl) (by kernel_rfl)
    LoopsP.nil (e101 f135 f136 f110 f71 f74)
/-! impl.FindDevice$1 -/
def p169 : List SP := [.t .device, .sp [.str]]
def r169 : List SP := [.one (.bool)]
noncomputable def F169 (a : Device × (Str × Unit) × Unit) : Option (Bool × Unit) :=
  some ((decide (a.1.Name = a.2.1.1)), ())
def E169 : Env := envL []
noncomputable def L169 : LEnv (densS (muts p169 ++ r169)) := lenv []
theorem e169 (a : densS p169) : runF (E169) tab (fun _ => false) p169 r169 Proofs.Tryz.f169 (L169) a = F169 a := by kernel_rfl
theorem ok169 : OK Proofs.Tryz.prog 169 (mkE p169 r169 false (F169)) :=
  fn_ok tab_ok (envL_ok (l := []) OKs.nil) mixed (ann := (fun _ => false)) (L := L169) (fn := Proofs.Tryz.f169) (c := bodyC Proofs.Tryz.f169) (ls := []) Proofs.Tryz.func169 (by kernel_rfl) (by kernel_rfl) (by kernel_rfl) (by kernel_rfl)
    LoopsP.nil (e169)
/-! slices.IndexFunc[[]impl.Device,impl.Device] -/
def p168 : List SP := [.one (.r .device), .fn 169 [.str]]
def r168 : List SP := [.one (.int .i64)]
def q168_0 : List SP := pat 19 0 [(0, .one (.r .device)), (1, .fn 169 [.str]), (7, .one (.int .i64)), (8, .one (.int .i64))]
noncomputable def s168_0 (f169 : Device × (Str × Unit) × Unit → Option (Bool × Unit)) (t1 : List Device × (Str × Unit) × Int × Int × Unit) (rec K : List Device × (Str × Unit) × Int × Int × Unit → Option (Int × Unit)) : Option (Int × Unit) :=
  cond (decide (t1.2.2.2.1 < t1.2.2.1)) (rdL t1.1 t1.2.2.2.1 fun d2 => (f169 (d2, (t1.2.1.1, ()), ())).bind fun x3 => cond x3.1 (some (t1.2.2.2.1, ())) (rec (t1.1, (t1.2.1.1, ()), t1.2.2.1, (w64 (t1.2.2.2.1 + 1)), ()))) (K (t1.1, (t1.2.1.1, ()), t1.2.2.1, t1.2.2.2.1, ()))
noncomputable def F168 (f169 : Device × (Str × Unit) × Unit → Option (Bool × Unit)) (a : List Device × (Str × Unit) × Unit) : Option (Int × Unit) :=
  iterF (s168_0 f169) fuel (a.1, (a.2.1.1, ()), (Int.ofNat (List.length a.1)), 0, ()) fun t4 => some ((-1), ())
def E168 (f169 : Device × (Str × Unit) × Unit → Option (Bool × Unit)) : Env := envL [(169, mkE p169 r169 false f169)]
noncomputable def L168 (f169 : Device × (Str × Unit) × Unit → Option (Bool × Unit)) : LEnv (densS (muts p168 ++ r168)) := lenv [(0, loopL (R := densS (muts p168 ++ r168)) q168_0 (s168_0 f169))]
theorem e168_0 (f169 : Device × (Str × Unit) × Unit → Option (Bool × Unit)) (X : Nat → St → Option (densS (muts p168 ++ r168))) (rec K : densS q168_0 → Option (densS (muts p168 ++ r168))) (t : densS q168_0) :
    ev (E168 f169) tab (fun _ => false) (L168 f169) (retK tab p168 r168 Proofs.Tryz.f168.results.toList) (loopC Proofs.Tryz.f168 0) (fun i s => cond (Nat.beq i 0) (decK 100 q168_0 s K) (X i s)) (fun s => decK 100 q168_0 s rec) (enc q168_0 t) = s168_0 f169 t rec K := by kernel_rfl
theorem e168 (f169 : Device × (Str × Unit) × Unit → Option (Bool × Unit)) (a : densS p168) : runF (E168 f169) tab (fun _ => false) p168 r168 Proofs.Tryz.f168 (L168 f169) a = F168 f169 a := by kernel_rfl
theorem ok168 {f169 : Device × (Str × Unit) × Unit → Option (Bool × Unit)} (h169 : OK Proofs.Tryz.prog 169 (mkE p169 r169 false f169)) : OK Proofs.Tryz.prog 168 (mkE p168 r168 false (F168 f169)) :=
  fn_ok tab_ok (envL_ok (l := [(169, mkE p169 r169 false f169)]) (OKs.cons h169 OKs.nil)) mixed (ann := (fun _ => false)) (L := L168 f169) (fn := Proofs.Tryz.f168) (c := bodyC Proofs.Tryz.f168) (ls := [(0, loopC Proofs.Tryz.f168 0)]) Proofs.Tryz.func168 (by kernel_rfl) (by kernel_rfl) (by kernel_rfl) (by kernel_rfl)
    (LoopsP.cons q168_0 (s168_0 f169) rfl (e168_0 f169) LoopsP.nil) (e168 f169)
/-! impl.FindDevice -/
def p137 : List SP := [.one (.r .device), .one (.str)]
def r137 : List SP := [.one (.int .i64)]
noncomputable def F137 (f168 : List Device × (Str × Unit) × Unit → Option (Int × Unit)) (a : List Device × Str × Unit) : Option (Int × Unit) :=
  (f168 (a.1, (a.2.1, ()), ())).bind fun x1 => some (x1.1, ())
def E137 (f168 : List Device × (Str × Unit) × Unit → Option (Int × Unit)) : Env := envL [(168, mkE p168 r168 false f168)]
noncomputable def L137 (f168 : List Device × (Str × Unit) × Unit → Option (Int × Unit)) : LEnv (densS (muts p137 ++ r137)) := lenv []
theorem e137 (f168 : List Device × (Str × Unit) × Unit → Option (Int × Unit)) (a : densS p137) : runF (E137 f168) tab (fun _ => false) p137 r137 Proofs.Tryz.f137 (L137 f168) a = F137 f168 a := by kernel_rfl
theorem ok137 {f168 : List Device × (Str × Unit) × Unit → Option (Int × Unit)} (h168 : OK Proofs.Tryz.prog 168 (mkE p168 r168 false f168)) : OK Proofs.Tryz.prog 137 (mkE p137 r137 false (F137 f168)) :=
  fn_ok tab_ok (envL_ok (l := [(168, mkE p168 r168 false f168)]) (OKs.cons h168 OKs.nil)) mixed (ann := (fun _ => false)) (L := L137 f168) (fn := Proofs.Tryz.f137) (c := bodyC Proofs.Tryz.f137) (ls := []) Proofs.Tryz.func137 (by kernel_rfl) (by kernel_rfl) (by kernel_rfl) (by kernel_rfl)
    LoopsP.nil (e137 f168)
/-! impl.isHung -/
def p102 : List SP := [.one (.r .device), .t .device]
def r102 : List SP := [.one (.bool)]
noncomputable def F102 (f137 : List Device × Str × Unit → Option (Int × Unit)) (a : List Device × Device × Unit) : Option (Bool × Unit) :=
  cond (decide (a.2.1.Kind = 1)) (some (true, ())) ((f137 (a.1, a.2.1.Line, ())).bind fun x1 => cond (decide (x1.1 ≥ 0)) (rdL a.1 x1.1 fun d2 => some ((decide (d2.Kind = (w64 (a.2.1.Kind - 1)))), ())) (some (false, ())))
def E102 (f137 : List Device × Str × Unit → Option (Int × Unit)) : Env := envL [(137, mkE p137 r137 false f137)]
noncomputable def L102 (f137 : List Device × Str × Unit → Option (Int × Unit)) : LEnv (densS (muts p102 ++ r102)) := lenv []
theorem e102 (f137 : List Device × Str × Unit → Option (Int × Unit)) (a : densS p102) : runF (E102 f137) tab (fun _ => false) p102 r102 Proofs.Tryz.f102 (L102 f137) a = F102 f137 a := by kernel_rfl
theorem ok102 {f137 : List Device × Str × Unit → Option (Int × Unit)} (h137 : OK Proofs.Tryz.prog 137 (mkE p137 r137 false f137)) : OK Proofs.Tryz.prog 102 (mkE p102 r102 false (F102 f137)) :=
  fn_ok tab_ok (envL_ok (l := [(137, mkE p137 r137 false f137)]) (OKs.cons h137 OKs.nil)) mixed (ann := (fun _ => false)) (L := L102 f137) (fn := Proofs.Tryz.f102) (c := bodyC Proofs.Tryz.f102) (ls := []) Proofs.Tryz.func102 (by kernel_rfl) (by kernel_rfl) (by kernel_rfl) (by kernel_rfl)
    LoopsP.nil (e102 f137)
/-! impl.IsRig -/
def p68 : List SP := [.one (.r .device)]
def r68 : List SP := [.one (.bool)]
def q68_0 : List SP := pat 40 0 [(0, .one (.r .device)), (8, .one (.r .device)), (9, .one (.int .i64)), (10, .one (.int .i64))]
noncomputable def s68_0 (f101 : Device × Unit → Option (Bool × Unit)) (f102 : List Device × Device × Unit → Option (Bool × Unit)) (t1 : List Device × List Device × Int × Int × Unit) (rec K : List Device × List Device × Int × Int × Unit → Option (Bool × Unit)) : Option (Bool × Unit) :=
  cond (decide (t1.2.2.2.1 < t1.2.2.1)) (rdL t1.2.1 t1.2.2.2.1 fun d2 => (f101 (d2, ())).bind fun x3 => cond (!(!x3.1)) (cond (decide (t1.2.2.2.1 > 0)) (rdL t1.1 (w64 (t1.2.2.2.1 - 1)) fun d4 => cond (!(Op.bytesLess d2.Name d4.Name || decide (d2.Name = d4.Name))) ((f102 (t1.1, d2, ())).bind fun x5 => cond (!x5.1) (some (false, ())) (rec (t1.1, t1.2.1, t1.2.2.1, (w64 (t1.2.2.2.1 + 1)), ()))) (some (false, ()))) ((f102 (t1.1, d2, ())).bind fun x6 => cond (!x6.1) (some (false, ())) (rec (t1.1, t1.2.1, t1.2.2.1, (w64 (t1.2.2.2.1 + 1)), ())))) (some (false, ()))) (K (t1.1, t1.2.1, t1.2.2.1, t1.2.2.2.1, ()))
noncomputable def F68 (f101 : Device × Unit → Option (Bool × Unit)) (f102 : List Device × Device × Unit → Option (Bool × Unit)) (a : List Device × Unit) : Option (Bool × Unit) :=
  cond (decide ((Int.ofNat (List.length a.1)) > 8)) (some (false, ())) (iterF (s68_0 f101 f102) fuel (a.1, a.1, (Int.ofNat (List.length a.1)), 0, ()) fun t7 => some (true, ()))
def E68 (f101 : Device × Unit → Option (Bool × Unit)) (f102 : List Device × Device × Unit → Option (Bool × Unit)) : Env := envL [(101, mkE p101 r101 false f101), (102, mkE p102 r102 false f102)]
noncomputable def L68 (f101 : Device × Unit → Option (Bool × Unit)) (f102 : List Device × Device × Unit → Option (Bool × Unit)) : LEnv (densS (muts p68 ++ r68)) := lenv [(0, loopL (R := densS (muts p68 ++ r68)) q68_0 (s68_0 f101 f102))]
theorem e68_0 (f101 : Device × Unit → Option (Bool × Unit)) (f102 : List Device × Device × Unit → Option (Bool × Unit)) (X : Nat → St → Option (densS (muts p68 ++ r68))) (rec K : densS q68_0 → Option (densS (muts p68 ++ r68))) (t : densS q68_0) :
    ev (E68 f101 f102) tab (fun _ => false) (L68 f101 f102) (retK tab p68 r68 Proofs.Tryz.f68.results.toList) (loopC Proofs.Tryz.f68 0) (fun i s => cond (Nat.beq i 0) (decK 100 q68_0 s K) (X i s)) (fun s => decK 100 q68_0 s rec) (enc q68_0 t) = s68_0 f101 f102 t rec K := by kernel_rfl
theorem e68 (f101 : Device × Unit → Option (Bool × Unit)) (f102 : List Device × Device × Unit → Option (Bool × Unit)) (a : densS p68) : runF (E68 f101 f102) tab (fun _ => false) p68 r68 Proofs.Tryz.f68 (L68 f101 f102) a = F68 f101 f102 a := by kernel_rfl
theorem ok68 {f101 : Device × Unit → Option (Bool × Unit)} {f102 : List Device × Device × Unit → Option (Bool × Unit)} (h101 : OK Proofs.Tryz.prog 101 (mkE p101 r101 false f101)) (h102 : OK Proofs.Tryz.prog 102 (mkE p102 r102 false f102)) : OK Proofs.Tryz.prog 68 (mkE p68 r68 false (F68 f101 f102)) :=
  fn_ok tab_ok (envL_ok (l := [(101, mkE p101 r101 false f101), (102, mkE p102 r102 false f102)]) (OKs.cons h101 (OKs.cons h102 OKs.nil))) mixed (ann := (fun _ => false)) (L := L68 f101 f102) (fn := Proofs.Tryz.f68) (c := bodyC Proofs.Tryz.f68) (ls := [(0, loopC Proofs.Tryz.f68 0)]) Proofs.Tryz.func68 (by kernel_rfl) (by kernel_rfl) (by kernel_rfl) (by kernel_rfl)
    (LoopsP.cons q68_0 (s68_0 f101 f102) rfl (e68_0 f101 f102) LoopsP.nil) (e68 f101 f102)
/-! impl.IsCue -/
def p103 : List SP := [.t .cue]
def r103 : List SP := [.one (.bool)]
noncomputable def F103 (f71 : Int × Int × Int × Unit → Option (Bool × Unit)) (f135 : Str × Unit → Option (Bool × Unit)) (a : Cue × Unit) : Option (Bool × Unit) :=
  (f71 (a.1.Tick, 0, 64, ())).bind fun x1 => cond x1.1 ((f135 (a.1.Name, ())).bind fun x2 => cond x2.1 ((f71 (a.1.Level, 0, 32, ())).bind fun x3 => cond x3.1 ((f71 (a.1.Ramp, 0, 16, ())).bind fun x4 => some (x4.1, ())) (some (false, ()))) (some (false, ()))) (some (false, ()))
def E103 (f71 : Int × Int × Int × Unit → Option (Bool × Unit)) (f135 : Str × Unit → Option (Bool × Unit)) : Env := envL [(71, mkE p71 r71 false f71), (135, mkE p135 r135 false f135)]
noncomputable def L103 (f71 : Int × Int × Int × Unit → Option (Bool × Unit)) (f135 : Str × Unit → Option (Bool × Unit)) : LEnv (densS (muts p103 ++ r103)) := lenv []
theorem e103 (f71 : Int × Int × Int × Unit → Option (Bool × Unit)) (f135 : Str × Unit → Option (Bool × Unit)) (a : densS p103) : runF (E103 f71 f135) tab (fun _ => false) p103 r103 Proofs.Tryz.f103 (L103 f71 f135) a = F103 f71 f135 a := by kernel_rfl
theorem ok103 {f71 : Int × Int × Int × Unit → Option (Bool × Unit)} {f135 : Str × Unit → Option (Bool × Unit)} (h71 : OK Proofs.Tryz.prog 71 (mkE p71 r71 false f71)) (h135 : OK Proofs.Tryz.prog 135 (mkE p135 r135 false f135)) : OK Proofs.Tryz.prog 103 (mkE p103 r103 false (F103 f71 f135)) :=
  fn_ok tab_ok (envL_ok (l := [(71, mkE p71 r71 false f71), (135, mkE p135 r135 false f135)]) (OKs.cons h71 (OKs.cons h135 OKs.nil))) mixed (ann := (fun _ => false)) (L := L103 f71 f135) (fn := Proofs.Tryz.f103) (c := bodyC Proofs.Tryz.f103) (ls := []) Proofs.Tryz.func103 (by kernel_rfl) (by kernel_rfl) (by kernel_rfl) (by kernel_rfl)
    LoopsP.nil (e103 f71 f135)
/-! cmp.isNaN[int] -/
def p139 : List SP := [.one (.int .i64)]
def r139 : List SP := [.one (.bool)]
noncomputable def F139 (a : Int × Unit) : Option (Bool × Unit) :=
  some ((!(decide (a.1 = a.1))), ())
def E139 : Env := envL []
noncomputable def L139 : LEnv (densS (muts p139 ++ r139)) := lenv []
theorem e139 (a : densS p139) : runF (E139) tab (fun _ => false) p139 r139 Proofs.Tryz.f139 (L139) a = F139 a := by kernel_rfl
theorem ok139 : OK Proofs.Tryz.prog 139 (mkE p139 r139 false (F139)) :=
  fn_ok tab_ok (envL_ok (l := []) OKs.nil) mixed (ann := (fun _ => false)) (L := L139) (fn := Proofs.Tryz.f139) (c := bodyC Proofs.Tryz.f139) (ls := []) Proofs.Tryz.func139 (by kernel_rfl) (by kernel_rfl) (by kernel_rfl) (by kernel_rfl)
    LoopsP.nil (e139)
/-! cmp.Compare[int] -/
def p106 : List SP := [.one (.int .i64), .one (.int .i64)]
def r106 : List SP := [.one (.int .i64)]
noncomputable def F106 (f139 : Int × Unit → Option (Bool × Unit)) (a : Int × Int × Unit) : Option (Int × Unit) :=
  (f139 (a.1, ())).bind fun x1 => (f139 (a.2.1, ())).bind fun x2 => cond x1.1 (cond x2.1 (some (0, ())) (some ((-1), ()))) (cond x2.1 (some (1, ())) (cond (decide (a.1 < a.2.1)) (some ((-1), ())) (cond (decide (a.1 > a.2.1)) (some (1, ())) (some (0, ())))))
def E106 (f139 : Int × Unit → Option (Bool × Unit)) : Env := envL [(139, mkE p139 r139 false f139)]
noncomputable def L106 (f139 : Int × Unit → Option (Bool × Unit)) : LEnv (densS (muts p106 ++ r106)) := lenv []
theorem e106 (f139 : Int × Unit → Option (Bool × Unit)) (a : densS p106) : runF (E106 f139) tab (fun _ => false) p106 r106 Proofs.Tryz.f106 (L106 f139) a = F106 f139 a := by kernel_rfl
theorem ok106 {f139 : Int × Unit → Option (Bool × Unit)} (h139 : OK Proofs.Tryz.prog 139 (mkE p139 r139 false f139)) : OK Proofs.Tryz.prog 106 (mkE p106 r106 false (F106 f139)) :=
  fn_ok tab_ok (envL_ok (l := [(139, mkE p139 r139 false f139)]) (OKs.cons h139 OKs.nil)) mixed (ann := (fun _ => false)) (L := L106 f139) (fn := Proofs.Tryz.f106) (c := bodyC Proofs.Tryz.f106) (ls := []) Proofs.Tryz.func106 (by kernel_rfl) (by kernel_rfl) (by kernel_rfl) (by kernel_rfl)
    LoopsP.nil (e106 f139)
/-! cmp.isNaN[string] -/
def p170 : List SP := [.one (.str)]
def r170 : List SP := [.one (.bool)]
noncomputable def F170 (a : Str × Unit) : Option (Bool × Unit) :=
  some ((!decide (a.1 = a.1)), ())
def E170 : Env := envL []
noncomputable def L170 : LEnv (densS (muts p170 ++ r170)) := lenv []
theorem e170 (a : densS p170) : runF (E170) tab (fun _ => false) p170 r170 Proofs.Tryz.f170 (L170) a = F170 a := by kernel_rfl
theorem ok170 : OK Proofs.Tryz.prog 170 (mkE p170 r170 false (F170)) :=
  fn_ok tab_ok (envL_ok (l := []) OKs.nil) mixed (ann := (fun _ => false)) (L := L170) (fn := Proofs.Tryz.f170) (c := bodyC Proofs.Tryz.f170) (ls := []) Proofs.Tryz.func170 (by kernel_rfl) (by kernel_rfl) (by kernel_rfl) (by kernel_rfl)
    LoopsP.nil (e170)
/-! cmp.Compare[string] -/
def p138 : List SP := [.one (.str), .one (.str)]
def r138 : List SP := [.one (.int .i64)]
noncomputable def F138 (f170 : Str × Unit → Option (Bool × Unit)) (a : Str × Str × Unit) : Option (Int × Unit) :=
  (f170 (a.1, ())).bind fun x1 => (f170 (a.2.1, ())).bind fun x2 => cond x1.1 (cond x2.1 (some (0, ())) (some ((-1), ()))) (cond x2.1 (some (1, ())) (cond (Op.bytesLess a.1 a.2.1) (some ((-1), ())) (cond (!(Op.bytesLess a.1 a.2.1 || decide (a.1 = a.2.1))) (some (1, ())) (some (0, ())))))
def E138 (f170 : Str × Unit → Option (Bool × Unit)) : Env := envL [(170, mkE p170 r170 false f170)]
noncomputable def L138 (f170 : Str × Unit → Option (Bool × Unit)) : LEnv (densS (muts p138 ++ r138)) := lenv []
theorem e138 (f170 : Str × Unit → Option (Bool × Unit)) (a : densS p138) : runF (E138 f170) tab (fun _ => false) p138 r138 Proofs.Tryz.f138 (L138 f170) a = F138 f170 a := by kernel_rfl
theorem ok138 {f170 : Str × Unit → Option (Bool × Unit)} (h170 : OK Proofs.Tryz.prog 170 (mkE p170 r170 false f170)) : OK Proofs.Tryz.prog 138 (mkE p138 r138 false (F138 f170)) :=
  fn_ok tab_ok (envL_ok (l := [(170, mkE p170 r170 false f170)]) (OKs.cons h170 OKs.nil)) mixed (ann := (fun _ => false)) (L := L138 f170) (fn := Proofs.Tryz.f138) (c := bodyC Proofs.Tryz.f138) (ls := []) Proofs.Tryz.func138 (by kernel_rfl) (by kernel_rfl) (by kernel_rfl) (by kernel_rfl)
    LoopsP.nil (e138 f170)
/-! cmp.Or[int] -/
def p105 : List SP := [.one (.r .int)]
def r105 : List SP := [.one (.int .i64)]
def q105_0 : List SP := pat 18 0 [(3, .one (.int .i64)), (6, .one (.r .int)), (7, .one (.int .i64)), (8, .one (.int .i64))]
noncomputable def s105_0 (t1 : Int × List Int × Int × Int × Unit) (rec K : Int × List Int × Int × Int × Unit → Option (Int × Unit)) : Option (Int × Unit) :=
  cond (decide (t1.2.2.2.1 < t1.2.2.1)) (rdL t1.2.1 t1.2.2.2.1 fun d2 => cond (!(decide (d2 = t1.1))) (some (d2, ())) (rec (t1.1, t1.2.1, t1.2.2.1, (w64 (t1.2.2.2.1 + 1)), ()))) (K (t1.1, t1.2.1, t1.2.2.1, t1.2.2.2.1, ()))
noncomputable def F105 (a : List Int × Unit) : Option (Int × Unit) :=
  iterF (s105_0) fuel (0, a.1, (Int.ofNat (List.length a.1)), 0, ()) fun t3 => some (t3.1, ())
def E105 : Env := envL []
noncomputable def L105 : LEnv (densS (muts p105 ++ r105)) := lenv [(0, loopL (R := densS (muts p105 ++ r105)) q105_0 (s105_0))]
theorem e105_0 (X : Nat → St → Option (densS (muts p105 ++ r105))) (rec K : densS q105_0 → Option (densS (muts p105 ++ r105))) (t : densS q105_0) :
    ev (E105) tab (fun _ => false) (L105) (retK tab p105 r105 Proofs.Tryz.f105.results.toList) (loopC Proofs.Tryz.f105 0) (fun i s => cond (Nat.beq i 0) (decK 100 q105_0 s K) (X i s)) (fun s => decK 100 q105_0 s rec) (enc q105_0 t) = s105_0 t rec K := by kernel_rfl
theorem e105 (a : densS p105) : runF (E105) tab (fun _ => false) p105 r105 Proofs.Tryz.f105 (L105) a = F105 a := by kernel_rfl
theorem ok105 : OK Proofs.Tryz.prog 105 (mkE p105 r105 false (F105)) :=
  fn_ok tab_ok (envL_ok (l := []) OKs.nil) mixed (ann := (fun _ => false)) (L := L105) (fn := Proofs.Tryz.f105) (c := bodyC Proofs.Tryz.f105) (ls := [(0, loopC Proofs.Tryz.f105 0)]) Proofs.Tryz.func105 (by kernel_rfl) (by kernel_rfl) (by kernel_rfl) (by kernel_rfl)
    (LoopsP.cons q105_0 (s105_0) rfl (e105_0) LoopsP.nil) (e105)
/-! impl.CompareCues -/
def p104 : List SP := [.t .cue, .t .cue]
def r104 : List SP := [.one (.int .i64)]
noncomputable def F104 (f106 : Int × Int × Unit → Option (Int × Unit)) (f138 : Str × Str × Unit → Option (Int × Unit)) (f105 : List Int × Unit → Option (Int × Unit)) (a : Cue × Cue × Unit) : Option (Int × Unit) :=
  (f106 (a.1.Tick, a.2.1.Tick, ())).bind fun x1 => (f138 (a.1.Name, a.2.1.Name, ())).bind fun x2 => (f105 (([x1.1, x2.1] : List Int), ())).bind fun x3 => some (x3.1, ())
def E104 (f106 : Int × Int × Unit → Option (Int × Unit)) (f138 : Str × Str × Unit → Option (Int × Unit)) (f105 : List Int × Unit → Option (Int × Unit)) : Env := envL [(106, mkE p106 r106 false f106), (138, mkE p138 r138 false f138), (105, mkE p105 r105 false f105)]
noncomputable def L104 (f106 : Int × Int × Unit → Option (Int × Unit)) (f138 : Str × Str × Unit → Option (Int × Unit)) (f105 : List Int × Unit → Option (Int × Unit)) : LEnv (densS (muts p104 ++ r104)) := lenv []
theorem e104 (f106 : Int × Int × Unit → Option (Int × Unit)) (f138 : Str × Str × Unit → Option (Int × Unit)) (f105 : List Int × Unit → Option (Int × Unit)) (a : densS p104) : runF (E104 f106 f138 f105) tab (fun _ => false) p104 r104 Proofs.Tryz.f104 (L104 f106 f138 f105) a = F104 f106 f138 f105 a := by kernel_rfl
theorem ok104 {f106 : Int × Int × Unit → Option (Int × Unit)} {f138 : Str × Str × Unit → Option (Int × Unit)} {f105 : List Int × Unit → Option (Int × Unit)} (h106 : OK Proofs.Tryz.prog 106 (mkE p106 r106 false f106)) (h138 : OK Proofs.Tryz.prog 138 (mkE p138 r138 false f138)) (h105 : OK Proofs.Tryz.prog 105 (mkE p105 r105 false f105)) : OK Proofs.Tryz.prog 104 (mkE p104 r104 false (F104 f106 f138 f105)) :=
  fn_ok tab_ok (envL_ok (l := [(106, mkE p106 r106 false f106), (138, mkE p138 r138 false f138), (105, mkE p105 r105 false f105)]) (OKs.cons h106 (OKs.cons h138 (OKs.cons h105 OKs.nil)))) mixed (ann := (fun _ => false)) (L := L104 f106 f138 f105) (fn := Proofs.Tryz.f104) (c := bodyC Proofs.Tryz.f104) (ls := []) Proofs.Tryz.func104 (by kernel_rfl) (by kernel_rfl) (by kernel_rfl) (by kernel_rfl)
    LoopsP.nil (e104 f106 f138 f105)
/-! impl.IsScore -/
def p69 : List SP := [.one (.r .cue)]
def r69 : List SP := [.one (.bool)]
def q69_0 : List SP := pat 33 0 [(0, .one (.r .cue)), (5, .one (.r .cue)), (6, .one (.int .i64)), (7, .one (.int .i64))]
noncomputable def s69_0 (f103 : Cue × Unit → Option (Bool × Unit)) (f104 : Cue × Cue × Unit → Option (Int × Unit)) (t1 : List Cue × List Cue × Int × Int × Unit) (rec K : List Cue × List Cue × Int × Int × Unit → Option (Bool × Unit)) : Option (Bool × Unit) :=
  cond (decide (t1.2.2.2.1 < t1.2.2.1)) (rdL t1.2.1 t1.2.2.2.1 fun d2 => (f103 (d2, ())).bind fun x3 => cond (!(!x3.1)) (cond (decide (t1.2.2.2.1 > 0)) (rdL t1.1 (w64 (t1.2.2.2.1 - 1)) fun d4 => (f104 (d4, d2, ())).bind fun x5 => cond (decide (x5.1 ≥ 0)) (some (false, ())) (rec (t1.1, t1.2.1, t1.2.2.1, (w64 (t1.2.2.2.1 + 1)), ()))) (rec (t1.1, t1.2.1, t1.2.2.1, (w64 (t1.2.2.2.1 + 1)), ()))) (some (false, ()))) (K (t1.1, t1.2.1, t1.2.2.1, t1.2.2.2.1, ()))
noncomputable def F69 (f103 : Cue × Unit → Option (Bool × Unit)) (f104 : Cue × Cue × Unit → Option (Int × Unit)) (a : List Cue × Unit) : Option (Bool × Unit) :=
  iterF (s69_0 f103 f104) fuel (a.1, a.1, (Int.ofNat (List.length a.1)), 0, ()) fun t6 => some ((decide ((Int.ofNat (List.length t6.1)) ≤ 12)), ())
def E69 (f103 : Cue × Unit → Option (Bool × Unit)) (f104 : Cue × Cue × Unit → Option (Int × Unit)) : Env := envL [(103, mkE p103 r103 false f103), (104, mkE p104 r104 false f104)]
noncomputable def L69 (f103 : Cue × Unit → Option (Bool × Unit)) (f104 : Cue × Cue × Unit → Option (Int × Unit)) : LEnv (densS (muts p69 ++ r69)) := lenv [(0, loopL (R := densS (muts p69 ++ r69)) q69_0 (s69_0 f103 f104))]
theorem e69_0 (f103 : Cue × Unit → Option (Bool × Unit)) (f104 : Cue × Cue × Unit → Option (Int × Unit)) (X : Nat → St → Option (densS (muts p69 ++ r69))) (rec K : densS q69_0 → Option (densS (muts p69 ++ r69))) (t : densS q69_0) :
    ev (E69 f103 f104) tab (fun _ => false) (L69 f103 f104) (retK tab p69 r69 Proofs.Tryz.f69.results.toList) (loopC Proofs.Tryz.f69 0) (fun i s => cond (Nat.beq i 0) (decK 100 q69_0 s K) (X i s)) (fun s => decK 100 q69_0 s rec) (enc q69_0 t) = s69_0 f103 f104 t rec K := by kernel_rfl
theorem e69 (f103 : Cue × Unit → Option (Bool × Unit)) (f104 : Cue × Cue × Unit → Option (Int × Unit)) (a : densS p69) : runF (E69 f103 f104) tab (fun _ => false) p69 r69 Proofs.Tryz.f69 (L69 f103 f104) a = F69 f103 f104 a := by kernel_rfl
theorem ok69 {f103 : Cue × Unit → Option (Bool × Unit)} {f104 : Cue × Cue × Unit → Option (Int × Unit)} (h103 : OK Proofs.Tryz.prog 103 (mkE p103 r103 false f103)) (h104 : OK Proofs.Tryz.prog 104 (mkE p104 r104 false f104)) : OK Proofs.Tryz.prog 69 (mkE p69 r69 false (F69 f103 f104)) :=
  fn_ok tab_ok (envL_ok (l := [(103, mkE p103 r103 false f103), (104, mkE p104 r104 false f104)]) (OKs.cons h103 (OKs.cons h104 OKs.nil))) mixed (ann := (fun _ => false)) (L := L69 f103 f104) (fn := Proofs.Tryz.f69) (c := bodyC Proofs.Tryz.f69) (ls := [(0, loopC Proofs.Tryz.f69 0)]) Proofs.Tryz.func69 (by kernel_rfl) (by kernel_rfl) (by kernel_rfl) (by kernel_rfl)
    (LoopsP.cons q69_0 (s69_0 f103 f104) rfl (e69_0 f103 f104) LoopsP.nil) (e69 f103 f104)
/-! impl.isDrift -/
def p72 : List SP := [.t .place]
def r72 : List SP := [.one (.bool)]
noncomputable def F72 (f71 : Int × Int × Int × Unit → Option (Bool × Unit)) (a : Place × Unit) : Option (Bool × Unit) :=
  (f71 (a.1.X, (-8), 8, ())).bind fun x1 => cond x1.1 ((f71 (a.1.Y, (-8), 8, ())).bind fun x2 => some (x2.1, ())) (some (false, ()))
def E72 (f71 : Int × Int × Int × Unit → Option (Bool × Unit)) : Env := envL [(71, mkE p71 r71 false f71)]
noncomputable def L72 (f71 : Int × Int × Int × Unit → Option (Bool × Unit)) : LEnv (densS (muts p72 ++ r72)) := lenv []
theorem e72 (f71 : Int × Int × Int × Unit → Option (Bool × Unit)) (a : densS p72) : runF (E72 f71) tab (fun _ => false) p72 r72 Proofs.Tryz.f72 (L72 f71) a = F72 f71 a := by kernel_rfl
theorem ok72 {f71 : Int × Int × Int × Unit → Option (Bool × Unit)} (h71 : OK Proofs.Tryz.prog 71 (mkE p71 r71 false f71)) : OK Proofs.Tryz.prog 72 (mkE p72 r72 false (F72 f71)) :=
  fn_ok tab_ok (envL_ok (l := [(71, mkE p71 r71 false f71)]) (OKs.cons h71 OKs.nil)) mixed (ann := (fun _ => false)) (L := L72 f71) (fn := Proofs.Tryz.f72) (c := bodyC Proofs.Tryz.f72) (ls := []) Proofs.Tryz.func72 (by kernel_rfl) (by kernel_rfl) (by kernel_rfl) (by kernel_rfl)
    LoopsP.nil (e72 f71)
/-! impl.IsWind -/
def p70 : List SP := [.one (.r .gust)]
def r70 : List SP := [.one (.bool)]
def q70_0 : List SP := pat 41 0 [(0, .one (.r .gust)), (5, .one (.r .gust)), (6, .one (.int .i64)), (7, .one (.int .i64))]
noncomputable def s70_0 (f71 : Int × Int × Int × Unit → Option (Bool × Unit)) (f72 : Place × Unit → Option (Bool × Unit)) (t1 : List Gust × List Gust × Int × Int × Unit) (rec K : List Gust × List Gust × Int × Int × Unit → Option (Bool × Unit)) : Option (Bool × Unit) :=
  cond (decide (t1.2.2.2.1 < t1.2.2.1)) (rdL t1.2.1 t1.2.2.2.1 fun d2 => (f71 (d2.From, 0, 64, ())).bind fun x3 => cond (!(!x3.1)) ((f72 (d2.Drift, ())).bind fun x4 => cond (!(!x4.1)) (cond (decide (t1.2.2.2.1 > 0)) (rdL t1.1 (w64 (t1.2.2.2.1 - 1)) fun d5 => cond (decide (d2.From ≤ d5.From)) (some (false, ())) (rec (t1.1, t1.2.1, t1.2.2.1, (w64 (t1.2.2.2.1 + 1)), ()))) (rec (t1.1, t1.2.1, t1.2.2.1, (w64 (t1.2.2.2.1 + 1)), ()))) (some (false, ()))) (some (false, ()))) (K (t1.1, t1.2.1, t1.2.2.1, t1.2.2.2.1, ()))
noncomputable def F70 (f71 : Int × Int × Int × Unit → Option (Bool × Unit)) (f72 : Place × Unit → Option (Bool × Unit)) (a : List Gust × Unit) : Option (Bool × Unit) :=
  iterF (s70_0 f71 f72) fuel (a.1, a.1, (Int.ofNat (List.length a.1)), 0, ()) fun t6 => some ((decide ((Int.ofNat (List.length t6.1)) ≤ 8)), ())
def E70 (f71 : Int × Int × Int × Unit → Option (Bool × Unit)) (f72 : Place × Unit → Option (Bool × Unit)) : Env := envL [(71, mkE p71 r71 false f71), (72, mkE p72 r72 false f72)]
noncomputable def L70 (f71 : Int × Int × Int × Unit → Option (Bool × Unit)) (f72 : Place × Unit → Option (Bool × Unit)) : LEnv (densS (muts p70 ++ r70)) := lenv [(0, loopL (R := densS (muts p70 ++ r70)) q70_0 (s70_0 f71 f72))]
theorem e70_0 (f71 : Int × Int × Int × Unit → Option (Bool × Unit)) (f72 : Place × Unit → Option (Bool × Unit)) (X : Nat → St → Option (densS (muts p70 ++ r70))) (rec K : densS q70_0 → Option (densS (muts p70 ++ r70))) (t : densS q70_0) :
    ev (E70 f71 f72) tab (fun _ => false) (L70 f71 f72) (retK tab p70 r70 Proofs.Tryz.f70.results.toList) (loopC Proofs.Tryz.f70 0) (fun i s => cond (Nat.beq i 0) (decK 100 q70_0 s K) (X i s)) (fun s => decK 100 q70_0 s rec) (enc q70_0 t) = s70_0 f71 f72 t rec K := by kernel_rfl
theorem e70 (f71 : Int × Int × Int × Unit → Option (Bool × Unit)) (f72 : Place × Unit → Option (Bool × Unit)) (a : densS p70) : runF (E70 f71 f72) tab (fun _ => false) p70 r70 Proofs.Tryz.f70 (L70 f71 f72) a = F70 f71 f72 a := by kernel_rfl
theorem ok70 {f71 : Int × Int × Int × Unit → Option (Bool × Unit)} {f72 : Place × Unit → Option (Bool × Unit)} (h71 : OK Proofs.Tryz.prog 71 (mkE p71 r71 false f71)) (h72 : OK Proofs.Tryz.prog 72 (mkE p72 r72 false f72)) : OK Proofs.Tryz.prog 70 (mkE p70 r70 false (F70 f71 f72)) :=
  fn_ok tab_ok (envL_ok (l := [(71, mkE p71 r71 false f71), (72, mkE p72 r72 false f72)]) (OKs.cons h71 (OKs.cons h72 OKs.nil))) mixed (ann := (fun _ => false)) (L := L70 f71 f72) (fn := Proofs.Tryz.f70) (c := bodyC Proofs.Tryz.f70) (ls := [(0, loopC Proofs.Tryz.f70 0)]) Proofs.Tryz.func70 (by kernel_rfl) (by kernel_rfl) (by kernel_rfl) (by kernel_rfl)
    (LoopsP.cons q70_0 (s70_0 f71 f72) rfl (e70_0 f71 f72) LoopsP.nil) (e70 f71 f72)
/-! impl.IsShow -/
def p35 : List SP := [.agg [.r .device, .r .cue, .r .gust, .int .i64]]
def r35 : List SP := [.one (.bool)]
noncomputable def F35 (f68 : List Device × Unit → Option (Bool × Unit)) (f69 : List Cue × Unit → Option (Bool × Unit)) (f70 : List Gust × Unit → Option (Bool × Unit)) (f71 : Int × Int × Int × Unit → Option (Bool × Unit)) (a : ShD × Unit) : Option (Bool × Unit) :=
  (f68 (a.1.1, ())).bind fun x1 => cond x1.1 ((f69 (a.1.2.1, ())).bind fun x2 => cond x2.1 ((f70 (a.1.2.2.1, ())).bind fun x3 => cond x3.1 ((f71 (a.1.2.2.2.1, 0, 64, ())).bind fun x4 => some (x4.1, ())) (some (false, ()))) (some (false, ()))) (some (false, ()))
def E35 (f68 : List Device × Unit → Option (Bool × Unit)) (f69 : List Cue × Unit → Option (Bool × Unit)) (f70 : List Gust × Unit → Option (Bool × Unit)) (f71 : Int × Int × Int × Unit → Option (Bool × Unit)) : Env := envL [(68, mkE p68 r68 false f68), (69, mkE p69 r69 false f69), (70, mkE p70 r70 false f70), (71, mkE p71 r71 false f71)]
noncomputable def L35 (f68 : List Device × Unit → Option (Bool × Unit)) (f69 : List Cue × Unit → Option (Bool × Unit)) (f70 : List Gust × Unit → Option (Bool × Unit)) (f71 : Int × Int × Int × Unit → Option (Bool × Unit)) : LEnv (densS (muts p35 ++ r35)) := lenv []
theorem e35 (f68 : List Device × Unit → Option (Bool × Unit)) (f69 : List Cue × Unit → Option (Bool × Unit)) (f70 : List Gust × Unit → Option (Bool × Unit)) (f71 : Int × Int × Int × Unit → Option (Bool × Unit)) (a : densS p35) : runF (E35 f68 f69 f70 f71) tab (fun _ => false) p35 r35 Proofs.Tryz.f35 (L35 f68 f69 f70 f71) a = F35 f68 f69 f70 f71 a := by kernel_rfl
theorem ok35 {f68 : List Device × Unit → Option (Bool × Unit)} {f69 : List Cue × Unit → Option (Bool × Unit)} {f70 : List Gust × Unit → Option (Bool × Unit)} {f71 : Int × Int × Int × Unit → Option (Bool × Unit)} (h68 : OK Proofs.Tryz.prog 68 (mkE p68 r68 false f68)) (h69 : OK Proofs.Tryz.prog 69 (mkE p69 r69 false f69)) (h70 : OK Proofs.Tryz.prog 70 (mkE p70 r70 false f70)) (h71 : OK Proofs.Tryz.prog 71 (mkE p71 r71 false f71)) : OK Proofs.Tryz.prog 35 (mkE p35 r35 false (F35 f68 f69 f70 f71)) :=
  fn_ok tab_ok (envL_ok (l := [(68, mkE p68 r68 false f68), (69, mkE p69 r69 false f69), (70, mkE p70 r70 false f70), (71, mkE p71 r71 false f71)]) (OKs.cons h68 (OKs.cons h69 (OKs.cons h70 (OKs.cons h71 OKs.nil))))) mixed (ann := (fun _ => false)) (L := L35 f68 f69 f70 f71) (fn := Proofs.Tryz.f35) (c := bodyC Proofs.Tryz.f35) (ls := []) Proofs.Tryz.func35 (by kernel_rfl) (by kernel_rfl) (by kernel_rfl) (by kernel_rfl)
    LoopsP.nil (e35 f68 f69 f70 f71)
/-! impl.ComparePlaces -/
def p73 : List SP := [.t .place, .t .place]
def r73 : List SP := [.one (.int .i64)]
noncomputable def F73 (f106 : Int × Int × Unit → Option (Int × Unit)) (f105 : List Int × Unit → Option (Int × Unit)) (a : Place × Place × Unit) : Option (Int × Unit) :=
  (f106 (a.1.X, a.2.1.X, ())).bind fun x1 => (f106 (a.1.Y, a.2.1.Y, ())).bind fun x2 => (f105 (([x1.1, x2.1] : List Int), ())).bind fun x3 => some (x3.1, ())
def E73 (f106 : Int × Int × Unit → Option (Int × Unit)) (f105 : List Int × Unit → Option (Int × Unit)) : Env := envL [(106, mkE p106 r106 false f106), (105, mkE p105 r105 false f105)]
noncomputable def L73 (f106 : Int × Int × Unit → Option (Int × Unit)) (f105 : List Int × Unit → Option (Int × Unit)) : LEnv (densS (muts p73 ++ r73)) := lenv []
theorem e73 (f106 : Int × Int × Unit → Option (Int × Unit)) (f105 : List Int × Unit → Option (Int × Unit)) (a : densS p73) : runF (E73 f106 f105) tab (fun _ => false) p73 r73 Proofs.Tryz.f73 (L73 f106 f105) a = F73 f106 f105 a := by kernel_rfl
theorem ok73 {f106 : Int × Int × Unit → Option (Int × Unit)} {f105 : List Int × Unit → Option (Int × Unit)} (h106 : OK Proofs.Tryz.prog 106 (mkE p106 r106 false f106)) (h105 : OK Proofs.Tryz.prog 105 (mkE p105 r105 false f105)) : OK Proofs.Tryz.prog 73 (mkE p73 r73 false (F73 f106 f105)) :=
  fn_ok tab_ok (envL_ok (l := [(106, mkE p106 r106 false f106), (105, mkE p105 r105 false f105)]) (OKs.cons h106 (OKs.cons h105 OKs.nil))) mixed (ann := (fun _ => false)) (L := L73 f106 f105) (fn := Proofs.Tryz.f73) (c := bodyC Proofs.Tryz.f73) (ls := []) Proofs.Tryz.func73 (by kernel_rfl) (by kernel_rfl) (by kernel_rfl) (by kernel_rfl)
    LoopsP.nil (e73 f106 f105)
/-! impl.IsRose -/
def p36 : List SP := [.one (.r .place)]
def r36 : List SP := [.one (.bool)]
def q36_0 : List SP := pat 33 0 [(0, .one (.r .place)), (5, .one (.r .place)), (6, .one (.int .i64)), (7, .one (.int .i64))]
noncomputable def s36_0 (f72 : Place × Unit → Option (Bool × Unit)) (f73 : Place × Place × Unit → Option (Int × Unit)) (f71 : Int × Int × Int × Unit → Option (Bool × Unit)) (t1 : List Place × List Place × Int × Int × Unit) (rec K : List Place × List Place × Int × Int × Unit → Option (Bool × Unit)) : Option (Bool × Unit) :=
  cond (decide (t1.2.2.2.1 < t1.2.2.1)) (rdL t1.2.1 t1.2.2.2.1 fun d2 => (f72 (d2, ())).bind fun x3 => cond (!(!x3.1)) (cond (decide (t1.2.2.2.1 > 0)) (rdL t1.1 (w64 (t1.2.2.2.1 - 1)) fun d4 => (f73 (d4, d2, ())).bind fun x5 => cond (decide (x5.1 ≥ 0)) (some (false, ())) (rec (t1.1, t1.2.1, t1.2.2.1, (w64 (t1.2.2.2.1 + 1)), ()))) (rec (t1.1, t1.2.1, t1.2.2.1, (w64 (t1.2.2.2.1 + 1)), ()))) (some (false, ()))) (K (t1.1, t1.2.1, t1.2.2.1, t1.2.2.2.1, ()))
noncomputable def F36 (f72 : Place × Unit → Option (Bool × Unit)) (f73 : Place × Place × Unit → Option (Int × Unit)) (f71 : Int × Int × Int × Unit → Option (Bool × Unit)) (a : List Place × Unit) : Option (Bool × Unit) :=
  iterF (s36_0 f72 f73 f71) fuel (a.1, a.1, (Int.ofNat (List.length a.1)), 0, ()) fun t6 => (f71 ((Int.ofNat (List.length t6.1)), 1, 4, ())).bind fun x7 => some (x7.1, ())
def E36 (f72 : Place × Unit → Option (Bool × Unit)) (f73 : Place × Place × Unit → Option (Int × Unit)) (f71 : Int × Int × Int × Unit → Option (Bool × Unit)) : Env := envL [(72, mkE p72 r72 false f72), (73, mkE p73 r73 false f73), (71, mkE p71 r71 false f71)]
noncomputable def L36 (f72 : Place × Unit → Option (Bool × Unit)) (f73 : Place × Place × Unit → Option (Int × Unit)) (f71 : Int × Int × Int × Unit → Option (Bool × Unit)) : LEnv (densS (muts p36 ++ r36)) := lenv [(0, loopL (R := densS (muts p36 ++ r36)) q36_0 (s36_0 f72 f73 f71))]
theorem e36_0 (f72 : Place × Unit → Option (Bool × Unit)) (f73 : Place × Place × Unit → Option (Int × Unit)) (f71 : Int × Int × Int × Unit → Option (Bool × Unit)) (X : Nat → St → Option (densS (muts p36 ++ r36))) (rec K : densS q36_0 → Option (densS (muts p36 ++ r36))) (t : densS q36_0) :
    ev (E36 f72 f73 f71) tab (fun _ => false) (L36 f72 f73 f71) (retK tab p36 r36 Proofs.Tryz.f36.results.toList) (loopC Proofs.Tryz.f36 0) (fun i s => cond (Nat.beq i 0) (decK 100 q36_0 s K) (X i s)) (fun s => decK 100 q36_0 s rec) (enc q36_0 t) = s36_0 f72 f73 f71 t rec K := by kernel_rfl
theorem e36 (f72 : Place × Unit → Option (Bool × Unit)) (f73 : Place × Place × Unit → Option (Int × Unit)) (f71 : Int × Int × Int × Unit → Option (Bool × Unit)) (a : densS p36) : runF (E36 f72 f73 f71) tab (fun _ => false) p36 r36 Proofs.Tryz.f36 (L36 f72 f73 f71) a = F36 f72 f73 f71 a := by kernel_rfl
theorem ok36 {f72 : Place × Unit → Option (Bool × Unit)} {f73 : Place × Place × Unit → Option (Int × Unit)} {f71 : Int × Int × Int × Unit → Option (Bool × Unit)} (h72 : OK Proofs.Tryz.prog 72 (mkE p72 r72 false f72)) (h73 : OK Proofs.Tryz.prog 73 (mkE p73 r73 false f73)) (h71 : OK Proofs.Tryz.prog 71 (mkE p71 r71 false f71)) : OK Proofs.Tryz.prog 36 (mkE p36 r36 false (F36 f72 f73 f71)) :=
  fn_ok tab_ok (envL_ok (l := [(72, mkE p72 r72 false f72), (73, mkE p73 r73 false f73), (71, mkE p71 r71 false f71)]) (OKs.cons h72 (OKs.cons h73 (OKs.cons h71 OKs.nil)))) mixed (ann := (fun _ => false)) (L := L36 f72 f73 f71) (fn := Proofs.Tryz.f36) (c := bodyC Proofs.Tryz.f36) (ls := [(0, loopC Proofs.Tryz.f36 0)]) Proofs.Tryz.func36 (by kernel_rfl) (by kernel_rfl) (by kernel_rfl) (by kernel_rfl)
    (LoopsP.cons q36_0 (s36_0 f72 f73 f71) rfl (e36_0 f72 f73 f71) LoopsP.nil) (e36 f72 f73 f71)
/-! impl.IsBox -/
def p37 : List SP := [.t .box]
def r37 : List SP := [.one (.bool)]
noncomputable def F37 (f74 : Place × Unit → Option (Bool × Unit)) (a : Box × Unit) : Option (Bool × Unit) :=
  (f74 (a.1.Low, ())).bind fun x1 => cond x1.1 ((f74 (a.1.High, ())).bind fun x2 => cond x2.1 (cond (decide (a.1.Low.X ≤ a.1.High.X)) (some ((decide (a.1.Low.Y ≤ a.1.High.Y)), ())) (some (false, ()))) (some (false, ()))) (some (false, ()))
def E37 (f74 : Place × Unit → Option (Bool × Unit)) : Env := envL [(74, mkE p74 r74 false f74)]
noncomputable def L37 (f74 : Place × Unit → Option (Bool × Unit)) : LEnv (densS (muts p37 ++ r37)) := lenv []
theorem e37 (f74 : Place × Unit → Option (Bool × Unit)) (a : densS p37) : runF (E37 f74) tab (fun _ => false) p37 r37 Proofs.Tryz.f37 (L37 f74) a = F37 f74 a := by kernel_rfl
theorem ok37 {f74 : Place × Unit → Option (Bool × Unit)} (h74 : OK Proofs.Tryz.prog 74 (mkE p74 r74 false f74)) : OK Proofs.Tryz.prog 37 (mkE p37 r37 false (F37 f74)) :=
  fn_ok tab_ok (envL_ok (l := [(74, mkE p74 r74 false f74)]) (OKs.cons h74 OKs.nil)) mixed (ann := (fun _ => false)) (L := L37 f74) (fn := Proofs.Tryz.f37) (c := bodyC Proofs.Tryz.f37) (ls := []) Proofs.Tryz.func37 (by kernel_rfl) (by kernel_rfl) (by kernel_rfl) (by kernel_rfl)
    LoopsP.nil (e37 f74)
/-! impl.floorDiv -/
def p198 : List SP := [.one (.int .i64), .one (.int .i64)]
def r198 : List SP := [.one (.int .i64)]
noncomputable def F198 (a : Int × Int × Unit) : Option (Int × Unit) :=
  cond (decide (a.2.1 = 0)) none (cond (decide (a.2.1 = 0)) none (cond (decide ((Int.tmod a.1 a.2.1) < 0)) (some ((w64 ((w64 (Int.tdiv a.1 a.2.1)) - 1)), ())) (some ((w64 (Int.tdiv a.1 a.2.1)), ()))))
def E198 : Env := envL []
noncomputable def L198 : LEnv (densS (muts p198 ++ r198)) := lenv []
theorem e198 (a : densS p198) : runF (E198) tab (fun _ => false) p198 r198 Proofs.Tryz.f198 (L198) a = F198 a := by kernel_rfl
theorem ok198 : OK Proofs.Tryz.prog 198 (mkE p198 r198 false (F198)) :=
  fn_ok tab_ok (envL_ok (l := []) OKs.nil) mixed (ann := (fun _ => false)) (L := L198) (fn := Proofs.Tryz.f198) (c := bodyC Proofs.Tryz.f198) (ls := []) Proofs.Tryz.func198 (by kernel_rfl) (by kernel_rfl) (by kernel_rfl) (by kernel_rfl)
    LoopsP.nil (e198)
/-! impl.RampAt -/
def p171 : List SP := [.one (.int .i64), .one (.int .i64), .one (.int .i64), .one (.int .i64)]
def r171 : List SP := [.one (.int .i64)]
noncomputable def F171 (f107 : Int × Unit → Option (Bool × Unit)) (f198 : Int × Int × Unit → Option (Int × Unit)) (a : Int × Int × Int × Int × Unit) : Option (Int × Unit) :=
  (f107 (a.1, ())).bind fun x1 => cond (!(!x1.1)) ((f107 (a.2.1, ())).bind fun x2 => cond (!x2.1) (some (0, ())) (cond (decide (a.2.2.1 ≥ a.2.2.2.1)) (some (a.2.1, ())) (cond (!(decide (a.2.2.1 ≤ 0))) (cond (decide (a.2.2.2.1 > 999)) (some (a.1, ())) ((f198 ((w64 (a.2.2.1 * (w64 (a.2.1 - a.1)))), a.2.2.2.1, ())).bind fun x3 => some ((w64 (a.1 + x3.1)), ()))) (some (a.1, ()))))) (some (0, ()))
def E171 (f107 : Int × Unit → Option (Bool × Unit)) (f198 : Int × Int × Unit → Option (Int × Unit)) : Env := envL [(107, mkE p107 r107 false f107), (198, mkE p198 r198 false f198)]
noncomputable def L171 (f107 : Int × Unit → Option (Bool × Unit)) (f198 : Int × Int × Unit → Option (Int × Unit)) : LEnv (densS (muts p171 ++ r171)) := lenv []
theorem e171 (f107 : Int × Unit → Option (Bool × Unit)) (f198 : Int × Int × Unit → Option (Int × Unit)) (a : densS p171) : runF (E171 f107 f198) tab (fun _ => false) p171 r171 Proofs.Tryz.f171 (L171 f107 f198) a = F171 f107 f198 a := by kernel_rfl
theorem ok171 {f107 : Int × Unit → Option (Bool × Unit)} {f198 : Int × Int × Unit → Option (Int × Unit)} (h107 : OK Proofs.Tryz.prog 107 (mkE p107 r107 false f107)) (h198 : OK Proofs.Tryz.prog 198 (mkE p198 r198 false f198)) : OK Proofs.Tryz.prog 171 (mkE p171 r171 false (F171 f107 f198)) :=
  fn_ok tab_ok (envL_ok (l := [(107, mkE p107 r107 false f107), (198, mkE p198 r198 false f198)]) (OKs.cons h107 (OKs.cons h198 OKs.nil))) mixed (ann := (fun _ => false)) (L := L171 f107 f198) (fn := Proofs.Tryz.f171) (c := bodyC Proofs.Tryz.f171) (ls := []) Proofs.Tryz.func171 (by kernel_rfl) (by kernel_rfl) (by kernel_rfl) (by kernel_rfl)
    LoopsP.nil (e171 f107 f198)
/-! impl.LevelAt -/
def p140 : List SP := [.one (.r .cue), .one (.str), .one (.int .i64)]
def r140 : List SP := [.one (.int .i64)]
def q140_0 : List SP := pat 58 0 [(1, .one (.str)), (2, .one (.int .i64)), (7, .one (.int .i64)), (8, .boxt 5000001 .cue), (19, .one (.r .cue)), (20, .one (.int .i64)), (21, .one (.int .i64))]
noncomputable def s140_0 (f69 : List Cue × Unit → Option (Bool × Unit)) (f171 : Int × Int × Int × Int × Unit → Option (Int × Unit)) (t2 : Str × Int × Int × Cue × List Cue × Int × Int × Unit) (rec K : Str × Int × Int × Cue × List Cue × Int × Int × Unit → Option (Int × Unit)) : Option (Int × Unit) :=
  cond (decide (t2.2.2.2.2.2.2.1 < t2.2.2.2.2.2.1)) (rdL t2.2.2.2.2.1 t2.2.2.2.2.2.2.1 fun d3 => cond (decide (d3.Name = t2.1)) (cond (decide (d3.Tick ≤ t2.2.1)) ((f171 (t2.2.2.1, t2.2.2.2.1.Level, (w64 (d3.Tick - t2.2.2.2.1.Tick)), t2.2.2.2.1.Ramp, ())).bind fun x4 => rec (t2.1, t2.2.1, x4.1, d3, t2.2.2.2.2.1, t2.2.2.2.2.2.1, (w64 (t2.2.2.2.2.2.2.1 + 1)), ())) (rec (t2.1, t2.2.1, t2.2.2.1, t2.2.2.2.1, t2.2.2.2.2.1, t2.2.2.2.2.2.1, (w64 (t2.2.2.2.2.2.2.1 + 1)), ()))) (rec (t2.1, t2.2.1, t2.2.2.1, t2.2.2.2.1, t2.2.2.2.2.1, t2.2.2.2.2.2.1, (w64 (t2.2.2.2.2.2.2.1 + 1)), ()))) (K (t2.1, t2.2.1, t2.2.2.1, t2.2.2.2.1, t2.2.2.2.2.1, t2.2.2.2.2.2.1, t2.2.2.2.2.2.2.1, ()))
noncomputable def F140 (f69 : List Cue × Unit → Option (Bool × Unit)) (f171 : Int × Int × Int × Int × Unit → Option (Int × Unit)) (a : List Cue × Str × Int × Unit) : Option (Int × Unit) :=
  (f69 (a.1, ())).bind fun x1 => cond (!(!x1.1)) (cond (decide (a.2.2.1 < 0)) (some (0, ())) (iterF (s140_0 f69 f171) fuel (a.2.1, a.2.2.1, 0, (⟨0, [], 0, 0⟩ : Cue), a.1, (Int.ofNat (List.length a.1)), 0, ()) fun t5 => (f171 (t5.2.2.1, t5.2.2.2.1.Level, (w64 (t5.2.1 - t5.2.2.2.1.Tick)), t5.2.2.2.1.Ramp, ())).bind fun x6 => some (x6.1, ()))) (some (0, ()))
def E140 (f69 : List Cue × Unit → Option (Bool × Unit)) (f171 : Int × Int × Int × Int × Unit → Option (Int × Unit)) : Env := envL [(69, mkE p69 r69 false f69), (171, mkE p171 r171 false f171)]
noncomputable def L140 (f69 : List Cue × Unit → Option (Bool × Unit)) (f171 : Int × Int × Int × Int × Unit → Option (Int × Unit)) : LEnv (densS (muts p140 ++ r140)) := lenv [(0, loopL (R := densS (muts p140 ++ r140)) q140_0 (s140_0 f69 f171))]
theorem e140_0 (f69 : List Cue × Unit → Option (Bool × Unit)) (f171 : Int × Int × Int × Int × Unit → Option (Int × Unit)) (X : Nat → St → Option (densS (muts p140 ++ r140))) (rec K : densS q140_0 → Option (densS (muts p140 ++ r140))) (t : densS q140_0) :
    ev (E140 f69 f171) tab (fun _ => false) (L140 f69 f171) (retK tab p140 r140 Proofs.Tryz.f140.results.toList) (loopC Proofs.Tryz.f140 0) (fun i s => cond (Nat.beq i 0) (decK 100 q140_0 s K) (X i s)) (fun s => decK 100 q140_0 s rec) (enc q140_0 t) = s140_0 f69 f171 t rec K := by kernel_rfl
theorem e140 (f69 : List Cue × Unit → Option (Bool × Unit)) (f171 : Int × Int × Int × Int × Unit → Option (Int × Unit)) (a : densS p140) : runF (E140 f69 f171) tab (fun _ => false) p140 r140 Proofs.Tryz.f140 (L140 f69 f171) a = F140 f69 f171 a := by kernel_rfl
theorem ok140 {f69 : List Cue × Unit → Option (Bool × Unit)} {f171 : Int × Int × Int × Int × Unit → Option (Int × Unit)} (h69 : OK Proofs.Tryz.prog 69 (mkE p69 r69 false f69)) (h171 : OK Proofs.Tryz.prog 171 (mkE p171 r171 false f171)) : OK Proofs.Tryz.prog 140 (mkE p140 r140 false (F140 f69 f171)) :=
  fn_ok tab_ok (envL_ok (l := [(69, mkE p69 r69 false f69), (171, mkE p171 r171 false f171)]) (OKs.cons h69 (OKs.cons h171 OKs.nil))) mixed (ann := (fun _ => false)) (L := L140 f69 f171) (fn := Proofs.Tryz.f140) (c := bodyC Proofs.Tryz.f140) (ls := [(0, loopC Proofs.Tryz.f140 0)]) Proofs.Tryz.func140 (by kernel_rfl) (by kernel_rfl) (by kernel_rfl) (by kernel_rfl)
    (LoopsP.cons q140_0 (s140_0 f69 f171) rfl (e140_0 f69 f171) LoopsP.nil) (e140 f69 f171)
/-! impl.IsDemands -/
def p172 : List SP := [.one (.r .int)]
def r172 : List SP := [.one (.bool)]
def q172_0 : List SP := pat 18 0 [(0, .one (.r .int)), (5, .one (.r .int)), (6, .one (.int .i64)), (7, .one (.int .i64))]
noncomputable def s172_0 (f71 : Int × Int × Int × Unit → Option (Bool × Unit)) (t1 : List Int × List Int × Int × Int × Unit) (rec K : List Int × List Int × Int × Int × Unit → Option (Bool × Unit)) : Option (Bool × Unit) :=
  cond (decide (t1.2.2.2.1 < t1.2.2.1)) (rdL t1.2.1 t1.2.2.2.1 fun d2 => (f71 (d2, 0, 64, ())).bind fun x3 => cond (!x3.1) (some (false, ())) (rec (t1.1, t1.2.1, t1.2.2.1, (w64 (t1.2.2.2.1 + 1)), ()))) (K (t1.1, t1.2.1, t1.2.2.1, t1.2.2.2.1, ()))
noncomputable def F172 (f71 : Int × Int × Int × Unit → Option (Bool × Unit)) (a : List Int × Unit) : Option (Bool × Unit) :=
  iterF (s172_0 f71) fuel (a.1, a.1, (Int.ofNat (List.length a.1)), 0, ()) fun t4 => some ((decide ((Int.ofNat (List.length t4.1)) ≤ 8)), ())
def E172 (f71 : Int × Int × Int × Unit → Option (Bool × Unit)) : Env := envL [(71, mkE p71 r71 false f71)]
noncomputable def L172 (f71 : Int × Int × Int × Unit → Option (Bool × Unit)) : LEnv (densS (muts p172 ++ r172)) := lenv [(0, loopL (R := densS (muts p172 ++ r172)) q172_0 (s172_0 f71))]
theorem e172_0 (f71 : Int × Int × Int × Unit → Option (Bool × Unit)) (X : Nat → St → Option (densS (muts p172 ++ r172))) (rec K : densS q172_0 → Option (densS (muts p172 ++ r172))) (t : densS q172_0) :
    ev (E172 f71) tab (fun _ => false) (L172 f71) (retK tab p172 r172 Proofs.Tryz.f172.results.toList) (loopC Proofs.Tryz.f172 0) (fun i s => cond (Nat.beq i 0) (decK 100 q172_0 s K) (X i s)) (fun s => decK 100 q172_0 s rec) (enc q172_0 t) = s172_0 f71 t rec K := by kernel_rfl
theorem e172 (f71 : Int × Int × Int × Unit → Option (Bool × Unit)) (a : densS p172) : runF (E172 f71) tab (fun _ => false) p172 r172 Proofs.Tryz.f172 (L172 f71) a = F172 f71 a := by kernel_rfl
theorem ok172 {f71 : Int × Int × Int × Unit → Option (Bool × Unit)} (h71 : OK Proofs.Tryz.prog 71 (mkE p71 r71 false f71)) : OK Proofs.Tryz.prog 172 (mkE p172 r172 false (F172 f71)) :=
  fn_ok tab_ok (envL_ok (l := [(71, mkE p71 r71 false f71)]) (OKs.cons h71 OKs.nil)) mixed (ann := (fun _ => false)) (L := L172 f71) (fn := Proofs.Tryz.f172) (c := bodyC Proofs.Tryz.f172) (ls := [(0, loopC Proofs.Tryz.f172 0)]) Proofs.Tryz.func172 (by kernel_rfl) (by kernel_rfl) (by kernel_rfl) (by kernel_rfl)
    (LoopsP.cons q172_0 (s172_0 f71) rfl (e172_0 f71) LoopsP.nil) (e172 f71)
/-! impl.CutAt -/
def p174 : List SP := [.one (.r .int), .one (.int .i64)]
def r174 : List SP := [.one (.o 0 .int)]
def q174_0 : List SP := pat 31 0 [(1, .one (.int .i64)), (5, .one (.o 5000001 .int)), (17, .one (.r .int)), (18, .one (.int .i64)), (19, .one (.int .i64))]
noncomputable def s174_0 (f172 : List Int × Unit → Option (Bool × Unit)) (t2 : Int × List Int × List Int × Int × Int × Unit) (rec K : Int × List Int × List Int × Int × Int × Unit → Option (List Int × Unit)) : Option (List Int × Unit) :=
  cond (decide (t2.2.2.2.2.1 < t2.2.2.2.1)) (rdL t2.2.2.1 t2.2.2.2.2.1 fun d3 => capK (List.length t2.2.1 + List.length ([(mn d3 t2.1)] : List Int)) (rec (t2.1, (t2.2.1 ++ ([(mn d3 t2.1)] : List Int)), t2.2.2.1, t2.2.2.2.1, (w64 (t2.2.2.2.2.1 + 1)), ()))) (K (t2.1, t2.2.1, t2.2.2.1, t2.2.2.2.1, t2.2.2.2.2.1, ()))
noncomputable def F174 (f172 : List Int × Unit → Option (Bool × Unit)) (a : List Int × Int × Unit) : Option (List Int × Unit) :=
  (f172 (a.1, ())).bind fun x1 => cond (!(!x1.1)) (cond (decide (a.2.1 < 0)) (some (([] : List Int), ())) (iterF (s174_0 f172) fuel (a.2.1, ([] : List Int), a.1, (Int.ofNat (List.length a.1)), 0, ()) fun t4 => some (t4.2.1, ()))) (some (([] : List Int), ()))
def E174 (f172 : List Int × Unit → Option (Bool × Unit)) : Env := envL [(172, mkE p172 r172 false f172)]
noncomputable def L174 (f172 : List Int × Unit → Option (Bool × Unit)) : LEnv (densS (muts p174 ++ r174)) := lenv [(0, loopL (R := densS (muts p174 ++ r174)) q174_0 (s174_0 f172))]
theorem e174_0 (f172 : List Int × Unit → Option (Bool × Unit)) (X : Nat → St → Option (densS (muts p174 ++ r174))) (rec K : densS q174_0 → Option (densS (muts p174 ++ r174))) (t : densS q174_0) :
    ev (E174 f172) tab (fun _ => false) (L174 f172) (retK tab p174 r174 Proofs.Tryz.f174.results.toList) (loopC Proofs.Tryz.f174 0) (fun i s => cond (Nat.beq i 0) (decK 100 q174_0 s K) (X i s)) (fun s => decK 100 q174_0 s rec) (enc q174_0 t) = s174_0 f172 t rec K := by kernel_rfl
theorem e174 (f172 : List Int × Unit → Option (Bool × Unit)) (a : densS p174) : runF (E174 f172) tab (fun _ => false) p174 r174 Proofs.Tryz.f174 (L174 f172) a = F174 f172 a := by kernel_rfl
theorem ok174 {f172 : List Int × Unit → Option (Bool × Unit)} (h172 : OK Proofs.Tryz.prog 172 (mkE p172 r172 false f172)) : OK Proofs.Tryz.prog 174 (mkE p174 r174 false (F174 f172)) :=
  fn_ok tab_ok (envL_ok (l := [(172, mkE p172 r172 false f172)]) (OKs.cons h172 OKs.nil)) mixed (ann := (fun _ => false)) (L := L174 f172) (fn := Proofs.Tryz.f174) (c := bodyC Proofs.Tryz.f174) (ls := [(0, loopC Proofs.Tryz.f174 0)]) Proofs.Tryz.func174 (by kernel_rfl) (by kernel_rfl) (by kernel_rfl) (by kernel_rfl)
    (LoopsP.cons q174_0 (s174_0 f172) rfl (e174_0 f172) LoopsP.nil) (e174 f172)
/-! impl.sumOf -/
def p175 : List SP := [.one (.r .int)]
def r175 : List SP := [.one (.int .i64)]
def q175_0 : List SP := pat 17 0 [(3, .one (.int .i64)), (6, .one (.r .int)), (7, .one (.int .i64)), (8, .one (.int .i64))]
noncomputable def s175_0 (t1 : Int × List Int × Int × Int × Unit) (rec K : Int × List Int × Int × Int × Unit → Option (Int × Unit)) : Option (Int × Unit) :=
  cond (decide (t1.2.2.2.1 < t1.2.2.1)) (rdL t1.2.1 t1.2.2.2.1 fun d2 => rec ((w64 (t1.1 + d2)), t1.2.1, t1.2.2.1, (w64 (t1.2.2.2.1 + 1)), ())) (K (t1.1, t1.2.1, t1.2.2.1, t1.2.2.2.1, ()))
noncomputable def F175 (a : List Int × Unit) : Option (Int × Unit) :=
  iterF (s175_0) fuel (0, a.1, (Int.ofNat (List.length a.1)), 0, ()) fun t3 => some (t3.1, ())
def E175 : Env := envL []
noncomputable def L175 : LEnv (densS (muts p175 ++ r175)) := lenv [(0, loopL (R := densS (muts p175 ++ r175)) q175_0 (s175_0))]
theorem e175_0 (X : Nat → St → Option (densS (muts p175 ++ r175))) (rec K : densS q175_0 → Option (densS (muts p175 ++ r175))) (t : densS q175_0) :
    ev (E175) tab (fun _ => false) (L175) (retK tab p175 r175 Proofs.Tryz.f175.results.toList) (loopC Proofs.Tryz.f175 0) (fun i s => cond (Nat.beq i 0) (decK 100 q175_0 s K) (X i s)) (fun s => decK 100 q175_0 s rec) (enc q175_0 t) = s175_0 t rec K := by kernel_rfl
theorem e175 (a : densS p175) : runF (E175) tab (fun _ => false) p175 r175 Proofs.Tryz.f175 (L175) a = F175 a := by kernel_rfl
theorem ok175 : OK Proofs.Tryz.prog 175 (mkE p175 r175 false (F175)) :=
  fn_ok tab_ok (envL_ok (l := []) OKs.nil) mixed (ann := (fun _ => false)) (L := L175) (fn := Proofs.Tryz.f175) (c := bodyC Proofs.Tryz.f175) (ls := [(0, loopC Proofs.Tryz.f175 0)]) Proofs.Tryz.func175 (by kernel_rfl) (by kernel_rfl) (by kernel_rfl) (by kernel_rfl)
    (LoopsP.cons q175_0 (s175_0) rfl (e175_0) LoopsP.nil) (e175)
/-! impl.LevelFor -/
def p173 : List SP := [.one (.int .i64), .one (.r .int)]
def r173 : List SP := [.one (.int .i64)]
def q173_0 : List SP := pat 23 0 [(0, .one (.int .i64)), (1, .one (.r .int)), (5, .one (.int .i64))]
noncomputable def s173_0 (f172 : List Int × Unit → Option (Bool × Unit)) (f136 : Int × Unit → Option (Bool × Unit)) (f174 : List Int × Int × Unit → Option (List Int × Unit)) (f175 : List Int × Unit → Option (Int × Unit)) (t3 : Int × List Int × Int × Unit) (rec K : Int × List Int × Int × Unit → Option (Int × Unit)) : Option (Int × Unit) :=
  (f174 (t3.2.1, t3.2.2.1, ())).bind fun x4 => (f175 (x4.1, ())).bind fun x5 => cond (decide (x5.1 > t3.1)) (rec (t3.1, t3.2.1, (w64 (t3.2.2.1 - 1)), ())) (K (t3.1, t3.2.1, t3.2.2.1, ()))
noncomputable def F173 (f172 : List Int × Unit → Option (Bool × Unit)) (f136 : Int × Unit → Option (Bool × Unit)) (f174 : List Int × Int × Unit → Option (List Int × Unit)) (f175 : List Int × Unit → Option (Int × Unit)) (a : Int × List Int × Unit) : Option (Int × Unit) :=
  (f172 (a.2.1, ())).bind fun x1 => cond (!(!x1.1)) ((f136 (a.1, ())).bind fun x2 => cond (!x2.1) (some (0, ())) (iterF (s173_0 f172 f136 f174 f175) fuel (a.1, a.2.1, 64, ()) fun t6 => some (t6.2.2.1, ()))) (some (0, ()))
def E173 (f172 : List Int × Unit → Option (Bool × Unit)) (f136 : Int × Unit → Option (Bool × Unit)) (f174 : List Int × Int × Unit → Option (List Int × Unit)) (f175 : List Int × Unit → Option (Int × Unit)) : Env := envL [(172, mkE p172 r172 false f172), (136, mkE p136 r136 false f136), (174, mkE p174 r174 false f174), (175, mkE p175 r175 false f175)]
noncomputable def L173 (f172 : List Int × Unit → Option (Bool × Unit)) (f136 : Int × Unit → Option (Bool × Unit)) (f174 : List Int × Int × Unit → Option (List Int × Unit)) (f175 : List Int × Unit → Option (Int × Unit)) : LEnv (densS (muts p173 ++ r173)) := lenv [(0, loopL (R := densS (muts p173 ++ r173)) q173_0 (s173_0 f172 f136 f174 f175))]
theorem e173_0 (f172 : List Int × Unit → Option (Bool × Unit)) (f136 : Int × Unit → Option (Bool × Unit)) (f174 : List Int × Int × Unit → Option (List Int × Unit)) (f175 : List Int × Unit → Option (Int × Unit)) (X : Nat → St → Option (densS (muts p173 ++ r173))) (rec K : densS q173_0 → Option (densS (muts p173 ++ r173))) (t : densS q173_0) :
    ev (E173 f172 f136 f174 f175) tab (fun _ => false) (L173 f172 f136 f174 f175) (retK tab p173 r173 Proofs.Tryz.f173.results.toList) (loopC Proofs.Tryz.f173 0) (fun i s => cond (Nat.beq i 0) (decK 100 q173_0 s K) (X i s)) (fun s => decK 100 q173_0 s rec) (enc q173_0 t) = s173_0 f172 f136 f174 f175 t rec K := by kernel_rfl
theorem e173 (f172 : List Int × Unit → Option (Bool × Unit)) (f136 : Int × Unit → Option (Bool × Unit)) (f174 : List Int × Int × Unit → Option (List Int × Unit)) (f175 : List Int × Unit → Option (Int × Unit)) (a : densS p173) : runF (E173 f172 f136 f174 f175) tab (fun _ => false) p173 r173 Proofs.Tryz.f173 (L173 f172 f136 f174 f175) a = F173 f172 f136 f174 f175 a := by kernel_rfl
theorem ok173 {f172 : List Int × Unit → Option (Bool × Unit)} {f136 : Int × Unit → Option (Bool × Unit)} {f174 : List Int × Int × Unit → Option (List Int × Unit)} {f175 : List Int × Unit → Option (Int × Unit)} (h172 : OK Proofs.Tryz.prog 172 (mkE p172 r172 false f172)) (h136 : OK Proofs.Tryz.prog 136 (mkE p136 r136 false f136)) (h174 : OK Proofs.Tryz.prog 174 (mkE p174 r174 false f174)) (h175 : OK Proofs.Tryz.prog 175 (mkE p175 r175 false f175)) : OK Proofs.Tryz.prog 173 (mkE p173 r173 false (F173 f172 f136 f174 f175)) :=
  fn_ok tab_ok (envL_ok (l := [(172, mkE p172 r172 false f172), (136, mkE p136 r136 false f136), (174, mkE p174 r174 false f174), (175, mkE p175 r175 false f175)]) (OKs.cons h172 (OKs.cons h136 (OKs.cons h174 (OKs.cons h175 OKs.nil))))) mixed (ann := (fun _ => false)) (L := L173 f172 f136 f174 f175) (fn := Proofs.Tryz.f173) (c := bodyC Proofs.Tryz.f173) (ls := [(0, loopC Proofs.Tryz.f173 0)]) Proofs.Tryz.func173 (by kernel_rfl) (by kernel_rfl) (by kernel_rfl) (by kernel_rfl)
    (LoopsP.cons q173_0 (s173_0 f172 f136 f174 f175) rfl (e173_0 f172 f136 f174 f175) LoopsP.nil) (e173 f172 f136 f174 f175)
/-! impl.ShareOut -/
def p141 : List SP := [.one (.int .i64), .one (.r .int)]
def r141 : List SP := [.one (.o 0 .int)]
def q141_0 : List SP := pat 53 0 [(5, .one (.int .i64)), (6, .one (.o 5000001 .int)), (7, .one (.int .i64)), (29, .one (.r .int)), (30, .one (.int .i64)), (31, .one (.int .i64))]
noncomputable def s141_0 (f172 : List Int × Unit → Option (Bool × Unit)) (f136 : Int × Unit → Option (Bool × Unit)) (f173 : Int × List Int × Unit → Option (Int × Unit)) (f174 : List Int × Int × Unit → Option (List Int × Unit)) (f175 : List Int × Unit → Option (Int × Unit)) (t6 : Int × List Int × Int × List Int × Int × Int × Unit) (rec K : Int × List Int × Int × List Int × Int × Int × Unit → Option (List Int × Unit)) : Option (List Int × Unit) :=
  cond (decide (t6.2.2.2.2.2.1 < t6.2.2.2.2.1)) (rdL t6.2.2.2.1 t6.2.2.2.2.2.1 fun d7 => cond (decide (d7 > t6.1)) (cond (decide (t6.2.2.1 > 0)) (rdL t6.2.1 t6.2.2.2.2.2.1 fun _ => (t6.2.1[(Int.toNat t6.2.2.2.2.2.1)]?).bind fun d8 => rdL t6.2.1 t6.2.2.2.2.2.1 fun _ => (t6.2.1[(Int.toNat t6.2.2.2.2.2.1)]?).bind fun d9 => rec (t6.1, (List.set t6.2.1 (Int.toNat t6.2.2.2.2.2.1) (w64 (d8 + 1))), (w64 (t6.2.2.1 - 1)), t6.2.2.2.1, t6.2.2.2.2.1, (w64 (t6.2.2.2.2.2.1 + 1)), ())) (rec (t6.1, t6.2.1, t6.2.2.1, t6.2.2.2.1, t6.2.2.2.2.1, (w64 (t6.2.2.2.2.2.1 + 1)), ()))) (rec (t6.1, t6.2.1, t6.2.2.1, t6.2.2.2.1, t6.2.2.2.2.1, (w64 (t6.2.2.2.2.2.1 + 1)), ()))) (K (t6.1, t6.2.1, t6.2.2.1, t6.2.2.2.1, t6.2.2.2.2.1, t6.2.2.2.2.2.1, ()))
noncomputable def F141 (f172 : List Int × Unit → Option (Bool × Unit)) (f136 : Int × Unit → Option (Bool × Unit)) (f173 : Int × List Int × Unit → Option (Int × Unit)) (f174 : List Int × Int × Unit → Option (List Int × Unit)) (f175 : List Int × Unit → Option (Int × Unit)) (a : Int × List Int × Unit) : Option (List Int × Unit) :=
  (f172 (a.2.1, ())).bind fun x1 => cond (!(!x1.1)) ((f136 (a.1, ())).bind fun x2 => cond (!x2.1) (some (([] : List Int), ())) ((f173 (a.1, a.2.1, ())).bind fun x3 => (f174 (a.2.1, x3.1, ())).bind fun x4 => (f175 (x4.1, ())).bind fun x5 => iterF (s141_0 f172 f136 f173 f174 f175) fuel (x3.1, x4.1, (w64 (a.1 - x5.1)), a.2.1, (Int.ofNat (List.length a.2.1)), 0, ()) fun t10 => some (t10.2.1, ()))) (some (([] : List Int), ()))
def E141 (f172 : List Int × Unit → Option (Bool × Unit)) (f136 : Int × Unit → Option (Bool × Unit)) (f173 : Int × List Int × Unit → Option (Int × Unit)) (f174 : List Int × Int × Unit → Option (List Int × Unit)) (f175 : List Int × Unit → Option (Int × Unit)) : Env := envL [(172, mkE p172 r172 false f172), (136, mkE p136 r136 false f136), (173, mkE p173 r173 false f173), (174, mkE p174 r174 false f174), (175, mkE p175 r175 false f175)]
noncomputable def L141 (f172 : List Int × Unit → Option (Bool × Unit)) (f136 : Int × Unit → Option (Bool × Unit)) (f173 : Int × List Int × Unit → Option (Int × Unit)) (f174 : List Int × Int × Unit → Option (List Int × Unit)) (f175 : List Int × Unit → Option (Int × Unit)) : LEnv (densS (muts p141 ++ r141)) := lenv [(0, loopL (R := densS (muts p141 ++ r141)) q141_0 (s141_0 f172 f136 f173 f174 f175))]
theorem e141_0 (f172 : List Int × Unit → Option (Bool × Unit)) (f136 : Int × Unit → Option (Bool × Unit)) (f173 : Int × List Int × Unit → Option (Int × Unit)) (f174 : List Int × Int × Unit → Option (List Int × Unit)) (f175 : List Int × Unit → Option (Int × Unit)) (X : Nat → St → Option (densS (muts p141 ++ r141))) (rec K : densS q141_0 → Option (densS (muts p141 ++ r141))) (t : densS q141_0) :
    ev (E141 f172 f136 f173 f174 f175) tab (fun _ => false) (L141 f172 f136 f173 f174 f175) (retK tab p141 r141 Proofs.Tryz.f141.results.toList) (loopC Proofs.Tryz.f141 0) (fun i s => cond (Nat.beq i 0) (decK 100 q141_0 s K) (X i s)) (fun s => decK 100 q141_0 s rec) (enc q141_0 t) = s141_0 f172 f136 f173 f174 f175 t rec K := by kernel_rfl
theorem e141 (f172 : List Int × Unit → Option (Bool × Unit)) (f136 : Int × Unit → Option (Bool × Unit)) (f173 : Int × List Int × Unit → Option (Int × Unit)) (f174 : List Int × Int × Unit → Option (List Int × Unit)) (f175 : List Int × Unit → Option (Int × Unit)) (a : densS p141) : runF (E141 f172 f136 f173 f174 f175) tab (fun _ => false) p141 r141 Proofs.Tryz.f141 (L141 f172 f136 f173 f174 f175) a = F141 f172 f136 f173 f174 f175 a := by kernel_rfl
theorem ok141 {f172 : List Int × Unit → Option (Bool × Unit)} {f136 : Int × Unit → Option (Bool × Unit)} {f173 : Int × List Int × Unit → Option (Int × Unit)} {f174 : List Int × Int × Unit → Option (List Int × Unit)} {f175 : List Int × Unit → Option (Int × Unit)} (h172 : OK Proofs.Tryz.prog 172 (mkE p172 r172 false f172)) (h136 : OK Proofs.Tryz.prog 136 (mkE p136 r136 false f136)) (h173 : OK Proofs.Tryz.prog 173 (mkE p173 r173 false f173)) (h174 : OK Proofs.Tryz.prog 174 (mkE p174 r174 false f174)) (h175 : OK Proofs.Tryz.prog 175 (mkE p175 r175 false f175)) : OK Proofs.Tryz.prog 141 (mkE p141 r141 false (F141 f172 f136 f173 f174 f175)) :=
  fn_ok tab_ok (envL_ok (l := [(172, mkE p172 r172 false f172), (136, mkE p136 r136 false f136), (173, mkE p173 r173 false f173), (174, mkE p174 r174 false f174), (175, mkE p175 r175 false f175)]) (OKs.cons h172 (OKs.cons h136 (OKs.cons h173 (OKs.cons h174 (OKs.cons h175 OKs.nil)))))) mixed (ann := (fun _ => false)) (L := L141 f172 f136 f173 f174 f175) (fn := Proofs.Tryz.f141) (c := bodyC Proofs.Tryz.f141) (ls := [(0, loopC Proofs.Tryz.f141 0)]) Proofs.Tryz.func141 (by kernel_rfl) (by kernel_rfl) (by kernel_rfl) (by kernel_rfl)
    (LoopsP.cons q141_0 (s141_0 f172 f136 f173 f174 f175) rfl (e141_0 f172 f136 f173 f174 f175) LoopsP.nil) (e141 f172 f136 f173 f174 f175)
/-! impl.LiftsAt -/
def p108 : List SP := [.agg [.r .device, .r .cue, .r .gust, .int .i64], .one (.int .i64)]
def r108 : List SP := [.one (.o 0 .int)]
def q108_2 : List SP := pat 91 0 [(1, .one (.int .i64)), (2, .box 5002001 [.r .device, .r .cue, .r .gust, .int .i64]), (5, .one (.o 5002002 .int)), (7, .boxt 5002003 .device), (8, .one (.o 5002004 .int)), (9, .one (.o 5002005 .int)), (30, .one (.r .device)), (31, .one (.int .i64)), (32, .one (.int .i64)), (42, .one (.r .device)), (43, .one (.int .i64)), (44, .one (.int .i64))]
noncomputable def s108_2 (f35 : ShD × Unit → Option (Bool × Unit)) (f71 : Int × Int × Int × Unit → Option (Bool × Unit)) (f140 : List Cue × Str × Int × Unit → Option (Int × Unit)) (f141 : Int × List Int × Unit → Option (List Int × Unit)) (t5 : Int × ShD × List Int × Device × List Int × List Int × List Device × Int × Int × List Device × Int × Int × Unit) (rec K : Int × ShD × List Int × Device × List Int × List Int × List Device × Int × Int × List Device × Int × Int × Unit → Option (List Int × Unit)) : Option (List Int × Unit) :=
  cond (decide (t5.2.2.2.2.2.2.2.2.2.2.2.1 < t5.2.2.2.2.2.2.2.2.2.2.1)) (rdL t5.2.2.2.2.2.2.2.2.2.1 t5.2.2.2.2.2.2.2.2.2.2.2.1 fun d6 => cond (decide (d6.Line = t5.2.2.2.1.Name)) (capK (List.length t5.2.2.2.2.1 + List.length ([t5.2.2.2.2.2.2.2.2.2.2.2.1] : List Int)) ((f140 (t5.2.1.2.1, d6.Name, t5.1, ())).bind fun x7 => capK (List.length t5.2.2.2.2.2.1 + List.length ([(mn x7.1 d6.Most)] : List Int)) (rec (t5.1, (t5.2.1.1, t5.2.1.2.1, t5.2.1.2.2.1, t5.2.1.2.2.2.1, ()), t5.2.2.1, t5.2.2.2.1, (t5.2.2.2.2.1 ++ ([t5.2.2.2.2.2.2.2.2.2.2.2.1] : List Int)), (t5.2.2.2.2.2.1 ++ ([(mn x7.1 d6.Most)] : List Int)), t5.2.2.2.2.2.2.1, t5.2.2.2.2.2.2.2.1, t5.2.2.2.2.2.2.2.2.1, t5.2.2.2.2.2.2.2.2.2.1, t5.2.2.2.2.2.2.2.2.2.2.1, (w64 (t5.2.2.2.2.2.2.2.2.2.2.2.1 + 1)), ())))) (rec (t5.1, (t5.2.1.1, t5.2.1.2.1, t5.2.1.2.2.1, t5.2.1.2.2.2.1, ()), t5.2.2.1, t5.2.2.2.1, t5.2.2.2.2.1, t5.2.2.2.2.2.1, t5.2.2.2.2.2.2.1, t5.2.2.2.2.2.2.2.1, t5.2.2.2.2.2.2.2.2.1, t5.2.2.2.2.2.2.2.2.2.1, t5.2.2.2.2.2.2.2.2.2.2.1, (w64 (t5.2.2.2.2.2.2.2.2.2.2.2.1 + 1)), ()))) (K (t5.1, (t5.2.1.1, t5.2.1.2.1, t5.2.1.2.2.1, t5.2.1.2.2.2.1, ()), t5.2.2.1, t5.2.2.2.1, t5.2.2.2.2.1, t5.2.2.2.2.2.1, t5.2.2.2.2.2.2.1, t5.2.2.2.2.2.2.2.1, t5.2.2.2.2.2.2.2.2.1, t5.2.2.2.2.2.2.2.2.2.1, t5.2.2.2.2.2.2.2.2.2.2.1, t5.2.2.2.2.2.2.2.2.2.2.2.1, ()))
def q108_4 : List SP := pat 91 0 [(1, .one (.int .i64)), (2, .box 5004001 [.r .device, .r .cue, .r .gust, .int .i64]), (5, .one (.o 5004002 .int)), (8, .one (.o 5004003 .int)), (30, .one (.r .device)), (31, .one (.int .i64)), (32, .one (.int .i64)), (74, .one (.o 5004004 .int)), (75, .one (.int .i64)), (76, .one (.int .i64))]
noncomputable def s108_4 (f35 : ShD × Unit → Option (Bool × Unit)) (f71 : Int × Int × Int × Unit → Option (Bool × Unit)) (f140 : List Cue × Str × Int × Unit → Option (Int × Unit)) (f141 : Int × List Int × Unit → Option (List Int × Unit)) (t10 : Int × ShD × List Int × List Int × List Device × Int × Int × List Int × Int × Int × Unit) (rec K : Int × ShD × List Int × List Int × List Device × Int × Int × List Int × Int × Int × Unit → Option (List Int × Unit)) : Option (List Int × Unit) :=
  cond (decide (t10.2.2.2.2.2.2.2.2.2.1 < t10.2.2.2.2.2.2.2.2.1)) (rdL t10.2.2.2.2.2.2.2.1 t10.2.2.2.2.2.2.2.2.2.1 fun _ => (t10.2.2.2.2.2.2.2.1[(Int.toNat t10.2.2.2.2.2.2.2.2.2.1)]?).bind fun d11 => rdL t10.2.2.2.1 t10.2.2.2.2.2.2.2.2.2.1 fun _ => (t10.2.2.2.1[(Int.toNat t10.2.2.2.2.2.2.2.2.2.1)]?).bind fun d12 => rdL t10.2.2.1 d12 fun _ => (t10.2.2.1[(Int.toNat d12)]?).bind fun d13 => rec (t10.1, (t10.2.1.1, t10.2.1.2.1, t10.2.1.2.2.1, t10.2.1.2.2.2.1, ()), (List.set t10.2.2.1 (Int.toNat d12) d11), t10.2.2.2.1, t10.2.2.2.2.1, t10.2.2.2.2.2.1, t10.2.2.2.2.2.2.1, t10.2.2.2.2.2.2.2.1, t10.2.2.2.2.2.2.2.2.1, (w64 (t10.2.2.2.2.2.2.2.2.2.1 + 1)), ())) (K (t10.1, (t10.2.1.1, t10.2.1.2.1, t10.2.1.2.2.1, t10.2.1.2.2.2.1, ()), t10.2.2.1, t10.2.2.2.1, t10.2.2.2.2.1, t10.2.2.2.2.2.1, t10.2.2.2.2.2.2.1, t10.2.2.2.2.2.2.2.1, t10.2.2.2.2.2.2.2.2.1, t10.2.2.2.2.2.2.2.2.2.1, ()))
def q108_0 : List SP := pat 91 0 [(1, .one (.int .i64)), (2, .box 5000001 [.r .device, .r .cue, .r .gust, .int .i64]), (5, .one (.o 5000002 .int)), (30, .one (.r .device)), (31, .one (.int .i64)), (32, .one (.int .i64))]
noncomputable def s108_0 (f35 : ShD × Unit → Option (Bool × Unit)) (f71 : Int × Int × Int × Unit → Option (Bool × Unit)) (f140 : List Cue × Str × Int × Unit → Option (Int × Unit)) (f141 : Int × List Int × Unit → Option (List Int × Unit)) (t3 : Int × ShD × List Int × List Device × Int × Int × Unit) (rec K : Int × ShD × List Int × List Device × Int × Int × Unit → Option (List Int × Unit)) : Option (List Int × Unit) :=
  cond (decide (t3.2.2.2.2.2.1 < t3.2.2.2.2.1)) (rdL t3.2.2.2.1 t3.2.2.2.2.2.1 fun d4 => cond (!(decide (d4.Kind = 1))) (rec (t3.1, (t3.2.1.1, t3.2.1.2.1, t3.2.1.2.2.1, t3.2.1.2.2.2.1, ()), t3.2.2.1, t3.2.2.2.1, t3.2.2.2.2.1, (w64 (t3.2.2.2.2.2.1 + 1)), ())) (iterF (s108_2 f35 f71 f140 f141) fuel (t3.1, (t3.2.1.1, t3.2.1.2.1, t3.2.1.2.2.1, t3.2.1.2.2.2.1, ()), t3.2.2.1, d4, ([] : List Int), ([] : List Int), t3.2.2.2.1, t3.2.2.2.2.1, t3.2.2.2.2.2.1, t3.2.1.1, (Int.ofNat (List.length t3.2.1.1)), 0, ()) fun t8 => (f141 (t8.2.2.2.1.Most, t8.2.2.2.2.2.1, ())).bind fun x9 => iterF (s108_4 f35 f71 f140 f141) fuel (t8.1, (t8.2.1.1, t8.2.1.2.1, t8.2.1.2.2.1, t8.2.1.2.2.2.1, ()), t8.2.2.1, t8.2.2.2.2.1, t8.2.2.2.2.2.2.1, t8.2.2.2.2.2.2.2.1, t8.2.2.2.2.2.2.2.2.1, x9.1, (Int.ofNat (List.length x9.1)), 0, ()) fun t14 => rec (t14.1, (t14.2.1.1, t14.2.1.2.1, t14.2.1.2.2.1, t14.2.1.2.2.2.1, ()), t14.2.2.1, t14.2.2.2.2.1, t14.2.2.2.2.2.1, (w64 (t14.2.2.2.2.2.2.1 + 1)), ()))) (K (t3.1, (t3.2.1.1, t3.2.1.2.1, t3.2.1.2.2.1, t3.2.1.2.2.2.1, ()), t3.2.2.1, t3.2.2.2.1, t3.2.2.2.2.1, t3.2.2.2.2.2.1, ()))
noncomputable def F108 (f35 : ShD × Unit → Option (Bool × Unit)) (f71 : Int × Int × Int × Unit → Option (Bool × Unit)) (f140 : List Cue × Str × Int × Unit → Option (Int × Unit)) (f141 : Int × List Int × Unit → Option (List Int × Unit)) (a : ShD × Int × Unit) : Option (List Int × Unit) :=
  (f35 ((a.1.1, a.1.2.1, a.1.2.2.1, a.1.2.2.2.1, ()), ())).bind fun x1 => cond (!x1.1) (some (([] : List Int), ())) (okIf ((0 : Int) ≤ (Int.ofNat (List.length a.1.1))) (capK (Int.toNat (Int.ofNat (List.length a.1.1))) ((f71 (a.2.1, 0, (w64 (a.1.2.2.2.1 - 1)), ())).bind fun x2 => cond (!x2.1) (some ((List.replicate (Int.toNat (Int.ofNat (List.length a.1.1))) (Ty.zero .int)), ())) (iterF (s108_0 f35 f71 f140 f141) fuel (a.2.1, (a.1.1, a.1.2.1, a.1.2.2.1, a.1.2.2.2.1, ()), (List.replicate (Int.toNat (Int.ofNat (List.length a.1.1))) (Ty.zero .int)), a.1.1, (Int.ofNat (List.length a.1.1)), 0, ()) fun t15 => some (t15.2.2.1, ())))))
def E108 (f35 : ShD × Unit → Option (Bool × Unit)) (f71 : Int × Int × Int × Unit → Option (Bool × Unit)) (f140 : List Cue × Str × Int × Unit → Option (Int × Unit)) (f141 : Int × List Int × Unit → Option (List Int × Unit)) : Env := envL [(35, mkE p35 r35 false f35), (71, mkE p71 r71 false f71), (140, mkE p140 r140 false f140), (141, mkE p141 r141 false f141)]
noncomputable def L108 (f35 : ShD × Unit → Option (Bool × Unit)) (f71 : Int × Int × Int × Unit → Option (Bool × Unit)) (f140 : List Cue × Str × Int × Unit → Option (Int × Unit)) (f141 : Int × List Int × Unit → Option (List Int × Unit)) : LEnv (densS (muts p108 ++ r108)) := lenv [(0, loopL (R := densS (muts p108 ++ r108)) q108_0 (s108_0 f35 f71 f140 f141)), (2, loopL (R := densS (muts p108 ++ r108)) q108_2 (s108_2 f35 f71 f140 f141)), (4, loopL (R := densS (muts p108 ++ r108)) q108_4 (s108_4 f35 f71 f140 f141))]
theorem e108_0 (f35 : ShD × Unit → Option (Bool × Unit)) (f71 : Int × Int × Int × Unit → Option (Bool × Unit)) (f140 : List Cue × Str × Int × Unit → Option (Int × Unit)) (f141 : Int × List Int × Unit → Option (List Int × Unit)) (X : Nat → St → Option (densS (muts p108 ++ r108))) (rec K : densS q108_0 → Option (densS (muts p108 ++ r108))) (t : densS q108_0) :
    ev (E108 f35 f71 f140 f141) tab (fun _ => false) (L108 f35 f71 f140 f141) (retK tab p108 r108 Proofs.Tryz.f108.results.toList) (loopC Proofs.Tryz.f108 0) (fun i s => cond (Nat.beq i 0) (decK 100 q108_0 s K) (X i s)) (fun s => decK 100 q108_0 s rec) (enc q108_0 t) = s108_0 f35 f71 f140 f141 t rec K := by kernel_rfl
theorem e108_2 (f35 : ShD × Unit → Option (Bool × Unit)) (f71 : Int × Int × Int × Unit → Option (Bool × Unit)) (f140 : List Cue × Str × Int × Unit → Option (Int × Unit)) (f141 : Int × List Int × Unit → Option (List Int × Unit)) (X : Nat → St → Option (densS (muts p108 ++ r108))) (rec K : densS q108_2 → Option (densS (muts p108 ++ r108))) (t : densS q108_2) :
    ev (E108 f35 f71 f140 f141) tab (fun _ => false) (L108 f35 f71 f140 f141) (retK tab p108 r108 Proofs.Tryz.f108.results.toList) (loopC Proofs.Tryz.f108 1) (fun i s => cond (Nat.beq i 2) (decK 100 q108_2 s K) (X i s)) (fun s => decK 100 q108_2 s rec) (enc q108_2 t) = s108_2 f35 f71 f140 f141 t rec K := by kernel_rfl
theorem e108_4 (f35 : ShD × Unit → Option (Bool × Unit)) (f71 : Int × Int × Int × Unit → Option (Bool × Unit)) (f140 : List Cue × Str × Int × Unit → Option (Int × Unit)) (f141 : Int × List Int × Unit → Option (List Int × Unit)) (X : Nat → St → Option (densS (muts p108 ++ r108))) (rec K : densS q108_4 → Option (densS (muts p108 ++ r108))) (t : densS q108_4) :
    ev (E108 f35 f71 f140 f141) tab (fun _ => false) (L108 f35 f71 f140 f141) (retK tab p108 r108 Proofs.Tryz.f108.results.toList) (loopC Proofs.Tryz.f108 2) (fun i s => cond (Nat.beq i 4) (decK 100 q108_4 s K) (X i s)) (fun s => decK 100 q108_4 s rec) (enc q108_4 t) = s108_4 f35 f71 f140 f141 t rec K := by kernel_rfl
theorem e108 (f35 : ShD × Unit → Option (Bool × Unit)) (f71 : Int × Int × Int × Unit → Option (Bool × Unit)) (f140 : List Cue × Str × Int × Unit → Option (Int × Unit)) (f141 : Int × List Int × Unit → Option (List Int × Unit)) (a : densS p108) : runF (E108 f35 f71 f140 f141) tab (fun _ => false) p108 r108 Proofs.Tryz.f108 (L108 f35 f71 f140 f141) a = F108 f35 f71 f140 f141 a := by kernel_rfl
theorem ok108 {f35 : ShD × Unit → Option (Bool × Unit)} {f71 : Int × Int × Int × Unit → Option (Bool × Unit)} {f140 : List Cue × Str × Int × Unit → Option (Int × Unit)} {f141 : Int × List Int × Unit → Option (List Int × Unit)} (h35 : OK Proofs.Tryz.prog 35 (mkE p35 r35 false f35)) (h71 : OK Proofs.Tryz.prog 71 (mkE p71 r71 false f71)) (h140 : OK Proofs.Tryz.prog 140 (mkE p140 r140 false f140)) (h141 : OK Proofs.Tryz.prog 141 (mkE p141 r141 false f141)) : OK Proofs.Tryz.prog 108 (mkE p108 r108 false (F108 f35 f71 f140 f141)) :=
  fn_ok tab_ok (envL_ok (l := [(35, mkE p35 r35 false f35), (71, mkE p71 r71 false f71), (140, mkE p140 r140 false f140), (141, mkE p141 r141 false f141)]) (OKs.cons h35 (OKs.cons h71 (OKs.cons h140 (OKs.cons h141 OKs.nil))))) mixed (ann := (fun _ => false)) (L := L108 f35 f71 f140 f141) (fn := Proofs.Tryz.f108) (c := bodyC Proofs.Tryz.f108) (ls := [(0, loopC Proofs.Tryz.f108 0), (2, loopC Proofs.Tryz.f108 1), (4, loopC Proofs.Tryz.f108 2)]) Proofs.Tryz.func108 (by kernel_rfl) (by kernel_rfl) (by kernel_rfl) (by kernel_rfl)
    (LoopsP.cons q108_0 (s108_0 f35 f71 f140 f141) rfl (e108_0 f35 f71 f140 f141) (LoopsP.cons q108_2 (s108_2 f35 f71 f140 f141) rfl (e108_2 f35 f71 f140 f141) (LoopsP.cons q108_4 (s108_4 f35 f71 f140 f141) rfl (e108_4 f35 f71 f140 f141) LoopsP.nil))) (e108 f35 f71 f140 f141)
/-! impl.throwsOf -/
def p75 : List SP := [.agg [.r .device, .r .cue, .r .gust, .int .i64]]
def r75 : List SP := [.one (.o 0 .throw)]
def q75_2 : List SP := pat 52 0 [(1, .box 5002001 [.r .device, .r .cue, .r .gust, .int .i64]), (3, .one (.o 5002002 .throw)), (4, .one (.int .i64)), (14, .one (.int .i64)), (15, .one (.int .i64)), (20, .one (.o 5002003 .int)), (21, .one (.int .i64)), (22, .one (.int .i64))]
noncomputable def s75_2 (f35 : ShD × Unit → Option (Bool × Unit)) (f108 : ShD × Int × Unit → Option (List Int × Unit)) (t4 : ShD × List Throw × Int × Int × Int × List Int × Int × Int × Unit) (rec K : ShD × List Throw × Int × Int × Int × List Int × Int × Int × Unit → Option (List Throw × Unit)) : Option (List Throw × Unit) :=
  cond (decide (t4.2.2.2.2.2.2.2.1 < t4.2.2.2.2.2.2.1)) (rdL t4.2.2.2.2.2.1 t4.2.2.2.2.2.2.2.1 fun _ => (t4.2.2.2.2.2.1[(Int.toNat t4.2.2.2.2.2.2.2.1)]?).bind fun d5 => cond (decide (d5 > 0)) (rdL t4.1.1 t4.2.2.2.2.2.2.2.1 fun d6 => capK (List.length t4.2.1 + List.length ([(⟨d6.Name, t4.2.2.1, ⟨⟨d6.At.X, d6.At.Y⟩, d6.Heading, d6.Tilt, d5⟩⟩ : Throw)] : List Throw)) (rec ((t4.1.1, t4.1.2.1, t4.1.2.2.1, t4.1.2.2.2.1, ()), (t4.2.1 ++ ([(⟨d6.Name, t4.2.2.1, ⟨⟨d6.At.X, d6.At.Y⟩, d6.Heading, d6.Tilt, d5⟩⟩ : Throw)] : List Throw)), t4.2.2.1, t4.2.2.2.1, t4.2.2.2.2.1, t4.2.2.2.2.2.1, t4.2.2.2.2.2.2.1, (w64 (t4.2.2.2.2.2.2.2.1 + 1)), ()))) (rec ((t4.1.1, t4.1.2.1, t4.1.2.2.1, t4.1.2.2.2.1, ()), t4.2.1, t4.2.2.1, t4.2.2.2.1, t4.2.2.2.2.1, t4.2.2.2.2.2.1, t4.2.2.2.2.2.2.1, (w64 (t4.2.2.2.2.2.2.2.1 + 1)), ()))) (K ((t4.1.1, t4.1.2.1, t4.1.2.2.1, t4.1.2.2.2.1, ()), t4.2.1, t4.2.2.1, t4.2.2.2.1, t4.2.2.2.2.1, t4.2.2.2.2.2.1, t4.2.2.2.2.2.2.1, t4.2.2.2.2.2.2.2.1, ()))
def q75_0 : List SP := pat 52 0 [(1, .box 5000001 [.r .device, .r .cue, .r .gust, .int .i64]), (3, .one (.o 5000002 .throw)), (14, .one (.int .i64)), (15, .one (.int .i64))]
noncomputable def s75_0 (f35 : ShD × Unit → Option (Bool × Unit)) (f108 : ShD × Int × Unit → Option (List Int × Unit)) (t2 : ShD × List Throw × Int × Int × Unit) (rec K : ShD × List Throw × Int × Int × Unit → Option (List Throw × Unit)) : Option (List Throw × Unit) :=
  cond (decide (t2.2.2.2.1 < t2.2.2.1)) ((f108 ((t2.1.1, t2.1.2.1, t2.1.2.2.1, t2.1.2.2.2.1, ()), t2.2.2.2.1, ())).bind fun x3 => iterF (s75_2 f35 f108) fuel ((t2.1.1, t2.1.2.1, t2.1.2.2.1, t2.1.2.2.2.1, ()), t2.2.1, t2.2.2.2.1, t2.2.2.1, t2.2.2.2.1, x3.1, (Int.ofNat (List.length x3.1)), 0, ()) fun t7 => rec ((t7.1.1, t7.1.2.1, t7.1.2.2.1, t7.1.2.2.2.1, ()), t7.2.1, t7.2.2.2.1, (w64 (t7.2.2.2.2.1 + 1)), ())) (K ((t2.1.1, t2.1.2.1, t2.1.2.2.1, t2.1.2.2.2.1, ()), t2.2.1, t2.2.2.1, t2.2.2.2.1, ()))
noncomputable def F75 (f35 : ShD × Unit → Option (Bool × Unit)) (f108 : ShD × Int × Unit → Option (List Int × Unit)) (a : ShD × Unit) : Option (List Throw × Unit) :=
  (f35 ((a.1.1, a.1.2.1, a.1.2.2.1, a.1.2.2.2.1, ()), ())).bind fun x1 => cond (!x1.1) (some (([] : List Throw), ())) (iterF (s75_0 f35 f108) fuel ((a.1.1, a.1.2.1, a.1.2.2.1, a.1.2.2.2.1, ()), ([] : List Throw), a.1.2.2.2.1, 0, ()) fun t8 => some (t8.2.1, ()))
def E75 (f35 : ShD × Unit → Option (Bool × Unit)) (f108 : ShD × Int × Unit → Option (List Int × Unit)) : Env := envL [(35, mkE p35 r35 false f35), (108, mkE p108 r108 false f108)]
noncomputable def L75 (f35 : ShD × Unit → Option (Bool × Unit)) (f108 : ShD × Int × Unit → Option (List Int × Unit)) : LEnv (densS (muts p75 ++ r75)) := lenv [(0, loopL (R := densS (muts p75 ++ r75)) q75_0 (s75_0 f35 f108)), (2, loopL (R := densS (muts p75 ++ r75)) q75_2 (s75_2 f35 f108))]
theorem e75_0 (f35 : ShD × Unit → Option (Bool × Unit)) (f108 : ShD × Int × Unit → Option (List Int × Unit)) (X : Nat → St → Option (densS (muts p75 ++ r75))) (rec K : densS q75_0 → Option (densS (muts p75 ++ r75))) (t : densS q75_0) :
    ev (E75 f35 f108) tab (fun _ => false) (L75 f35 f108) (retK tab p75 r75 Proofs.Tryz.f75.results.toList) (loopC Proofs.Tryz.f75 0) (fun i s => cond (Nat.beq i 0) (decK 100 q75_0 s K) (X i s)) (fun s => decK 100 q75_0 s rec) (enc q75_0 t) = s75_0 f35 f108 t rec K := by kernel_rfl
theorem e75_2 (f35 : ShD × Unit → Option (Bool × Unit)) (f108 : ShD × Int × Unit → Option (List Int × Unit)) (X : Nat → St → Option (densS (muts p75 ++ r75))) (rec K : densS q75_2 → Option (densS (muts p75 ++ r75))) (t : densS q75_2) :
    ev (E75 f35 f108) tab (fun _ => false) (L75 f35 f108) (retK tab p75 r75 Proofs.Tryz.f75.results.toList) (loopC Proofs.Tryz.f75 1) (fun i s => cond (Nat.beq i 2) (decK 100 q75_2 s K) (X i s)) (fun s => decK 100 q75_2 s rec) (enc q75_2 t) = s75_2 f35 f108 t rec K := by kernel_rfl
theorem e75 (f35 : ShD × Unit → Option (Bool × Unit)) (f108 : ShD × Int × Unit → Option (List Int × Unit)) (a : densS p75) : runF (E75 f35 f108) tab (fun _ => false) p75 r75 Proofs.Tryz.f75 (L75 f35 f108) a = F75 f35 f108 a := by kernel_rfl
theorem ok75 {f35 : ShD × Unit → Option (Bool × Unit)} {f108 : ShD × Int × Unit → Option (List Int × Unit)} (h35 : OK Proofs.Tryz.prog 35 (mkE p35 r35 false f35)) (h108 : OK Proofs.Tryz.prog 108 (mkE p108 r108 false f108)) : OK Proofs.Tryz.prog 75 (mkE p75 r75 false (F75 f35 f108)) :=
  fn_ok tab_ok (envL_ok (l := [(35, mkE p35 r35 false f35), (108, mkE p108 r108 false f108)]) (OKs.cons h35 (OKs.cons h108 OKs.nil))) mixed (ann := (fun _ => false)) (L := L75 f35 f108) (fn := Proofs.Tryz.f75) (c := bodyC Proofs.Tryz.f75) (ls := [(0, loopC Proofs.Tryz.f75 0), (2, loopC Proofs.Tryz.f75 1)]) Proofs.Tryz.func75 (by kernel_rfl) (by kernel_rfl) (by kernel_rfl) (by kernel_rfl)
    (LoopsP.cons q75_0 (s75_0 f35 f108) rfl (e75_0 f35 f108) (LoopsP.cons q75_2 (s75_2 f35 f108) rfl (e75_2 f35 f108) LoopsP.nil)) (e75 f35 f108)
/-! impl.FlightOf -/
def p77 : List SP := [.t .jet]
def r77 : List SP := [.one (.int .i64)]
noncomputable def F77 (f110 : Jet × Unit → Option (Bool × Unit)) (a : Jet × Unit) : Option (Int × Unit) :=
  (f110 (a.1, ())).bind fun x1 => cond (!x1.1) (some (0, ())) (some ((w64 (a.1.Lift + 1)), ()))
def E77 (f110 : Jet × Unit → Option (Bool × Unit)) : Env := envL [(110, mkE p110 r110 false f110)]
noncomputable def L77 (f110 : Jet × Unit → Option (Bool × Unit)) : LEnv (densS (muts p77 ++ r77)) := lenv []
theorem e77 (f110 : Jet × Unit → Option (Bool × Unit)) (a : densS p77) : runF (E77 f110) tab (fun _ => false) p77 r77 Proofs.Tryz.f77 (L77 f110) a = F77 f110 a := by kernel_rfl
theorem ok77 {f110 : Jet × Unit → Option (Bool × Unit)} (h110 : OK Proofs.Tryz.prog 110 (mkE p110 r110 false f110)) : OK Proofs.Tryz.prog 77 (mkE p77 r77 false (F77 f110)) :=
  fn_ok tab_ok (envL_ok (l := [(110, mkE p110 r110 false f110)]) (OKs.cons h110 OKs.nil)) mixed (ann := (fun _ => false)) (L := L77 f110) (fn := Proofs.Tryz.f77) (c := bodyC Proofs.Tryz.f77) (ls := []) Proofs.Tryz.func77 (by kernel_rfl) (by kernel_rfl) (by kernel_rfl) (by kernel_rfl)
    LoopsP.nil (e77 f110)
/-! impl.isInAir -/
def p142 : List SP := [.t .jet, .one (.int .i64)]
def r142 : List SP := [.one (.bool)]
noncomputable def F142 (f110 : Jet × Unit → Option (Bool × Unit)) (f77 : Jet × Unit → Option (Int × Unit)) (f71 : Int × Int × Int × Unit → Option (Bool × Unit)) (a : Jet × Int × Unit) : Option (Bool × Unit) :=
  (f110 (a.1, ())).bind fun x1 => cond x1.1 ((f77 (a.1, ())).bind fun x2 => (f71 (a.2.1, 0, x2.1, ())).bind fun x3 => some (x3.1, ())) (some (false, ()))
def E142 (f110 : Jet × Unit → Option (Bool × Unit)) (f77 : Jet × Unit → Option (Int × Unit)) (f71 : Int × Int × Int × Unit → Option (Bool × Unit)) : Env := envL [(110, mkE p110 r110 false f110), (77, mkE p77 r77 false f77), (71, mkE p71 r71 false f71)]
noncomputable def L142 (f110 : Jet × Unit → Option (Bool × Unit)) (f77 : Jet × Unit → Option (Int × Unit)) (f71 : Int × Int × Int × Unit → Option (Bool × Unit)) : LEnv (densS (muts p142 ++ r142)) := lenv []
theorem e142 (f110 : Jet × Unit → Option (Bool × Unit)) (f77 : Jet × Unit → Option (Int × Unit)) (f71 : Int × Int × Int × Unit → Option (Bool × Unit)) (a : densS p142) : runF (E142 f110 f77 f71) tab (fun _ => false) p142 r142 Proofs.Tryz.f142 (L142 f110 f77 f71) a = F142 f110 f77 f71 a := by kernel_rfl
theorem ok142 {f110 : Jet × Unit → Option (Bool × Unit)} {f77 : Jet × Unit → Option (Int × Unit)} {f71 : Int × Int × Int × Unit → Option (Bool × Unit)} (h110 : OK Proofs.Tryz.prog 110 (mkE p110 r110 false f110)) (h77 : OK Proofs.Tryz.prog 77 (mkE p77 r77 false f77)) (h71 : OK Proofs.Tryz.prog 71 (mkE p71 r71 false f71)) : OK Proofs.Tryz.prog 142 (mkE p142 r142 false (F142 f110 f77 f71)) :=
  fn_ok tab_ok (envL_ok (l := [(110, mkE p110 r110 false f110), (77, mkE p77 r77 false f77), (71, mkE p71 r71 false f71)]) (OKs.cons h110 (OKs.cons h77 (OKs.cons h71 OKs.nil)))) mixed (ann := (fun _ => false)) (L := L142 f110 f77 f71) (fn := Proofs.Tryz.f142) (c := bodyC Proofs.Tryz.f142) (ls := []) Proofs.Tryz.func142 (by kernel_rfl) (by kernel_rfl) (by kernel_rfl) (by kernel_rfl)
    LoopsP.nil (e142 f110 f77 f71)
/-! impl.turns -/
def p144 : List SP := [.one (.int .i64)]
def r144 : List SP := [.one (.int .i64)]
noncomputable def F144 (a : Int × Unit) : Option (Int × Unit) :=
  some ((Int.tmod (w64 ((Int.tmod a.1 4) + 4)) 4), ())
def E144 : Env := envL []
noncomputable def L144 : LEnv (densS (muts p144 ++ r144)) := lenv []
theorem e144 (a : densS p144) : runF (E144) tab (fun _ => false) p144 r144 Proofs.Tryz.f144 (L144) a = F144 a := by kernel_rfl
theorem ok144 : OK Proofs.Tryz.prog 144 (mkE p144 r144 false (F144)) :=
  fn_ok tab_ok (envL_ok (l := []) OKs.nil) mixed (ann := (fun _ => false)) (L := L144) (fn := Proofs.Tryz.f144) (c := bodyC Proofs.Tryz.f144) (ls := []) Proofs.Tryz.func144 (by kernel_rfl) (by kernel_rfl) (by kernel_rfl) (by kernel_rfl)
    LoopsP.nil (e144)
/-! impl.turned -/
def p112 : List SP := [.t .place, .one (.int .i64)]
def r112 : List SP := [.t .place]
def q112_0 : List SP := pat 17 0 [(2, .boxt 5000001 .place), (4, .boxt 5000002 .place), (6, .one (.int .i64)), (7, .one (.int .i64))]
noncomputable def s112_0 (f144 : Int × Unit → Option (Int × Unit)) (t2 : Place × Place × Int × Int × Unit) (rec K : Place × Place × Int × Int × Unit → Option (Place × Unit)) : Option (Place × Unit) :=
  cond (decide (t2.2.2.2.1 < t2.2.2.1)) (rec ((⟨(w64 (0 - t2.1.Y)), t2.1.X⟩ : Place), t2.2.1, t2.2.2.1, (w64 (t2.2.2.2.1 + 1)), ())) (K (t2.1, t2.2.1, t2.2.2.1, t2.2.2.2.1, ()))
noncomputable def F112 (f144 : Int × Unit → Option (Int × Unit)) (a : Place × Int × Unit) : Option (Place × Unit) :=
  (f144 (a.2.1, ())).bind fun x1 => iterF (s112_0 f144) fuel (a.1, (⟨0, 0⟩ : Place), x1.1, 0, ()) fun t3 => some (t3.1, ())
def E112 (f144 : Int × Unit → Option (Int × Unit)) : Env := envL [(144, mkE p144 r144 false f144)]
noncomputable def L112 (f144 : Int × Unit → Option (Int × Unit)) : LEnv (densS (muts p112 ++ r112)) := lenv [(0, loopL (R := densS (muts p112 ++ r112)) q112_0 (s112_0 f144))]
theorem e112_0 (f144 : Int × Unit → Option (Int × Unit)) (X : Nat → St → Option (densS (muts p112 ++ r112))) (rec K : densS q112_0 → Option (densS (muts p112 ++ r112))) (t : densS q112_0) :
    ev (E112 f144) tab (fun _ => false) (L112 f144) (retK tab p112 r112 Proofs.Tryz.f112.results.toList) (loopC Proofs.Tryz.f112 0) (fun i s => cond (Nat.beq i 0) (decK 100 q112_0 s K) (X i s)) (fun s => decK 100 q112_0 s rec) (enc q112_0 t) = s112_0 f144 t rec K := by kernel_rfl
theorem e112 (f144 : Int × Unit → Option (Int × Unit)) (a : densS p112) : runF (E112 f144) tab (fun _ => false) p112 r112 Proofs.Tryz.f112 (L112 f144) a = F112 f144 a := by kernel_rfl
theorem ok112 {f144 : Int × Unit → Option (Int × Unit)} (h144 : OK Proofs.Tryz.prog 144 (mkE p144 r144 false f144)) : OK Proofs.Tryz.prog 112 (mkE p112 r112 false (F112 f144)) :=
  fn_ok tab_ok (envL_ok (l := [(144, mkE p144 r144 false f144)]) (OKs.cons h144 OKs.nil)) mixed (ann := (fun _ => false)) (L := L112 f144) (fn := Proofs.Tryz.f112) (c := bodyC Proofs.Tryz.f112) (ls := [(0, loopC Proofs.Tryz.f112 0)]) Proofs.Tryz.func112 (by kernel_rfl) (by kernel_rfl) (by kernel_rfl) (by kernel_rfl)
    (LoopsP.cons q112_0 (s112_0 f144) rfl (e112_0 f144) LoopsP.nil) (e112 f144)
/-! impl.checked -/
def p176 : List SP := [.t .place]
def r176 : List SP := [.t .place, .one (.bool)]
noncomputable def F176 (f74 : Place × Unit → Option (Bool × Unit)) (a : Place × Unit) : Option (Place × Bool × Unit) :=
  (f74 (a.1, ())).bind fun x1 => cond (!x1.1) (some ((⟨0, 0⟩ : Place), false, ())) (some (a.1, true, ()))
def E176 (f74 : Place × Unit → Option (Bool × Unit)) : Env := envL [(74, mkE p74 r74 false f74)]
noncomputable def L176 (f74 : Place × Unit → Option (Bool × Unit)) : LEnv (densS (muts p176 ++ r176)) := lenv []
theorem e176 (f74 : Place × Unit → Option (Bool × Unit)) (a : densS p176) : runF (E176 f74) tab (fun _ => false) p176 r176 Proofs.Tryz.f176 (L176 f74) a = F176 f74 a := by kernel_rfl
theorem ok176 {f74 : Place × Unit → Option (Bool × Unit)} (h74 : OK Proofs.Tryz.prog 74 (mkE p74 r74 false f74)) : OK Proofs.Tryz.prog 176 (mkE p176 r176 false (F176 f74)) :=
  fn_ok tab_ok (envL_ok (l := [(74, mkE p74 r74 false f74)]) (OKs.cons h74 OKs.nil)) mixed (ann := (fun _ => false)) (L := L176 f74) (fn := Proofs.Tryz.f176) (c := bodyC Proofs.Tryz.f176) (ls := []) Proofs.Tryz.func176 (by kernel_rfl) (by kernel_rfl) (by kernel_rfl) (by kernel_rfl)
    LoopsP.nil (e176 f74)
/-! impl.StepFrom -/
def p143 : List SP := [.t .place, .one (.int .i64), .one (.int .i64)]
def r143 : List SP := [.t .place, .one (.bool)]
noncomputable def F143 (f74 : Place × Unit → Option (Bool × Unit)) (f111 : Int × Unit → Option (Bool × Unit)) (f107 : Int × Unit → Option (Bool × Unit)) (f112 : Place × Int × Unit → Option (Place × Unit)) (f176 : Place × Unit → Option (Place × Bool × Unit)) (a : Place × Int × Int × Unit) : Option (Place × Bool × Unit) :=
  (f74 (a.1, ())).bind fun x1 => cond (!(!x1.1)) ((f111 (a.2.1, ())).bind fun x2 => cond (!(!x2.1)) ((f107 (a.2.2.1, ())).bind fun x3 => cond (!x3.1) (some ((⟨0, 0⟩ : Place), false, ())) ((f112 ((⟨a.2.2.1, 0⟩ : Place), a.2.1, ())).bind fun x4 => (f176 ((⟨(w64 (a.1.X + x4.1.X)), (w64 (a.1.Y + x4.1.Y))⟩ : Place), ())).bind fun x5 => some (x5.1, x5.2.1, ()))) (some ((⟨0, 0⟩ : Place), false, ()))) (some ((⟨0, 0⟩ : Place), false, ()))
def E143 (f74 : Place × Unit → Option (Bool × Unit)) (f111 : Int × Unit → Option (Bool × Unit)) (f107 : Int × Unit → Option (Bool × Unit)) (f112 : Place × Int × Unit → Option (Place × Unit)) (f176 : Place × Unit → Option (Place × Bool × Unit)) : Env := envL [(74, mkE p74 r74 false f74), (111, mkE p111 r111 false f111), (107, mkE p107 r107 false f107), (112, mkE p112 r112 false f112), (176, mkE p176 r176 false f176)]
noncomputable def L143 (f74 : Place × Unit → Option (Bool × Unit)) (f111 : Int × Unit → Option (Bool × Unit)) (f107 : Int × Unit → Option (Bool × Unit)) (f112 : Place × Int × Unit → Option (Place × Unit)) (f176 : Place × Unit → Option (Place × Bool × Unit)) : LEnv (densS (muts p143 ++ r143)) := lenv []
theorem e143 (f74 : Place × Unit → Option (Bool × Unit)) (f111 : Int × Unit → Option (Bool × Unit)) (f107 : Int × Unit → Option (Bool × Unit)) (f112 : Place × Int × Unit → Option (Place × Unit)) (f176 : Place × Unit → Option (Place × Bool × Unit)) (a : densS p143) : runF (E143 f74 f111 f107 f112 f176) tab (fun _ => false) p143 r143 Proofs.Tryz.f143 (L143 f74 f111 f107 f112 f176) a = F143 f74 f111 f107 f112 f176 a := by kernel_rfl
theorem ok143 {f74 : Place × Unit → Option (Bool × Unit)} {f111 : Int × Unit → Option (Bool × Unit)} {f107 : Int × Unit → Option (Bool × Unit)} {f112 : Place × Int × Unit → Option (Place × Unit)} {f176 : Place × Unit → Option (Place × Bool × Unit)} (h74 : OK Proofs.Tryz.prog 74 (mkE p74 r74 false f74)) (h111 : OK Proofs.Tryz.prog 111 (mkE p111 r111 false f111)) (h107 : OK Proofs.Tryz.prog 107 (mkE p107 r107 false f107)) (h112 : OK Proofs.Tryz.prog 112 (mkE p112 r112 false f112)) (h176 : OK Proofs.Tryz.prog 176 (mkE p176 r176 false f176)) : OK Proofs.Tryz.prog 143 (mkE p143 r143 false (F143 f74 f111 f107 f112 f176)) :=
  fn_ok tab_ok (envL_ok (l := [(74, mkE p74 r74 false f74), (111, mkE p111 r111 false f111), (107, mkE p107 r107 false f107), (112, mkE p112 r112 false f112), (176, mkE p176 r176 false f176)]) (OKs.cons h74 (OKs.cons h111 (OKs.cons h107 (OKs.cons h112 (OKs.cons h176 OKs.nil)))))) mixed (ann := (fun _ => false)) (L := L143 f74 f111 f107 f112 f176) (fn := Proofs.Tryz.f143) (c := bodyC Proofs.Tryz.f143) (ls := []) Proofs.Tryz.func143 (by kernel_rfl) (by kernel_rfl) (by kernel_rfl) (by kernel_rfl)
    LoopsP.nil (e143 f74 f111 f107 f112 f176)
/-! impl.PlaceAt -/
def p109 : List SP := [.t .jet, .one (.int .i64)]
def r109 : List SP := [.t .place, .one (.bool)]
noncomputable def F109 (f142 : Jet × Int × Unit → Option (Bool × Unit)) (f143 : Place × Int × Int × Unit → Option (Place × Bool × Unit)) (a : Jet × Int × Unit) : Option (Place × Bool × Unit) :=
  (f142 (a.1, a.2.1, ())).bind fun x1 => cond (!x1.1) (some ((⟨0, 0⟩ : Place), false, ())) ((f143 (a.1.At, a.1.Heading, (w64 (a.2.1 * a.1.Tilt)), ())).bind fun x2 => some (x2.1, x2.2.1, ()))
def E109 (f142 : Jet × Int × Unit → Option (Bool × Unit)) (f143 : Place × Int × Int × Unit → Option (Place × Bool × Unit)) : Env := envL [(142, mkE p142 r142 false f142), (143, mkE p143 r143 false f143)]
noncomputable def L109 (f142 : Jet × Int × Unit → Option (Bool × Unit)) (f143 : Place × Int × Int × Unit → Option (Place × Bool × Unit)) : LEnv (densS (muts p109 ++ r109)) := lenv []
theorem e109 (f142 : Jet × Int × Unit → Option (Bool × Unit)) (f143 : Place × Int × Int × Unit → Option (Place × Bool × Unit)) (a : densS p109) : runF (E109 f142 f143) tab (fun _ => false) p109 r109 Proofs.Tryz.f109 (L109 f142 f143) a = F109 f142 f143 a := by kernel_rfl
theorem ok109 {f142 : Jet × Int × Unit → Option (Bool × Unit)} {f143 : Place × Int × Int × Unit → Option (Place × Bool × Unit)} (h142 : OK Proofs.Tryz.prog 142 (mkE p142 r142 false f142)) (h143 : OK Proofs.Tryz.prog 143 (mkE p143 r143 false f143)) : OK Proofs.Tryz.prog 109 (mkE p109 r109 false (F109 f142 f143)) :=
  fn_ok tab_ok (envL_ok (l := [(142, mkE p142 r142 false f142), (143, mkE p143 r143 false f143)]) (OKs.cons h142 (OKs.cons h143 OKs.nil))) mixed (ann := (fun _ => false)) (L := L109 f142 f143) (fn := Proofs.Tryz.f109) (c := bodyC Proofs.Tryz.f109) (ls := []) Proofs.Tryz.func109 (by kernel_rfl) (by kernel_rfl) (by kernel_rfl) (by kernel_rfl)
    LoopsP.nil (e109 f142 f143)
/-! impl.LandingOf -/
def p76 : List SP := [.t .jet]
def r76 : List SP := [.t .place, .one (.bool)]
noncomputable def F76 (f77 : Jet × Unit → Option (Int × Unit)) (f109 : Jet × Int × Unit → Option (Place × Bool × Unit)) (a : Jet × Unit) : Option (Place × Bool × Unit) :=
  (f77 (a.1, ())).bind fun x1 => (f109 (a.1, x1.1, ())).bind fun x2 => some (x2.1, x2.2.1, ())
def E76 (f77 : Jet × Unit → Option (Int × Unit)) (f109 : Jet × Int × Unit → Option (Place × Bool × Unit)) : Env := envL [(77, mkE p77 r77 false f77), (109, mkE p109 r109 false f109)]
noncomputable def L76 (f77 : Jet × Unit → Option (Int × Unit)) (f109 : Jet × Int × Unit → Option (Place × Bool × Unit)) : LEnv (densS (muts p76 ++ r76)) := lenv []
theorem e76 (f77 : Jet × Unit → Option (Int × Unit)) (f109 : Jet × Int × Unit → Option (Place × Bool × Unit)) (a : densS p76) : runF (E76 f77 f109) tab (fun _ => false) p76 r76 Proofs.Tryz.f76 (L76 f77 f109) a = F76 f77 f109 a := by kernel_rfl
theorem ok76 {f77 : Jet × Unit → Option (Int × Unit)} {f109 : Jet × Int × Unit → Option (Place × Bool × Unit)} (h77 : OK Proofs.Tryz.prog 77 (mkE p77 r77 false f77)) (h109 : OK Proofs.Tryz.prog 109 (mkE p109 r109 false f109)) : OK Proofs.Tryz.prog 76 (mkE p76 r76 false (F76 f77 f109)) :=
  fn_ok tab_ok (envL_ok (l := [(77, mkE p77 r77 false f77), (109, mkE p109 r109 false f109)]) (OKs.cons h77 (OKs.cons h109 OKs.nil))) mixed (ann := (fun _ => false)) (L := L76 f77 f109) (fn := Proofs.Tryz.f76) (c := bodyC Proofs.Tryz.f76) (ls := []) Proofs.Tryz.func76 (by kernel_rfl) (by kernel_rfl) (by kernel_rfl) (by kernel_rfl)
    LoopsP.nil (e76 f77 f109)
/-! impl.WorstDrift -/
def p78 : List SP := [.one (.r .place), .one (.int .i64)]
def r78 : List SP := [.t .place]
def q78_0 : List SP := pat 40 0 [(1, .one (.int .i64)), (4, .boxt 5000001 .place), (5, .boxt 5000002 .place), (20, .one (.r .place)), (21, .one (.int .i64)), (22, .one (.int .i64))]
noncomputable def s78_0 (f36 : List Place × Unit → Option (Bool × Unit)) (f111 : Int × Unit → Option (Bool × Unit)) (f112 : Place × Int × Unit → Option (Place × Unit)) (t4 : Int × Place × Place × List Place × Int × Int × Unit) (rec K : Int × Place × Place × List Place × Int × Int × Unit → Option (Place × Unit)) : Option (Place × Unit) :=
  cond (decide (t4.2.2.2.2.2.1 < t4.2.2.2.2.1)) (rdL t4.2.2.2.1 t4.2.2.2.2.2.1 fun d5 => (f112 (d5, (w64 (0 - t4.1)), ())).bind fun x6 => (f112 (t4.2.2.1, (w64 (0 - t4.1)), ())).bind fun x7 => cond (decide (x6.1.X > x7.1.X)) (rec (t4.1, t4.2.1, d5, t4.2.2.2.1, t4.2.2.2.2.1, (w64 (t4.2.2.2.2.2.1 + 1)), ())) (rec (t4.1, t4.2.1, t4.2.2.1, t4.2.2.2.1, t4.2.2.2.2.1, (w64 (t4.2.2.2.2.2.1 + 1)), ()))) (K (t4.1, t4.2.1, t4.2.2.1, t4.2.2.2.1, t4.2.2.2.2.1, t4.2.2.2.2.2.1, ()))
noncomputable def F78 (f36 : List Place × Unit → Option (Bool × Unit)) (f111 : Int × Unit → Option (Bool × Unit)) (f112 : Place × Int × Unit → Option (Place × Unit)) (a : List Place × Int × Unit) : Option (Place × Unit) :=
  (f36 (a.1, ())).bind fun x1 => cond (!(!x1.1)) ((f111 (a.2.1, ())).bind fun x2 => cond (!x2.1) (some ((⟨0, 0⟩ : Place), ())) (rdL a.1 0 fun d3 => iterF (s78_0 f36 f111 f112) fuel (a.2.1, (⟨0, 0⟩ : Place), d3, a.1, (Int.ofNat (List.length a.1)), 0, ()) fun t8 => some (t8.2.2.1, ()))) (some ((⟨0, 0⟩ : Place), ()))
def E78 (f36 : List Place × Unit → Option (Bool × Unit)) (f111 : Int × Unit → Option (Bool × Unit)) (f112 : Place × Int × Unit → Option (Place × Unit)) : Env := envL [(36, mkE p36 r36 false f36), (111, mkE p111 r111 false f111), (112, mkE p112 r112 false f112)]
noncomputable def L78 (f36 : List Place × Unit → Option (Bool × Unit)) (f111 : Int × Unit → Option (Bool × Unit)) (f112 : Place × Int × Unit → Option (Place × Unit)) : LEnv (densS (muts p78 ++ r78)) := lenv [(0, loopL (R := densS (muts p78 ++ r78)) q78_0 (s78_0 f36 f111 f112))]
theorem e78_0 (f36 : List Place × Unit → Option (Bool × Unit)) (f111 : Int × Unit → Option (Bool × Unit)) (f112 : Place × Int × Unit → Option (Place × Unit)) (X : Nat → St → Option (densS (muts p78 ++ r78))) (rec K : densS q78_0 → Option (densS (muts p78 ++ r78))) (t : densS q78_0) :
    ev (E78 f36 f111 f112) tab (fun _ => false) (L78 f36 f111 f112) (retK tab p78 r78 Proofs.Tryz.f78.results.toList) (loopC Proofs.Tryz.f78 0) (fun i s => cond (Nat.beq i 0) (decK 100 q78_0 s K) (X i s)) (fun s => decK 100 q78_0 s rec) (enc q78_0 t) = s78_0 f36 f111 f112 t rec K := by kernel_rfl
theorem e78 (f36 : List Place × Unit → Option (Bool × Unit)) (f111 : Int × Unit → Option (Bool × Unit)) (f112 : Place × Int × Unit → Option (Place × Unit)) (a : densS p78) : runF (E78 f36 f111 f112) tab (fun _ => false) p78 r78 Proofs.Tryz.f78 (L78 f36 f111 f112) a = F78 f36 f111 f112 a := by kernel_rfl
theorem ok78 {f36 : List Place × Unit → Option (Bool × Unit)} {f111 : Int × Unit → Option (Bool × Unit)} {f112 : Place × Int × Unit → Option (Place × Unit)} (h36 : OK Proofs.Tryz.prog 36 (mkE p36 r36 false f36)) (h111 : OK Proofs.Tryz.prog 111 (mkE p111 r111 false f111)) (h112 : OK Proofs.Tryz.prog 112 (mkE p112 r112 false f112)) : OK Proofs.Tryz.prog 78 (mkE p78 r78 false (F78 f36 f111 f112)) :=
  fn_ok tab_ok (envL_ok (l := [(36, mkE p36 r36 false f36), (111, mkE p111 r111 false f111), (112, mkE p112 r112 false f112)]) (OKs.cons h36 (OKs.cons h111 (OKs.cons h112 OKs.nil)))) mixed (ann := (fun _ => false)) (L := L78 f36 f111 f112) (fn := Proofs.Tryz.f78) (c := bodyC Proofs.Tryz.f78) (ls := [(0, loopC Proofs.Tryz.f78 0)]) Proofs.Tryz.func78 (by kernel_rfl) (by kernel_rfl) (by kernel_rfl) (by kernel_rfl)
    (LoopsP.cons q78_0 (s78_0 f36 f111 f112) rfl (e78_0 f36 f111 f112) LoopsP.nil) (e78 f36 f111 f112)
/-! impl.beyond -/
def p79 : List SP := [.t .place, .t .box, .one (.int .i64)]
def r79 : List SP := [.one (.bool)]
noncomputable def F79 (a : Place × Box × Int × Unit) : Option (Bool × Unit) :=
  cond (decide (a.2.2.1 = 0)) (some ((decide (a.1.X > a.2.1.High.X)), ())) (cond (decide (a.2.2.1 = 1)) (some ((decide (a.1.Y > a.2.1.High.Y)), ())) (cond (decide (a.2.2.1 = 2)) (some ((decide (a.1.X < a.2.1.Low.X)), ())) (some ((decide (a.1.Y < a.2.1.Low.Y)), ()))))
def E79 : Env := envL []
noncomputable def L79 : LEnv (densS (muts p79 ++ r79)) := lenv []
theorem e79 (a : densS p79) : runF (E79) tab (fun _ => false) p79 r79 Proofs.Tryz.f79 (L79) a = F79 a := by kernel_rfl
theorem ok79 : OK Proofs.Tryz.prog 79 (mkE p79 r79 false (F79)) :=
  fn_ok tab_ok (envL_ok (l := []) OKs.nil) mixed (ann := (fun _ => false)) (L := L79) (fn := Proofs.Tryz.f79) (c := bodyC Proofs.Tryz.f79) (ls := []) Proofs.Tryz.func79 (by kernel_rfl) (by kernel_rfl) (by kernel_rfl) (by kernel_rfl)
    LoopsP.nil (e79)
/-! impl.wetDrop -/
def p38 : List SP := [.agg [.r .device, .r .cue, .r .gust, .int .i64], .one (.r .place), .t .box]
def r38 : List SP := [.t .throw, .t .place, .t .place, .one (.bool)]
def q38_2 : List SP := pat 78 0 [(1, .one (.r .place)), (5, .boxt 5002001 .box), (6, .boxt 5002002 .throw), (7, .boxt 5002003 .place), (8, .boxt 5002004 .place), (11, .boxt 5002005 .throw), (12, .boxt 5002006 .place), (14, .one (.int .i64)), (30, .one (.o 5002007 .throw)), (31, .one (.int .i64)), (32, .one (.int .i64)), (45, .one (.int .i64))]
noncomputable def s38_2 (f36 : List Place × Unit → Option (Bool × Unit)) (f37 : Box × Unit → Option (Bool × Unit)) (f75 : ShD × Unit → Option (List Throw × Unit)) (f76 : Jet × Unit → Option (Place × Bool × Unit)) (f77 : Jet × Unit → Option (Int × Unit)) (f78 : List Place × Int × Unit → Option (Place × Unit)) (f79 : Place × Box × Int × Unit → Option (Bool × Unit)) (t8 : List Place × Box × Throw × Place × Place × Throw × Place × Int × List Throw × Int × Int × Int × Unit) (rec K : List Place × Box × Throw × Place × Place × Throw × Place × Int × List Throw × Int × Int × Int × Unit → Option (Throw × Place × Place × Bool × Unit)) : Option (Throw × Place × Place × Bool × Unit) :=
  cond (decide (t8.2.2.2.2.2.2.2.2.2.2.2.1 < 4)) ((f78 (t8.1, t8.2.2.2.2.2.2.2.2.2.2.2.1, ())).bind fun x9 => (f79 ((⟨(w64 (t8.2.2.2.2.2.2.1.X + (w64 (t8.2.2.2.2.2.2.2.1 * x9.1.X)))), (w64 (t8.2.2.2.2.2.2.1.Y + (w64 (t8.2.2.2.2.2.2.2.1 * x9.1.Y))))⟩ : Place), t8.2.1, t8.2.2.2.2.2.2.2.2.2.2.2.1, ())).bind fun x10 => cond x10.1 (some (t8.2.2.2.2.2.1, (⟨(w64 (t8.2.2.2.2.2.2.1.X + (w64 (t8.2.2.2.2.2.2.2.1 * x9.1.X)))), (w64 (t8.2.2.2.2.2.2.1.Y + (w64 (t8.2.2.2.2.2.2.2.1 * x9.1.Y))))⟩ : Place), x9.1, true, ())) (rec (t8.1, t8.2.1, t8.2.2.1, t8.2.2.2.1, t8.2.2.2.2.1, t8.2.2.2.2.2.1, t8.2.2.2.2.2.2.1, t8.2.2.2.2.2.2.2.1, t8.2.2.2.2.2.2.2.2.1, t8.2.2.2.2.2.2.2.2.2.1, t8.2.2.2.2.2.2.2.2.2.2.1, (w64 (t8.2.2.2.2.2.2.2.2.2.2.2.1 + 1)), ()))) (K (t8.1, t8.2.1, t8.2.2.1, t8.2.2.2.1, t8.2.2.2.2.1, t8.2.2.2.2.2.1, t8.2.2.2.2.2.2.1, t8.2.2.2.2.2.2.2.1, t8.2.2.2.2.2.2.2.2.1, t8.2.2.2.2.2.2.2.2.2.1, t8.2.2.2.2.2.2.2.2.2.2.1, t8.2.2.2.2.2.2.2.2.2.2.2.1, ()))
def q38_0 : List SP := pat 78 0 [(1, .one (.r .place)), (5, .boxt 5000001 .box), (6, .boxt 5000002 .throw), (7, .boxt 5000003 .place), (8, .boxt 5000004 .place), (30, .one (.o 5000005 .throw)), (31, .one (.int .i64)), (32, .one (.int .i64))]
noncomputable def s38_0 (f36 : List Place × Unit → Option (Bool × Unit)) (f37 : Box × Unit → Option (Bool × Unit)) (f75 : ShD × Unit → Option (List Throw × Unit)) (f76 : Jet × Unit → Option (Place × Bool × Unit)) (f77 : Jet × Unit → Option (Int × Unit)) (f78 : List Place × Int × Unit → Option (Place × Unit)) (f79 : Place × Box × Int × Unit → Option (Bool × Unit)) (t4 : List Place × Box × Throw × Place × Place × List Throw × Int × Int × Unit) (rec K : List Place × Box × Throw × Place × Place × List Throw × Int × Int × Unit → Option (Throw × Place × Place × Bool × Unit)) : Option (Throw × Place × Place × Bool × Unit) :=
  cond (decide (t4.2.2.2.2.2.2.2.1 < t4.2.2.2.2.2.2.1)) (rdL t4.2.2.2.2.2.1 t4.2.2.2.2.2.2.2.1 fun _ => (t4.2.2.2.2.2.1[(Int.toNat t4.2.2.2.2.2.2.2.1)]?).bind fun d5 => (f76 (d5.jet, ())).bind fun x6 => (f77 (d5.jet, ())).bind fun x7 => iterF (s38_2 f36 f37 f75 f76 f77 f78 f79) fuel (t4.1, t4.2.1, t4.2.2.1, t4.2.2.2.1, t4.2.2.2.2.1, d5, x6.1, x7.1, t4.2.2.2.2.2.1, t4.2.2.2.2.2.2.1, t4.2.2.2.2.2.2.2.1, 0, ()) fun t11 => rec (t11.1, t11.2.1, t11.2.2.1, t11.2.2.2.1, t11.2.2.2.2.1, t11.2.2.2.2.2.2.2.2.1, t11.2.2.2.2.2.2.2.2.2.1, (w64 (t11.2.2.2.2.2.2.2.2.2.2.1 + 1)), ())) (K (t4.1, t4.2.1, t4.2.2.1, t4.2.2.2.1, t4.2.2.2.2.1, t4.2.2.2.2.2.1, t4.2.2.2.2.2.2.1, t4.2.2.2.2.2.2.2.1, ()))
noncomputable def F38 (f36 : List Place × Unit → Option (Bool × Unit)) (f37 : Box × Unit → Option (Bool × Unit)) (f75 : ShD × Unit → Option (List Throw × Unit)) (f76 : Jet × Unit → Option (Place × Bool × Unit)) (f77 : Jet × Unit → Option (Int × Unit)) (f78 : List Place × Int × Unit → Option (Place × Unit)) (f79 : Place × Box × Int × Unit → Option (Bool × Unit)) (a : ShD × List Place × Box × Unit) : Option (Throw × Place × Place × Bool × Unit) :=
  (f36 (a.2.1, ())).bind fun x1 => cond (!(!x1.1)) ((f37 (a.2.2.1, ())).bind fun x2 => cond (!x2.1) (some ((⟨[], 0, ⟨⟨0, 0⟩, 0, 0, 0⟩⟩ : Throw), (⟨0, 0⟩ : Place), (⟨0, 0⟩ : Place), false, ())) ((f75 ((a.1.1, a.1.2.1, a.1.2.2.1, a.1.2.2.2.1, ()), ())).bind fun x3 => iterF (s38_0 f36 f37 f75 f76 f77 f78 f79) fuel (a.2.1, a.2.2.1, (⟨[], 0, ⟨⟨0, 0⟩, 0, 0, 0⟩⟩ : Throw), (⟨0, 0⟩ : Place), (⟨0, 0⟩ : Place), x3.1, (Int.ofNat (List.length x3.1)), 0, ()) fun t12 => some ((⟨[], 0, ⟨⟨0, 0⟩, 0, 0, 0⟩⟩ : Throw), (⟨0, 0⟩ : Place), (⟨0, 0⟩ : Place), false, ()))) (some ((⟨[], 0, ⟨⟨0, 0⟩, 0, 0, 0⟩⟩ : Throw), (⟨0, 0⟩ : Place), (⟨0, 0⟩ : Place), false, ()))
def E38 (f36 : List Place × Unit → Option (Bool × Unit)) (f37 : Box × Unit → Option (Bool × Unit)) (f75 : ShD × Unit → Option (List Throw × Unit)) (f76 : Jet × Unit → Option (Place × Bool × Unit)) (f77 : Jet × Unit → Option (Int × Unit)) (f78 : List Place × Int × Unit → Option (Place × Unit)) (f79 : Place × Box × Int × Unit → Option (Bool × Unit)) : Env := envL [(36, mkE p36 r36 false f36), (37, mkE p37 r37 false f37), (75, mkE p75 r75 false f75), (76, mkE p76 r76 false f76), (77, mkE p77 r77 false f77), (78, mkE p78 r78 false f78), (79, mkE p79 r79 false f79)]
noncomputable def L38 (f36 : List Place × Unit → Option (Bool × Unit)) (f37 : Box × Unit → Option (Bool × Unit)) (f75 : ShD × Unit → Option (List Throw × Unit)) (f76 : Jet × Unit → Option (Place × Bool × Unit)) (f77 : Jet × Unit → Option (Int × Unit)) (f78 : List Place × Int × Unit → Option (Place × Unit)) (f79 : Place × Box × Int × Unit → Option (Bool × Unit)) : LEnv (densS (muts p38 ++ r38)) := lenv [(0, loopL (R := densS (muts p38 ++ r38)) q38_0 (s38_0 f36 f37 f75 f76 f77 f78 f79)), (2, loopL (R := densS (muts p38 ++ r38)) q38_2 (s38_2 f36 f37 f75 f76 f77 f78 f79))]
theorem e38_0 (f36 : List Place × Unit → Option (Bool × Unit)) (f37 : Box × Unit → Option (Bool × Unit)) (f75 : ShD × Unit → Option (List Throw × Unit)) (f76 : Jet × Unit → Option (Place × Bool × Unit)) (f77 : Jet × Unit → Option (Int × Unit)) (f78 : List Place × Int × Unit → Option (Place × Unit)) (f79 : Place × Box × Int × Unit → Option (Bool × Unit)) (X : Nat → St → Option (densS (muts p38 ++ r38))) (rec K : densS q38_0 → Option (densS (muts p38 ++ r38))) (t : densS q38_0) :
    ev (E38 f36 f37 f75 f76 f77 f78 f79) tab (fun n => Nat.beq n 2499999 || Nat.beq n 7402002 || Nat.beq n 7402003) (L38 f36 f37 f75 f76 f77 f78 f79) (retK tab p38 r38 Proofs.Tryz.f38.results.toList) (loopC Proofs.Tryz.f38 0) (fun i s => cond (Nat.beq i 0) (decK 100 q38_0 s K) (X i s)) (fun s => decK 100 q38_0 s rec) (enc q38_0 t) = s38_0 f36 f37 f75 f76 f77 f78 f79 t rec K := by kernel_rfl
theorem e38_2 (f36 : List Place × Unit → Option (Bool × Unit)) (f37 : Box × Unit → Option (Bool × Unit)) (f75 : ShD × Unit → Option (List Throw × Unit)) (f76 : Jet × Unit → Option (Place × Bool × Unit)) (f77 : Jet × Unit → Option (Int × Unit)) (f78 : List Place × Int × Unit → Option (Place × Unit)) (f79 : Place × Box × Int × Unit → Option (Bool × Unit)) (X : Nat → St → Option (densS (muts p38 ++ r38))) (rec K : densS q38_2 → Option (densS (muts p38 ++ r38))) (t : densS q38_2) :
    ev (E38 f36 f37 f75 f76 f77 f78 f79) tab (fun n => Nat.beq n 2499999 || Nat.beq n 7402002 || Nat.beq n 7402003) (L38 f36 f37 f75 f76 f77 f78 f79) (retK tab p38 r38 Proofs.Tryz.f38.results.toList) (loopC Proofs.Tryz.f38 1) (fun i s => cond (Nat.beq i 2) (decK 100 q38_2 s K) (X i s)) (fun s => decK 100 q38_2 s rec) (enc q38_2 t) = s38_2 f36 f37 f75 f76 f77 f78 f79 t rec K := by kernel_rfl
theorem e38 (f36 : List Place × Unit → Option (Bool × Unit)) (f37 : Box × Unit → Option (Bool × Unit)) (f75 : ShD × Unit → Option (List Throw × Unit)) (f76 : Jet × Unit → Option (Place × Bool × Unit)) (f77 : Jet × Unit → Option (Int × Unit)) (f78 : List Place × Int × Unit → Option (Place × Unit)) (f79 : Place × Box × Int × Unit → Option (Bool × Unit)) (a : densS p38) : runF (E38 f36 f37 f75 f76 f77 f78 f79) tab (fun n => Nat.beq n 2499999 || Nat.beq n 7402002 || Nat.beq n 7402003) p38 r38 Proofs.Tryz.f38 (L38 f36 f37 f75 f76 f77 f78 f79) a = F38 f36 f37 f75 f76 f77 f78 f79 a := by kernel_rfl
theorem ok38 {f36 : List Place × Unit → Option (Bool × Unit)} {f37 : Box × Unit → Option (Bool × Unit)} {f75 : ShD × Unit → Option (List Throw × Unit)} {f76 : Jet × Unit → Option (Place × Bool × Unit)} {f77 : Jet × Unit → Option (Int × Unit)} {f78 : List Place × Int × Unit → Option (Place × Unit)} {f79 : Place × Box × Int × Unit → Option (Bool × Unit)} (h36 : OK Proofs.Tryz.prog 36 (mkE p36 r36 false f36)) (h37 : OK Proofs.Tryz.prog 37 (mkE p37 r37 false f37)) (h75 : OK Proofs.Tryz.prog 75 (mkE p75 r75 false f75)) (h76 : OK Proofs.Tryz.prog 76 (mkE p76 r76 false f76)) (h77 : OK Proofs.Tryz.prog 77 (mkE p77 r77 false f77)) (h78 : OK Proofs.Tryz.prog 78 (mkE p78 r78 false f78)) (h79 : OK Proofs.Tryz.prog 79 (mkE p79 r79 false f79)) : OK Proofs.Tryz.prog 38 (mkE p38 r38 false (F38 f36 f37 f75 f76 f77 f78 f79)) :=
  fn_ok tab_ok (envL_ok (l := [(36, mkE p36 r36 false f36), (37, mkE p37 r37 false f37), (75, mkE p75 r75 false f75), (76, mkE p76 r76 false f76), (77, mkE p77 r77 false f77), (78, mkE p78 r78 false f78), (79, mkE p79 r79 false f79)]) (OKs.cons h36 (OKs.cons h37 (OKs.cons h75 (OKs.cons h76 (OKs.cons h77 (OKs.cons h78 (OKs.cons h79 OKs.nil)))))))) mixed (ann := (fun n => Nat.beq n 2499999 || Nat.beq n 7402002 || Nat.beq n 7402003)) (L := L38 f36 f37 f75 f76 f77 f78 f79) (fn := Proofs.Tryz.f38) (c := bodyC Proofs.Tryz.f38) (ls := [(0, loopC Proofs.Tryz.f38 0), (2, loopC Proofs.Tryz.f38 1)]) Proofs.Tryz.func38 (by kernel_rfl) (by kernel_rfl) (by kernel_rfl) (by kernel_rfl)
    (LoopsP.cons q38_0 (s38_0 f36 f37 f75 f76 f77 f78 f79) rfl (e38_0 f36 f37 f75 f76 f77 f78 f79) (LoopsP.cons q38_2 (s38_2 f36 f37 f75 f76 f77 f78 f79) rfl (e38_2 f36 f37 f75 f76 f77 f78 f79) LoopsP.nil)) (e38 f36 f37 f75 f76 f77 f78 f79)
/-! impl.FormatNumber -/
def p39 : List SP := [.one (.int .i64)]
def r39 : List SP := [.one (.str)]
noncomputable def F39 (f80 : Int × Unit → Option (Str × Unit)) (a : Int × Unit) : Option (Str × Unit) :=
  (f80 (a.1, ())).bind fun x1 => some (x1.1, ())
def E39 (f80 : Int × Unit → Option (Str × Unit)) : Env := envL [(80, mkE p80 r80 false f80)]
noncomputable def L39 (f80 : Int × Unit → Option (Str × Unit)) : LEnv (densS (muts p39 ++ r39)) := lenv []
theorem e39 (f80 : Int × Unit → Option (Str × Unit)) (a : densS p39) : runF (E39 f80) tab (fun _ => false) p39 r39 Proofs.Tryz.f39 (L39 f80) a = F39 f80 a := by kernel_rfl
theorem ok39 {f80 : Int × Unit → Option (Str × Unit)} (h80 : OK Proofs.Tryz.prog 80 (mkE p80 r80 false f80)) : OK Proofs.Tryz.prog 39 (mkE p39 r39 false (F39 f80)) :=
  fn_ok tab_ok (envL_ok (l := [(80, mkE p80 r80 false f80)]) (OKs.cons h80 OKs.nil)) mixed (ann := (fun _ => false)) (L := L39 f80) (fn := Proofs.Tryz.f39) (c := bodyC Proofs.Tryz.f39) (ls := []) Proofs.Tryz.func39 (by kernel_rfl) (by kernel_rfl) (by kernel_rfl) (by kernel_rfl)
    LoopsP.nil (e39 f80)
/-! impl.FormatMeasure -/
def p81 : List SP := [.one (.int .i64)]
def r81 : List SP := [.one (.str)]
noncomputable def F81 (f107 : Int × Unit → Option (Bool × Unit)) (f39 : Int × Unit → Option (Str × Unit)) (f114 : Str × Str × Unit → Option (Str × Unit)) (a : Int × Unit) : Option (Str × Unit) :=
  (f107 (a.1, ())).bind fun x1 => cond (!x1.1) (some ([], ())) (cond (decide (a.1 < 0)) ((f39 ((w64 (Int.tdiv (w64 (0 - a.1)) 8)), ())).bind fun x2 => capK (List.length [45] + List.length x2.1) (cond (decide ((Int.tmod (w64 (0 - a.1)) 8) > 0)) ((f39 ((w64 (1000 + (w64 ((Int.tmod (w64 (0 - a.1)) 8) * 125)))), ())).bind fun x3 => okIf ((0 : Int) ≤ 1 ∧ (1 : Int) ≤ List.length x3.1) ((f114 ((List.drop (Int.toNat 1) x3.1), [48], ())).bind fun x4 => capK (List.length [46] + List.length x4.1) (capK (List.length ([45] ++ x2.1) + List.length ([46] ++ x4.1)) (some ((([45] ++ x2.1) ++ ([46] ++ x4.1)), ()))))) (some (([45] ++ x2.1), ())))) ((f39 ((w64 (Int.tdiv a.1 8)), ())).bind fun x5 => capK (List.length ([] : Str) + List.length x5.1) (cond (decide ((Int.tmod a.1 8) > 0)) ((f39 ((w64 (1000 + (w64 ((Int.tmod a.1 8) * 125)))), ())).bind fun x6 => okIf ((0 : Int) ≤ 1 ∧ (1 : Int) ≤ List.length x6.1) ((f114 ((List.drop (Int.toNat 1) x6.1), [48], ())).bind fun x7 => capK (List.length [46] + List.length x7.1) (capK (List.length (([] : Str) ++ x5.1) + List.length ([46] ++ x7.1)) (some (((([] : Str) ++ x5.1) ++ ([46] ++ x7.1)), ()))))) (some ((([] : Str) ++ x5.1), ())))))
def E81 (f107 : Int × Unit → Option (Bool × Unit)) (f39 : Int × Unit → Option (Str × Unit)) (f114 : Str × Str × Unit → Option (Str × Unit)) : Env := envL [(107, mkE p107 r107 false f107), (39, mkE p39 r39 false f39), (114, mkE p114 r114 false f114)]
noncomputable def L81 (f107 : Int × Unit → Option (Bool × Unit)) (f39 : Int × Unit → Option (Str × Unit)) (f114 : Str × Str × Unit → Option (Str × Unit)) : LEnv (densS (muts p81 ++ r81)) := lenv []
theorem e81 (f107 : Int × Unit → Option (Bool × Unit)) (f39 : Int × Unit → Option (Str × Unit)) (f114 : Str × Str × Unit → Option (Str × Unit)) (a : densS p81) : runF (E81 f107 f39 f114) tab (fun _ => false) p81 r81 Proofs.Tryz.f81 (L81 f107 f39 f114) a = F81 f107 f39 f114 a := by kernel_rfl
theorem ok81 {f107 : Int × Unit → Option (Bool × Unit)} {f39 : Int × Unit → Option (Str × Unit)} {f114 : Str × Str × Unit → Option (Str × Unit)} (h107 : OK Proofs.Tryz.prog 107 (mkE p107 r107 false f107)) (h39 : OK Proofs.Tryz.prog 39 (mkE p39 r39 false f39)) (h114 : OK Proofs.Tryz.prog 114 (mkE p114 r114 false f114)) : OK Proofs.Tryz.prog 81 (mkE p81 r81 false (F81 f107 f39 f114)) :=
  fn_ok tab_ok (envL_ok (l := [(107, mkE p107 r107 false f107), (39, mkE p39 r39 false f39), (114, mkE p114 r114 false f114)]) (OKs.cons h107 (OKs.cons h39 (OKs.cons h114 OKs.nil)))) mixed (ann := (fun _ => false)) (L := L81 f107 f39 f114) (fn := Proofs.Tryz.f81) (c := bodyC Proofs.Tryz.f81) (ls := []) Proofs.Tryz.func81 (by kernel_rfl) (by kernel_rfl) (by kernel_rfl) (by kernel_rfl)
    LoopsP.nil (e81 f107 f39 f114)
/-! impl.FormatPlace -/
def p40 : List SP := [.t .place]
def r40 : List SP := [.one (.str)]
noncomputable def F40 (f74 : Place × Unit → Option (Bool × Unit)) (f81 : Int × Unit → Option (Str × Unit)) (a : Place × Unit) : Option (Str × Unit) :=
  (f74 (a.1, ())).bind fun x1 => cond (!x1.1) (some ([], ())) (cond (decide (a.1.Y < 0)) ((f81 (a.1.X, ())).bind fun x2 => capK (List.length x2.1 + List.length ([] : Str)) ((f81 (a.1.Y, ())).bind fun x3 => capK (List.length (x2.1 ++ ([] : Str)) + List.length x3.1) (capK (List.length ((x2.1 ++ ([] : Str)) ++ x3.1) + List.length [105]) (some ((((x2.1 ++ ([] : Str)) ++ x3.1) ++ [105]), ()))))) ((f81 (a.1.X, ())).bind fun x4 => capK (List.length x4.1 + List.length [43]) ((f81 (a.1.Y, ())).bind fun x5 => capK (List.length (x4.1 ++ [43]) + List.length x5.1) (capK (List.length ((x4.1 ++ [43]) ++ x5.1) + List.length [105]) (some ((((x4.1 ++ [43]) ++ x5.1) ++ [105]), ()))))))
def E40 (f74 : Place × Unit → Option (Bool × Unit)) (f81 : Int × Unit → Option (Str × Unit)) : Env := envL [(74, mkE p74 r74 false f74), (81, mkE p81 r81 false f81)]
noncomputable def L40 (f74 : Place × Unit → Option (Bool × Unit)) (f81 : Int × Unit → Option (Str × Unit)) : LEnv (densS (muts p40 ++ r40)) := lenv []
theorem e40 (f74 : Place × Unit → Option (Bool × Unit)) (f81 : Int × Unit → Option (Str × Unit)) (a : densS p40) : runF (E40 f74 f81) tab (fun _ => false) p40 r40 Proofs.Tryz.f40 (L40 f74 f81) a = F40 f74 f81 a := by kernel_rfl
theorem ok40 {f74 : Place × Unit → Option (Bool × Unit)} {f81 : Int × Unit → Option (Str × Unit)} (h74 : OK Proofs.Tryz.prog 74 (mkE p74 r74 false f74)) (h81 : OK Proofs.Tryz.prog 81 (mkE p81 r81 false f81)) : OK Proofs.Tryz.prog 40 (mkE p40 r40 false (F40 f74 f81)) :=
  fn_ok tab_ok (envL_ok (l := [(74, mkE p74 r74 false f74), (81, mkE p81 r81 false f81)]) (OKs.cons h74 (OKs.cons h81 OKs.nil))) mixed (ann := (fun _ => false)) (L := L40 f74 f81) (fn := Proofs.Tryz.f40) (c := bodyC Proofs.Tryz.f40) (ls := []) Proofs.Tryz.func40 (by kernel_rfl) (by kernel_rfl) (by kernel_rfl) (by kernel_rfl)
    LoopsP.nil (e40 f74 f81)
/-! impl.SafetyLine -/
def p11 : List SP := [.agg [.r .device, .r .cue, .r .gust, .int .i64], .one (.r .place), .t .box]
def r11 : List SP := [.one (.str)]
noncomputable def F11 (f35 : ShD × Unit → Option (Bool × Unit)) (f36 : List Place × Unit → Option (Bool × Unit)) (f37 : Box × Unit → Option (Bool × Unit)) (f38 : ShD × List Place × Box × Unit → Option (Throw × Place × Place × Bool × Unit)) (f39 : Int × Unit → Option (Str × Unit)) (f40 : Place × Unit → Option (Str × Unit)) (a : ShD × List Place × Box × Unit) : Option (Str × Unit) :=
  (f35 ((a.1.1, a.1.2.1, a.1.2.2.1, a.1.2.2.2.1, ()), ())).bind fun x1 => cond (!(!x1.1)) ((f36 (a.2.1, ())).bind fun x2 => cond (!(!x2.1)) ((f37 (a.2.2.1, ())).bind fun x3 => cond (!x3.1) (some ([110, 111, 116, 104, 105, 110, 103, 32, 116, 111, 32, 115, 97, 121], ())) ((f38 ((a.1.1, a.1.2.1, a.1.2.2.1, a.1.2.2.2.1, ()), a.2.1, a.2.2.1, ())).bind fun x4 => cond (!x4.2.2.2.1) (some ([115, 97, 102, 101], ())) (capK (List.length [119, 101, 116, 58, 32] + List.length x4.1.name) (capK (List.length ([119, 101, 116, 58, 32] ++ x4.1.name) + List.length [32, 97, 116, 32]) ((f39 (x4.1.born, ())).bind fun x5 => capK (List.length (([119, 101, 116, 58, 32] ++ x4.1.name) ++ [32, 97, 116, 32]) + List.length x5.1) (capK (List.length ((([119, 101, 116, 58, 32] ++ x4.1.name) ++ [32, 97, 116, 32]) ++ x5.1) + List.length [32, 108, 97, 110, 100, 115, 32, 97, 116, 32]) ((f40 (x4.2.1, ())).bind fun x6 => capK (List.length (((([119, 101, 116, 58, 32] ++ x4.1.name) ++ [32, 97, 116, 32]) ++ x5.1) ++ [32, 108, 97, 110, 100, 115, 32, 97, 116, 32]) + List.length x6.1) (capK (List.length ((((([119, 101, 116, 58, 32] ++ x4.1.name) ++ [32, 97, 116, 32]) ++ x5.1) ++ [32, 108, 97, 110, 100, 115, 32, 97, 116, 32]) ++ x6.1) + List.length [32, 105, 110, 32]) ((f40 (x4.2.2.1, ())).bind fun x7 => capK (List.length (((((([119, 101, 116, 58, 32] ++ x4.1.name) ++ [32, 97, 116, 32]) ++ x5.1) ++ [32, 108, 97, 110, 100, 115, 32, 97, 116, 32]) ++ x6.1) ++ [32, 105, 110, 32]) + List.length x7.1) (some (((((((([119, 101, 116, 58, 32] ++ x4.1.name) ++ [32, 97, 116, 32]) ++ x5.1) ++ [32, 108, 97, 110, 100, 115, 32, 97, 116, 32]) ++ x6.1) ++ [32, 105, 110, 32]) ++ x7.1), ()))))))))))) (some ([110, 111, 116, 104, 105, 110, 103, 32, 116, 111, 32, 115, 97, 121], ()))) (some ([110, 111, 116, 104, 105, 110, 103, 32, 116, 111, 32, 115, 97, 121], ()))
def E11 (f35 : ShD × Unit → Option (Bool × Unit)) (f36 : List Place × Unit → Option (Bool × Unit)) (f37 : Box × Unit → Option (Bool × Unit)) (f38 : ShD × List Place × Box × Unit → Option (Throw × Place × Place × Bool × Unit)) (f39 : Int × Unit → Option (Str × Unit)) (f40 : Place × Unit → Option (Str × Unit)) : Env := envL [(35, mkE p35 r35 false f35), (36, mkE p36 r36 false f36), (37, mkE p37 r37 false f37), (38, mkE p38 r38 false f38), (39, mkE p39 r39 false f39), (40, mkE p40 r40 false f40)]
noncomputable def L11 (f35 : ShD × Unit → Option (Bool × Unit)) (f36 : List Place × Unit → Option (Bool × Unit)) (f37 : Box × Unit → Option (Bool × Unit)) (f38 : ShD × List Place × Box × Unit → Option (Throw × Place × Place × Bool × Unit)) (f39 : Int × Unit → Option (Str × Unit)) (f40 : Place × Unit → Option (Str × Unit)) : LEnv (densS (muts p11 ++ r11)) := lenv []
theorem e11 (f35 : ShD × Unit → Option (Bool × Unit)) (f36 : List Place × Unit → Option (Bool × Unit)) (f37 : Box × Unit → Option (Bool × Unit)) (f38 : ShD × List Place × Box × Unit → Option (Throw × Place × Place × Bool × Unit)) (f39 : Int × Unit → Option (Str × Unit)) (f40 : Place × Unit → Option (Str × Unit)) (a : densS p11) : runF (E11 f35 f36 f37 f38 f39 f40) tab (fun _ => false) p11 r11 Proofs.Tryz.f11 (L11 f35 f36 f37 f38 f39 f40) a = F11 f35 f36 f37 f38 f39 f40 a := by kernel_rfl
theorem ok11 {f35 : ShD × Unit → Option (Bool × Unit)} {f36 : List Place × Unit → Option (Bool × Unit)} {f37 : Box × Unit → Option (Bool × Unit)} {f38 : ShD × List Place × Box × Unit → Option (Throw × Place × Place × Bool × Unit)} {f39 : Int × Unit → Option (Str × Unit)} {f40 : Place × Unit → Option (Str × Unit)} (h35 : OK Proofs.Tryz.prog 35 (mkE p35 r35 false f35)) (h36 : OK Proofs.Tryz.prog 36 (mkE p36 r36 false f36)) (h37 : OK Proofs.Tryz.prog 37 (mkE p37 r37 false f37)) (h38 : OK Proofs.Tryz.prog 38 (mkE p38 r38 false f38)) (h39 : OK Proofs.Tryz.prog 39 (mkE p39 r39 false f39)) (h40 : OK Proofs.Tryz.prog 40 (mkE p40 r40 false f40)) : OK Proofs.Tryz.prog 11 (mkE p11 r11 false (F11 f35 f36 f37 f38 f39 f40)) :=
  fn_ok tab_ok (envL_ok (l := [(35, mkE p35 r35 false f35), (36, mkE p36 r36 false f36), (37, mkE p37 r37 false f37), (38, mkE p38 r38 false f38), (39, mkE p39 r39 false f39), (40, mkE p40 r40 false f40)]) (OKs.cons h35 (OKs.cons h36 (OKs.cons h37 (OKs.cons h38 (OKs.cons h39 (OKs.cons h40 OKs.nil))))))) mixed (ann := (fun _ => false)) (L := L11 f35 f36 f37 f38 f39 f40) (fn := Proofs.Tryz.f11) (c := bodyC Proofs.Tryz.f11) (ls := []) Proofs.Tryz.func11 (by kernel_rfl) (by kernel_rfl) (by kernel_rfl) (by kernel_rfl)
    LoopsP.nil (e11 f35 f36 f37 f38 f39 f40)
end Ev
