/- Functions of the program, as the evaluator sees them. -/
import Derived.Test.YtjdnadolocbjoaaGreatPatA
set_option linter.unusedVariables false
set_option maxRecDepth 100000
namespace Ev
open Go
def tab : Tab := [(3, ⟨1, false, 8, [.int .i64 0], [], .int .i64, false⟩),
  (5, ⟨1, false, 1, [.int .u8 0], [], .int .u8, false⟩),
  (9, ⟨1, false, 16, [.str []], [], .str, false⟩),
  (22, ⟨1, false, 24, [.nils], [], .sl .u8, false⟩),
  (24, ⟨1, false, 24, [.nils], [], .sl .device, false⟩),
  (25, ⟨1, false, 24, [.nils], [], .sl .cue, false⟩),
  (26, ⟨1, false, 24, [.nils], [], .sl .gust, false⟩),
  (28, ⟨4, true, 80, [.nils, .nils, .nils, .int .i64 0], [(0, 1, false), (1, 1, false), (2, 1, false), (3, 1, false)], .struct, false⟩),
  (29, ⟨1, false, 24, [.nils], [], .sl .place, false⟩),
  (31, ⟨2, true, 16, [.int .i64 0, .int .i64 0], [(0, 1, false), (1, 1, false)], .struct, true⟩),
  (33, ⟨4, true, 32, [.int .i64 0, .int .i64 0, .int .i64 0, .int .i64 0], [(0, 2, true), (2, 2, true)], .struct, false⟩),
  (39, ⟨5, true, 40, [.int .i64 0, .int .i64 0, .int .i64 0, .int .i64 0, .int .i64 0], [(0, 2, true), (2, 1, false), (3, 1, false), (4, 1, false)], .struct, false⟩),
  (66, ⟨8, true, 80, [.str [], .int .i64 0, .str [], .int .i64 0, .int .i64 0, .int .i64 0, .int .i64 0, .int .i64 0], [(0, 1, false), (1, 1, false), (2, 1, false), (3, 2, true), (5, 1, false), (6, 1, false), (7, 1, false)], .struct, true⟩),
  (98, ⟨1, false, 24, [.nils], [], .sl .int, false⟩),
  (108, ⟨3, true, 24, [.int .i64 0, .int .i64 0, .int .i64 0], [(0, 1, false), (1, 2, true)], .struct, false⟩),
  (116, ⟨4, true, 40, [.int .i64 0, .str [], .int .i64 0, .int .i64 0], [(0, 1, false), (1, 1, false), (2, 1, false), (3, 1, false)], .struct, false⟩),
  (120, ⟨1, false, 24, [.nils], [], .sl .throw, false⟩),
  (123, ⟨7, true, 64, [.str [], .int .i64 0, .int .i64 0, .int .i64 0, .int .i64 0, .int .i64 0, .int .i64 0], [(0, 1, false), (1, 1, false), (2, 5, true)], .struct, false⟩),
  (139, ⟨3, true, 40, [.nils, .int .i64 0, .int .i64 0], [(0, 1, false), (1, 1, false), (2, 1, false)], .struct, false⟩),
  (166, ⟨1, false, 24, [.nils], [], .sl .str, false⟩)]
theorem tab_ok : TabOK Proofs.Tryz.prog tab := tab_of2 (by kernel_rfl) (by kernel_rfl)
theorem mixed : Proofs.Tryz.prog.follows .mixedOrders = true := by kernel_rfl
/-! spec.l1New -/
def p57 : List SP := [.one (.r .u8)]
def r57 : List SP := [.box 0 [.r .u8, .int .i64, .int .i64]]
def q57_0 : List SP := pat 33 0 [(0, .one (.r .u8)), (3, .one (.int .i64)), (4, .one (.int .i64))]
noncomputable def s57_0 (t1 : List Int × Int × Int × Unit) (rec K : List Int × Int × Int × Unit → Option (CuD × Unit)) : Option (CuD × Unit) :=
  cond (decide (t1.2.2.1 < (Int.ofNat (List.length t1.1)))) (cond (decide (t1.2.2.1 < 4000)) (rdL t1.1 t1.2.2.1 fun d2 => rec (t1.1, (bitsOp .and .i64 (w64 ((w64 ((w64 (t1.2.1 * 167)) + (w64 d2))) + 29)) 1073741823), (w64 (t1.2.2.1 + 1)), ())) (K (t1.1, t1.2.1, t1.2.2.1, ()))) (K (t1.1, t1.2.1, t1.2.2.1, ()))
noncomputable def F57 (a : List Int × Unit) : Option (CuD × Unit) :=
  iterF (s57_0) fuel (a.1, (w64 (620033 + (w64 (3 * (Int.ofNat (List.length a.1)))))), 0, ()) fun t3 => some ((t3.1, 0, t3.2.1, ()), ())
def E57 : Env := envL []
noncomputable def L57 : LEnv (densS (muts p57 ++ r57)) := lenv [(0, loopL (R := densS (muts p57 ++ r57)) q57_0 (s57_0))]
theorem e57_0 (X : Nat → St → Option (densS (muts p57 ++ r57))) (rec K : densS q57_0 → Option (densS (muts p57 ++ r57))) (t : densS q57_0) :
    ev (E57) tab (fun _ => false) (L57) (retK tab p57 r57 Proofs.Tryz.f57.results.toList) (loopC Proofs.Tryz.f57 0) (fun i s => cond (Nat.beq i 0) (decK 100 q57_0 s K) (X i s)) (fun s => decK 100 q57_0 s rec) (enc q57_0 t) = s57_0 t rec K := by kernel_rfl
theorem e57 (a : densS p57) : runF (E57) tab (fun _ => false) p57 r57 Proofs.Tryz.f57 (L57) a = F57 a := by kernel_rfl
theorem ok57 : OK Proofs.Tryz.prog 57 (mkE p57 r57 true (F57)) :=
  fn_ok tab_ok (envL_ok (l := []) OKs.nil) mixed (ann := (fun _ => false)) (L := L57) (fn := Proofs.Tryz.f57) (c := bodyC Proofs.Tryz.f57) (ls := [(0, loopC Proofs.Tryz.f57 0)]) Proofs.Tryz.func57 (by kernel_rfl) (by kernel_rfl) (by kernel_rfl) (by kernel_rfl)
    (LoopsP.cons q57_0 (s57_0) rfl (e57_0) LoopsP.nil) (e57)
/-! spec.l1Byte -/
def p133 : List SP := [.box 0 [.r .u8, .int .i64, .int .i64]]
def r133 : List SP := [.one (.int .i64)]
noncomputable def F133 (a : CuD × Unit) : Option (CuD × Int × Unit) :=
  cond (decide (a.1.2.1 < (Int.ofNat (List.length a.1.1)))) (rdL a.1.1 a.1.2.1 fun d1 => some ((a.1.1, (w64 (a.1.2.1 + 1)), (w64 ((w64 (a.1.2.2.1 * 6364136223846793005)) + 1442695040888963407)), ()), (bitsOp .and .i64 (w64 ((bitsOp .and .i64 (bitsOp .xor .i64 (shrOp .i64 (w64 ((w64 (a.1.2.2.1 * 6364136223846793005)) + 1442695040888963407)) 35) (shrOp .i64 (w64 ((w64 (a.1.2.2.1 * 6364136223846793005)) + 1442695040888963407)) 45)) 255) + (w64 d1))) 255), ())) (some ((a.1.1, a.1.2.1, (w64 ((w64 (a.1.2.2.1 * 6364136223846793005)) + 1442695040888963407)), ()), (bitsOp .and .i64 (bitsOp .xor .i64 (shrOp .i64 (w64 ((w64 (a.1.2.2.1 * 6364136223846793005)) + 1442695040888963407)) 35) (shrOp .i64 (w64 ((w64 (a.1.2.2.1 * 6364136223846793005)) + 1442695040888963407)) 45)) 255), ()))
def E133 : Env := envL []
noncomputable def L133 : LEnv (densS (muts p133 ++ r133)) := lenv []
theorem e133 (a : densS p133) : runF (E133) tab (fun _ => false) p133 r133 Proofs.Tryz.f133 (L133) a = F133 a := by kernel_rfl
theorem ok133 : OK Proofs.Tryz.prog 133 (mkE p133 r133 true (F133)) :=
  fn_ok tab_ok (envL_ok (l := []) OKs.nil) mixed (ann := (fun _ => false)) (L := L133) (fn := Proofs.Tryz.f133) (c := bodyC Proofs.Tryz.f133) (ls := []) Proofs.Tryz.func133 (by kernel_rfl) (by kernel_rfl) (by kernel_rfl) (by kernel_rfl)
    LoopsP.nil (e133)
/-! spec.l1Below -/
def p84 : List SP := [.box 0 [.r .u8, .int .i64, .int .i64], .one (.int .i64)]
def r84 : List SP := [.one (.int .i64)]
noncomputable def F84 (f133 : CuD × Unit → Option (CuD × Int × Unit)) (a : CuD × Int × Unit) : Option (CuD × Int × Unit) :=
  cond (decide (a.2.1 ≤ 0)) (some ((a.1.1, a.1.2.1, a.1.2.2.1, ()), 0, ())) (cond (decide (a.2.1 ≤ 256)) ((f133 ((a.1.1, a.1.2.1, a.1.2.2.1, ()), ())).bind fun x1 => cond (decide (a.2.1 = 0)) none (some ((x1.1.1, x1.1.2.1, x1.1.2.2.1, ()), (Int.tmod x1.2.1 a.2.1), ()))) ((f133 ((a.1.1, a.1.2.1, a.1.2.2.1, ()), ())).bind fun x2 => (f133 ((x2.1.1, x2.1.2.1, x2.1.2.2.1, ()), ())).bind fun x3 => (f133 ((x3.1.1, x3.1.2.1, x3.1.2.2.1, ()), ())).bind fun x4 => cond (decide (a.2.1 = 0)) none (some ((x4.1.1, x4.1.2.1, x4.1.2.2.1, ()), (Int.tmod (w64 ((w64 ((w64 (x2.2.1 * 65536)) + (w64 (x3.2.1 * 256)))) + x4.2.1)) a.2.1), ()))))
def E84 (f133 : CuD × Unit → Option (CuD × Int × Unit)) : Env := envL [(133, mkE p133 r133 true f133)]
noncomputable def L84 (f133 : CuD × Unit → Option (CuD × Int × Unit)) : LEnv (densS (muts p84 ++ r84)) := lenv []
theorem e84 (f133 : CuD × Unit → Option (CuD × Int × Unit)) (a : densS p84) : runF (E84 f133) tab (fun _ => false) p84 r84 Proofs.Tryz.f84 (L84 f133) a = F84 f133 a := by kernel_rfl
theorem ok84 {f133 : CuD × Unit → Option (CuD × Int × Unit)} (h133 : OK Proofs.Tryz.prog 133 (mkE p133 r133 true f133)) : OK Proofs.Tryz.prog 84 (mkE p84 r84 true (F84 f133)) :=
  fn_ok tab_ok (envL_ok (l := [(133, mkE p133 r133 true f133)]) (OKs.cons h133 OKs.nil)) mixed (ann := (fun _ => false)) (L := L84 f133) (fn := Proofs.Tryz.f84) (c := bodyC Proofs.Tryz.f84) (ls := []) Proofs.Tryz.func84 (by kernel_rfl) (by kernel_rfl) (by kernel_rfl) (by kernel_rfl)
    LoopsP.nil (e84 f133)
/-! spec.IsName -/
def p190 : List SP := [.one (.str)]
def r190 : List SP := [.one (.bool)]
def q190_0 : List SP := pat 50 0 [(0, .one (.str)), (3, .one (.int .i64))]
noncomputable def s190_0 (t1 : Str × Int × Unit) (rec K : Str × Int × Unit → Option (Bool × Unit)) : Option (Bool × Unit) :=
  cond (decide (t1.2.1 < (Int.ofNat (List.length t1.1)))) (rdL t1.1 t1.2.1 fun d2 => cond (decide ((Int.ofNat (UInt8.toNat d2)) ≥ 97)) (rdL t1.1 t1.2.1 fun d3 => rdL t1.1 t1.2.1 fun d4 => cond (decide ((Int.ofNat (UInt8.toNat d4)) ≥ 48)) (rdL t1.1 t1.2.1 fun d5 => cond (!(decide ((Int.ofNat (UInt8.toNat d3)) ≤ 122))) (cond (!(!(decide ((Int.ofNat (UInt8.toNat d5)) ≤ 57)))) (cond (decide (t1.2.1 = 0)) (some (false, ())) (rec (t1.1, (w64 (t1.2.1 + 1)), ()))) (some (false, ()))) (rec (t1.1, (w64 (t1.2.1 + 1)), ()))) (cond (!(decide ((Int.ofNat (UInt8.toNat d3)) ≤ 122))) (some (false, ())) (rec (t1.1, (w64 (t1.2.1 + 1)), ())))) (rdL t1.1 t1.2.1 fun d6 => cond (decide ((Int.ofNat (UInt8.toNat d6)) ≥ 48)) (rdL t1.1 t1.2.1 fun d7 => cond (!(!(decide ((Int.ofNat (UInt8.toNat d7)) ≤ 57)))) (cond (decide (t1.2.1 = 0)) (some (false, ())) (rec (t1.1, (w64 (t1.2.1 + 1)), ()))) (some (false, ()))) (some (false, ())))) (K (t1.1, t1.2.1, ()))
noncomputable def F190 (a : Str × Unit) : Option (Bool × Unit) :=
  iterF (s190_0) fuel (a.1, 0, ()) fun t8 => cond (decide ((Int.ofNat (List.length t8.1)) > 0)) (some ((decide ((Int.ofNat (List.length t8.1)) ≤ 8)), ())) (some (false, ()))
def E190 : Env := envL []
noncomputable def L190 : LEnv (densS (muts p190 ++ r190)) := lenv [(0, loopL (R := densS (muts p190 ++ r190)) q190_0 (s190_0))]
theorem e190_0 (X : Nat → St → Option (densS (muts p190 ++ r190))) (rec K : densS q190_0 → Option (densS (muts p190 ++ r190))) (t : densS q190_0) :
    ev (E190) tab (fun _ => false) (L190) (retK tab p190 r190 Proofs.Tryz.f190.results.toList) (loopC Proofs.Tryz.f190 0) (fun i s => cond (Nat.beq i 0) (decK 100 q190_0 s K) (X i s)) (fun s => decK 100 q190_0 s rec) (enc q190_0 t) = s190_0 t rec K := by kernel_rfl
theorem e190 (a : densS p190) : runF (E190) tab (fun _ => false) p190 r190 Proofs.Tryz.f190 (L190) a = F190 a := by kernel_rfl
theorem ok190 : OK Proofs.Tryz.prog 190 (mkE p190 r190 false (F190)) :=
  fn_ok tab_ok (envL_ok (l := []) OKs.nil) mixed (ann := (fun _ => false)) (L := L190) (fn := Proofs.Tryz.f190) (c := bodyC Proofs.Tryz.f190) (ls := [(0, loopC Proofs.Tryz.f190 0)]) Proofs.Tryz.func190 (by kernel_rfl) (by kernel_rfl) (by kernel_rfl) (by kernel_rfl)
    (LoopsP.cons q190_0 (s190_0) rfl (e190_0) LoopsP.nil) (e190)
/-! spec.l1In -/
def p106 : List SP := [.one (.int .i64), .one (.int .i64), .one (.int .i64)]
def r106 : List SP := [.one (.bool)]
noncomputable def F106 (a : Int × Int × Int × Unit) : Option (Bool × Unit) :=
  cond (decide (a.1 ≥ a.2.1)) (some ((decide (a.1 ≤ a.2.2.1)), ())) (some (false, ()))
def E106 : Env := envL []
noncomputable def L106 : LEnv (densS (muts p106 ++ r106)) := lenv []
theorem e106 (a : densS p106) : runF (E106) tab (fun _ => false) p106 r106 Proofs.Tryz.f106 (L106) a = F106 a := by kernel_rfl
theorem ok106 : OK Proofs.Tryz.prog 106 (mkE p106 r106 false (F106)) :=
  fn_ok tab_ok (envL_ok (l := []) OKs.nil) mixed (ann := (fun _ => false)) (L := L106) (fn := Proofs.Tryz.f106) (c := bodyC Proofs.Tryz.f106) (ls := []) Proofs.Tryz.func106 (by kernel_rfl) (by kernel_rfl) (by kernel_rfl) (by kernel_rfl)
    LoopsP.nil (e106)
/-! spec.l5Supply -/
def p191 : List SP := [.one (.int .i64)]
def r191 : List SP := [.one (.bool)]
noncomputable def F191 (f106 : Int × Int × Int × Unit → Option (Bool × Unit)) (a : Int × Unit) : Option (Bool × Unit) :=
  (f106 (a.1, 0, 512, ())).bind fun x1 => some (x1.1, ())
def E191 (f106 : Int × Int × Int × Unit → Option (Bool × Unit)) : Env := envL [(106, mkE p106 r106 false f106)]
noncomputable def L191 (f106 : Int × Int × Int × Unit → Option (Bool × Unit)) : LEnv (densS (muts p191 ++ r191)) := lenv []
theorem e191 (f106 : Int × Int × Int × Unit → Option (Bool × Unit)) (a : densS p191) : runF (E191 f106) tab (fun _ => false) p191 r191 Proofs.Tryz.f191 (L191 f106) a = F191 f106 a := by kernel_rfl
theorem ok191 {f106 : Int × Int × Int × Unit → Option (Bool × Unit)} (h106 : OK Proofs.Tryz.prog 106 (mkE p106 r106 false f106)) : OK Proofs.Tryz.prog 191 (mkE p191 r191 false (F191 f106)) :=
  fn_ok tab_ok (envL_ok (l := [(106, mkE p106 r106 false f106)]) (OKs.cons h106 OKs.nil)) mixed (ann := (fun _ => false)) (L := L191 f106) (fn := Proofs.Tryz.f191) (c := bodyC Proofs.Tryz.f191) (ls := []) Proofs.Tryz.func191 (by kernel_rfl) (by kernel_rfl) (by kernel_rfl) (by kernel_rfl)
    LoopsP.nil (e191 f106)
/-! spec.IsHeading -/
def p186 : List SP := [.one (.int .i64)]
def r186 : List SP := [.one (.bool)]
noncomputable def F186 (a : Int × Unit) : Option (Bool × Unit) :=
  cond (decide (a.1 ≥ 0)) (some ((decide (a.1 ≤ 3)), ())) (some (false, ()))
def E186 : Env := envL []
noncomputable def L186 : LEnv (densS (muts p186 ++ r186)) := lenv []
theorem e186 (a : densS p186) : runF (E186) tab (fun _ => false) p186 r186 Proofs.Tryz.f186 (L186) a = F186 a := by kernel_rfl
theorem ok186 : OK Proofs.Tryz.prog 186 (mkE p186 r186 false (F186)) :=
  fn_ok tab_ok (envL_ok (l := []) OKs.nil) mixed (ann := (fun _ => false)) (L := L186) (fn := Proofs.Tryz.f186) (c := bodyC Proofs.Tryz.f186) (ls := []) Proofs.Tryz.func186 (by kernel_rfl) (by kernel_rfl) (by kernel_rfl) (by kernel_rfl)
    LoopsP.nil (e186)
/-! spec.IsJet -/
def p146 : List SP := [.t .jet]
def r146 : List SP := [.one (.bool)]
noncomputable def F146 (f106 : Int × Int × Int × Unit → Option (Bool × Unit)) (f186 : Int × Unit → Option (Bool × Unit)) (a : Jet × Unit) : Option (Bool × Unit) :=
  (f106 (a.1.At.X, (-1024), 1024, ())).bind fun x1 => cond x1.1 ((f106 (a.1.At.Y, (-1024), 1024, ())).bind fun x2 => cond x2.1 ((f186 (a.1.Heading, ())).bind fun x3 => cond x3.1 ((f106 (a.1.Tilt, 0, 16, ())).bind fun x4 => cond x4.1 ((f106 (a.1.Lift, 1, 32, ())).bind fun x5 => some (x5.1, ())) (some (false, ()))) (some (false, ()))) (some (false, ()))) (some (false, ()))
def E146 (f106 : Int × Int × Int × Unit → Option (Bool × Unit)) (f186 : Int × Unit → Option (Bool × Unit)) : Env := envL [(106, mkE p106 r106 false f106), (186, mkE p186 r186 false f186)]
noncomputable def L146 (f106 : Int × Int × Int × Unit → Option (Bool × Unit)) (f186 : Int × Unit → Option (Bool × Unit)) : LEnv (densS (muts p146 ++ r146)) := lenv []
theorem e146 (f106 : Int × Int × Int × Unit → Option (Bool × Unit)) (f186 : Int × Unit → Option (Bool × Unit)) (a : densS p146) : runF (E146 f106 f186) tab (fun _ => false) p146 r146 Proofs.Tryz.f146 (L146 f106 f186) a = F146 f106 f186 a := by kernel_rfl
theorem ok146 {f106 : Int × Int × Int × Unit → Option (Bool × Unit)} {f186 : Int × Unit → Option (Bool × Unit)} (h106 : OK Proofs.Tryz.prog 106 (mkE p106 r106 false f106)) (h186 : OK Proofs.Tryz.prog 186 (mkE p186 r186 false f186)) : OK Proofs.Tryz.prog 146 (mkE p146 r146 false (F146 f106 f186)) :=
  fn_ok tab_ok (envL_ok (l := [(106, mkE p106 r106 false f106), (186, mkE p186 r186 false f186)]) (OKs.cons h106 (OKs.cons h186 OKs.nil))) mixed (ann := (fun _ => false)) (L := L146 f106 f186) (fn := Proofs.Tryz.f146) (c := bodyC Proofs.Tryz.f146) (ls := []) Proofs.Tryz.func146 (by kernel_rfl) (by kernel_rfl) (by kernel_rfl) (by kernel_rfl)
    LoopsP.nil (e146 f106 f186)
/-! spec.l6Jet -/
def p192 : List SP := [.t .device]
def r192 : List SP := [.one (.bool)]
noncomputable def F192 (f146 : Jet × Unit → Option (Bool × Unit)) (a : Device × Unit) : Option (Bool × Unit) :=
  (f146 ((⟨⟨a.1.At.X, a.1.At.Y⟩, a.1.Heading, a.1.Tilt, 1⟩ : Jet), ())).bind fun x1 => some (x1.1, ())
def E192 (f146 : Jet × Unit → Option (Bool × Unit)) : Env := envL [(146, mkE p146 r146 false f146)]
noncomputable def L192 (f146 : Jet × Unit → Option (Bool × Unit)) : LEnv (densS (muts p192 ++ r192)) := lenv []
theorem e192 (f146 : Jet × Unit → Option (Bool × Unit)) (a : densS p192) : runF (E192 f146) tab (fun _ => false) p192 r192 Proofs.Tryz.f192 (L192 f146) a = F192 f146 a := by kernel_rfl
theorem ok192 {f146 : Jet × Unit → Option (Bool × Unit)} (h146 : OK Proofs.Tryz.prog 146 (mkE p146 r146 false f146)) : OK Proofs.Tryz.prog 192 (mkE p192 r192 false (F192 f146)) :=
  fn_ok tab_ok (envL_ok (l := [(146, mkE p146 r146 false f146)]) (OKs.cons h146 OKs.nil)) mixed (ann := (fun _ => false)) (L := L192 f146) (fn := Proofs.Tryz.f192) (c := bodyC Proofs.Tryz.f192) (ls := []) Proofs.Tryz.func192 (by kernel_rfl) (by kernel_rfl) (by kernel_rfl) (by kernel_rfl)
    LoopsP.nil (e192 f146)
/-! spec.IsMeasure -/
def p172 : List SP := [.one (.int .i64)]
def r172 : List SP := [.one (.bool)]
noncomputable def F172 (a : Int × Unit) : Option (Bool × Unit) :=
  cond (decide (a.1 ≥ (-4096))) (some ((decide (a.1 ≤ 4096)), ())) (some (false, ()))
def E172 : Env := envL []
noncomputable def L172 : LEnv (densS (muts p172 ++ r172)) := lenv []
theorem e172 (a : densS p172) : runF (E172) tab (fun _ => false) p172 r172 Proofs.Tryz.f172 (L172) a = F172 a := by kernel_rfl
theorem ok172 : OK Proofs.Tryz.prog 172 (mkE p172 r172 false (F172)) :=
  fn_ok tab_ok (envL_ok (l := []) OKs.nil) mixed (ann := (fun _ => false)) (L := L172) (fn := Proofs.Tryz.f172) (c := bodyC Proofs.Tryz.f172) (ls := []) Proofs.Tryz.func172 (by kernel_rfl) (by kernel_rfl) (by kernel_rfl) (by kernel_rfl)
    LoopsP.nil (e172)
/-! spec.IsPlace -/
def p120 : List SP := [.t .place]
def r120 : List SP := [.one (.bool)]
noncomputable def F120 (f172 : Int × Unit → Option (Bool × Unit)) (a : Place × Unit) : Option (Bool × Unit) :=
  (f172 (a.1.X, ())).bind fun x1 => cond x1.1 ((f172 (a.1.Y, ())).bind fun x2 => some (x2.1, ())) (some (false, ()))
def E120 (f172 : Int × Unit → Option (Bool × Unit)) : Env := envL [(172, mkE p172 r172 false f172)]
noncomputable def L120 (f172 : Int × Unit → Option (Bool × Unit)) : LEnv (densS (muts p120 ++ r120)) := lenv []
theorem e120 (f172 : Int × Unit → Option (Bool × Unit)) (a : densS p120) : runF (E120 f172) tab (fun _ => false) p120 r120 Proofs.Tryz.f120 (L120 f172) a = F120 f172 a := by kernel_rfl
theorem ok120 {f172 : Int × Unit → Option (Bool × Unit)} (h172 : OK Proofs.Tryz.prog 172 (mkE p172 r172 false f172)) : OK Proofs.Tryz.prog 120 (mkE p120 r120 false (F120 f172)) :=
  fn_ok tab_ok (envL_ok (l := [(172, mkE p172 r172 false f172)]) (OKs.cons h172 OKs.nil)) mixed (ann := (fun _ => false)) (L := L120 f172) (fn := Proofs.Tryz.f120) (c := bodyC Proofs.Tryz.f120) (ls := []) Proofs.Tryz.func120 (by kernel_rfl) (by kernel_rfl) (by kernel_rfl) (by kernel_rfl)
    LoopsP.nil (e120 f172)
/-! spec.IsDevice -/
def p151 : List SP := [.t .device]
def r151 : List SP := [.one (.bool)]
noncomputable def F151 (f190 : Str × Unit → Option (Bool × Unit)) (f191 : Int × Unit → Option (Bool × Unit)) (f192 : Device × Unit → Option (Bool × Unit)) (f106 : Int × Int × Int × Unit → Option (Bool × Unit)) (f120 : Place × Unit → Option (Bool × Unit)) (a : Device × Unit) : Option (Bool × Unit) :=
  (f190 (a.1.Line, ())).bind fun x1 => cond x1.1 ((f190 (a.1.Name, ())).bind fun x2 => cond (!x2.1) (some (false, ())) (cond (decide (a.1.Kind = 1)) ((f191 (a.1.Most, ())).bind fun x3 => cond x3.1 (some ((decide (a.1.Name = a.1.Name) && (decide (a.1.Kind = a.1.Kind) && (decide (a.1.Line = []) && (decide (a.1.At.X = 0) && (decide (a.1.At.Y = 0) && (decide (a.1.Heading = 0) && (decide (a.1.Tilt = 0) && (decide (a.1.Most = a.1.Most) && true)))))))), ())) (some (false, ()))) (cond (decide (a.1.Kind = 2)) (cond (!decide (a.1.Line = a.1.Name)) ((f192 (a.1, ())).bind fun x4 => cond x4.1 ((f106 (a.1.Most, 0, 32, ())).bind fun x5 => some (x5.1, ())) (some (false, ()))) (some (false, ()))) (cond (decide (a.1.Kind = 3)) (cond (!decide (a.1.Line = a.1.Name)) ((f120 (a.1.At, ())).bind fun x6 => cond x6.1 (some ((decide (a.1.Name = a.1.Name) && (decide (a.1.Kind = a.1.Kind) && (decide (a.1.Line = a.1.Line) && (decide (a.1.At.X = a.1.At.X) && (decide (a.1.At.Y = a.1.At.Y) && (decide (a.1.Heading = 0) && (decide (a.1.Tilt = 0) && (decide (a.1.Most = 0) && true)))))))), ())) (some (false, ()))) (some (false, ()))) (some (false, ())))))) ((f190 (a.1.Name, ())).bind fun x7 => cond (!x7.1) (some (false, ())) (cond (decide (a.1.Kind = 1)) ((f191 (a.1.Most, ())).bind fun x8 => cond x8.1 (some ((decide (a.1.Name = a.1.Name) && (decide (a.1.Kind = a.1.Kind) && (decide (a.1.Line = []) && (decide (a.1.At.X = 0) && (decide (a.1.At.Y = 0) && (decide (a.1.Heading = 0) && (decide (a.1.Tilt = 0) && (decide (a.1.Most = a.1.Most) && true)))))))), ())) (some (false, ()))) (cond (decide (a.1.Kind = 2)) (some (false, ())) (cond (decide (a.1.Kind = 3)) (some (false, ())) (some (false, ()))))))
def E151 (f190 : Str × Unit → Option (Bool × Unit)) (f191 : Int × Unit → Option (Bool × Unit)) (f192 : Device × Unit → Option (Bool × Unit)) (f106 : Int × Int × Int × Unit → Option (Bool × Unit)) (f120 : Place × Unit → Option (Bool × Unit)) : Env := envL [(190, mkE p190 r190 false f190), (191, mkE p191 r191 false f191), (192, mkE p192 r192 false f192), (106, mkE p106 r106 false f106), (120, mkE p120 r120 false f120)]
noncomputable def L151 (f190 : Str × Unit → Option (Bool × Unit)) (f191 : Int × Unit → Option (Bool × Unit)) (f192 : Device × Unit → Option (Bool × Unit)) (f106 : Int × Int × Int × Unit → Option (Bool × Unit)) (f120 : Place × Unit → Option (Bool × Unit)) : LEnv (densS (muts p151 ++ r151)) := lenv []
theorem e151 (f190 : Str × Unit → Option (Bool × Unit)) (f191 : Int × Unit → Option (Bool × Unit)) (f192 : Device × Unit → Option (Bool × Unit)) (f106 : Int × Int × Int × Unit → Option (Bool × Unit)) (f120 : Place × Unit → Option (Bool × Unit)) (a : densS p151) : runF (E151 f190 f191 f192 f106 f120) tab (fun _ => false) p151 r151 Proofs.Tryz.f151 (L151 f190 f191 f192 f106 f120) a = F151 f190 f191 f192 f106 f120 a := by kernel_rfl
theorem ok151 {f190 : Str × Unit → Option (Bool × Unit)} {f191 : Int × Unit → Option (Bool × Unit)} {f192 : Device × Unit → Option (Bool × Unit)} {f106 : Int × Int × Int × Unit → Option (Bool × Unit)} {f120 : Place × Unit → Option (Bool × Unit)} (h190 : OK Proofs.Tryz.prog 190 (mkE p190 r190 false f190)) (h191 : OK Proofs.Tryz.prog 191 (mkE p191 r191 false f191)) (h192 : OK Proofs.Tryz.prog 192 (mkE p192 r192 false f192)) (h106 : OK Proofs.Tryz.prog 106 (mkE p106 r106 false f106)) (h120 : OK Proofs.Tryz.prog 120 (mkE p120 r120 false f120)) : OK Proofs.Tryz.prog 151 (mkE p151 r151 false (F151 f190 f191 f192 f106 f120)) :=
  fn_ok tab_ok (envL_ok (l := [(190, mkE p190 r190 false f190), (191, mkE p191 r191 false f191), (192, mkE p192 r192 false f192), (106, mkE p106 r106 false f106), (120, mkE p120 r120 false f120)]) (OKs.cons h190 (OKs.cons h191 (OKs.cons h192 (OKs.cons h106 (OKs.cons h120 OKs.nil)))))) mixed (ann := (fun _ => false)) (L := L151 f190 f191 f192 f106 f120) (fn := Proofs.Tryz.f151) (c := bodyC Proofs.Tryz.f151) (ls := []) Proofs.Tryz.func151 (by kernel_rfl) (by kernel_rfl) (by kernel_rfl) (by kernel_rfl)
    LoopsP.nil (e151 f190 f191 f192 f106 f120)
/-! spec.FindDevice -/
def p193 : List SP := [.one (.r .device), .one (.str)]
def r193 : List SP := [.one (.int .i64)]
def q193_0 : List SP := pat 20 0 [(1, .one (.str)), (7, .one (.r .device)), (8, .one (.int .i64)), (9, .one (.int .i64))]
noncomputable def s193_0 (t1 : Str × List Device × Int × Int × Unit) (rec K : Str × List Device × Int × Int × Unit → Option (Int × Unit)) : Option (Int × Unit) :=
  cond (decide (t1.2.2.2.1 < t1.2.2.1)) (rdL t1.2.1 t1.2.2.2.1 fun d2 => cond (decide (d2.Name = t1.1)) (some (t1.2.2.2.1, ())) (rec (t1.1, t1.2.1, t1.2.2.1, (w64 (t1.2.2.2.1 + 1)), ()))) (K (t1.1, t1.2.1, t1.2.2.1, t1.2.2.2.1, ()))
noncomputable def F193 (a : List Device × Str × Unit) : Option (Int × Unit) :=
  iterF (s193_0) fuel (a.2.1, a.1, (Int.ofNat (List.length a.1)), 0, ()) fun t3 => some ((-1), ())
def E193 : Env := envL []
noncomputable def L193 : LEnv (densS (muts p193 ++ r193)) := lenv [(0, loopL (R := densS (muts p193 ++ r193)) q193_0 (s193_0))]
theorem e193_0 (X : Nat → St → Option (densS (muts p193 ++ r193))) (rec K : densS q193_0 → Option (densS (muts p193 ++ r193))) (t : densS q193_0) :
    ev (E193) tab (fun _ => false) (L193) (retK tab p193 r193 Proofs.Tryz.f193.results.toList) (loopC Proofs.Tryz.f193 0) (fun i s => cond (Nat.beq i 0) (decK 100 q193_0 s K) (X i s)) (fun s => decK 100 q193_0 s rec) (enc q193_0 t) = s193_0 t rec K := by kernel_rfl
theorem e193 (a : densS p193) : runF (E193) tab (fun _ => false) p193 r193 Proofs.Tryz.f193 (L193) a = F193 a := by kernel_rfl
theorem ok193 : OK Proofs.Tryz.prog 193 (mkE p193 r193 false (F193)) :=
  fn_ok tab_ok (envL_ok (l := []) OKs.nil) mixed (ann := (fun _ => false)) (L := L193) (fn := Proofs.Tryz.f193) (c := bodyC Proofs.Tryz.f193) (ls := [(0, loopC Proofs.Tryz.f193 0)]) Proofs.Tryz.func193 (by kernel_rfl) (by kernel_rfl) (by kernel_rfl) (by kernel_rfl)
    (LoopsP.cons q193_0 (s193_0) rfl (e193_0) LoopsP.nil) (e193)
/-! spec.l6Hangs -/
def p152 : List SP := [.one (.r .device), .t .device]
def r152 : List SP := [.one (.bool)]
noncomputable def F152 (f193 : List Device × Str × Unit → Option (Int × Unit)) (a : List Device × Device × Unit) : Option (Bool × Unit) :=
  (f193 (a.1, a.2.1.Line, ())).bind fun x1 => cond (decide (a.2.1.Kind = 2)) (cond (decide (x1.1 ≥ 0)) (rdL a.1 x1.1 fun d2 => some ((decide (d2.Kind = 1)), ())) (some (false, ()))) (cond (decide (a.2.1.Kind = 3)) (cond (decide (x1.1 ≥ 0)) (rdL a.1 x1.1 fun d3 => some ((decide (d3.Kind = 2)), ())) (some (false, ()))) (some (true, ())))
def E152 (f193 : List Device × Str × Unit → Option (Int × Unit)) : Env := envL [(193, mkE p193 r193 false f193)]
noncomputable def L152 (f193 : List Device × Str × Unit → Option (Int × Unit)) : LEnv (densS (muts p152 ++ r152)) := lenv []
theorem e152 (f193 : List Device × Str × Unit → Option (Int × Unit)) (a : densS p152) : runF (E152 f193) tab (fun _ => false) p152 r152 Proofs.Tryz.f152 (L152 f193) a = F152 f193 a := by kernel_rfl
theorem ok152 {f193 : List Device × Str × Unit → Option (Int × Unit)} (h193 : OK Proofs.Tryz.prog 193 (mkE p193 r193 false f193)) : OK Proofs.Tryz.prog 152 (mkE p152 r152 false (F152 f193)) :=
  fn_ok tab_ok (envL_ok (l := [(193, mkE p193 r193 false f193)]) (OKs.cons h193 OKs.nil)) mixed (ann := (fun _ => false)) (L := L152 f193) (fn := Proofs.Tryz.f152) (c := bodyC Proofs.Tryz.f152) (ls := []) Proofs.Tryz.func152 (by kernel_rfl) (by kernel_rfl) (by kernel_rfl) (by kernel_rfl)
    LoopsP.nil (e152 f193)
/-! spec.IsRig -/
def p103 : List SP := [.one (.r .device)]
def r103 : List SP := [.one (.bool)]
def q103_0 : List SP := pat 40 0 [(0, .one (.r .device)), (5, .one (.r .device)), (6, .one (.int .i64)), (7, .one (.int .i64))]
noncomputable def s103_0 (f151 : Device × Unit → Option (Bool × Unit)) (f152 : List Device × Device × Unit → Option (Bool × Unit)) (t1 : List Device × List Device × Int × Int × Unit) (rec K : List Device × List Device × Int × Int × Unit → Option (Bool × Unit)) : Option (Bool × Unit) :=
  cond (decide (t1.2.2.2.1 < t1.2.2.1)) (rdL t1.2.1 t1.2.2.2.1 fun d2 => (f151 (d2, ())).bind fun x3 => cond (!(!x3.1)) (cond (decide (t1.2.2.2.1 > 0)) (rdL t1.1 (w64 (t1.2.2.2.1 - 1)) fun d4 => cond (!(!Op.bytesLess d4.Name d2.Name)) ((f152 (t1.1, d2, ())).bind fun x5 => cond (!x5.1) (some (false, ())) (rec (t1.1, t1.2.1, t1.2.2.1, (w64 (t1.2.2.2.1 + 1)), ()))) (some (false, ()))) ((f152 (t1.1, d2, ())).bind fun x6 => cond (!x6.1) (some (false, ())) (rec (t1.1, t1.2.1, t1.2.2.1, (w64 (t1.2.2.2.1 + 1)), ())))) (some (false, ()))) (K (t1.1, t1.2.1, t1.2.2.1, t1.2.2.2.1, ()))
noncomputable def F103 (f151 : Device × Unit → Option (Bool × Unit)) (f152 : List Device × Device × Unit → Option (Bool × Unit)) (a : List Device × Unit) : Option (Bool × Unit) :=
  iterF (s103_0 f151 f152) fuel (a.1, a.1, (Int.ofNat (List.length a.1)), 0, ()) fun t7 => some ((decide ((Int.ofNat (List.length t7.1)) ≤ 8)), ())
def E103 (f151 : Device × Unit → Option (Bool × Unit)) (f152 : List Device × Device × Unit → Option (Bool × Unit)) : Env := envL [(151, mkE p151 r151 false f151), (152, mkE p152 r152 false f152)]
noncomputable def L103 (f151 : Device × Unit → Option (Bool × Unit)) (f152 : List Device × Device × Unit → Option (Bool × Unit)) : LEnv (densS (muts p103 ++ r103)) := lenv [(0, loopL (R := densS (muts p103 ++ r103)) q103_0 (s103_0 f151 f152))]
theorem e103_0 (f151 : Device × Unit → Option (Bool × Unit)) (f152 : List Device × Device × Unit → Option (Bool × Unit)) (X : Nat → St → Option (densS (muts p103 ++ r103))) (rec K : densS q103_0 → Option (densS (muts p103 ++ r103))) (t : densS q103_0) :
    ev (E103 f151 f152) tab (fun _ => false) (L103 f151 f152) (retK tab p103 r103 Proofs.Tryz.f103.results.toList) (loopC Proofs.Tryz.f103 0) (fun i s => cond (Nat.beq i 0) (decK 100 q103_0 s K) (X i s)) (fun s => decK 100 q103_0 s rec) (enc q103_0 t) = s103_0 f151 f152 t rec K := by kernel_rfl
theorem e103 (f151 : Device × Unit → Option (Bool × Unit)) (f152 : List Device × Device × Unit → Option (Bool × Unit)) (a : densS p103) : runF (E103 f151 f152) tab (fun _ => false) p103 r103 Proofs.Tryz.f103 (L103 f151 f152) a = F103 f151 f152 a := by kernel_rfl
theorem ok103 {f151 : Device × Unit → Option (Bool × Unit)} {f152 : List Device × Device × Unit → Option (Bool × Unit)} (h151 : OK Proofs.Tryz.prog 151 (mkE p151 r151 false f151)) (h152 : OK Proofs.Tryz.prog 152 (mkE p152 r152 false f152)) : OK Proofs.Tryz.prog 103 (mkE p103 r103 false (F103 f151 f152)) :=
  fn_ok tab_ok (envL_ok (l := [(151, mkE p151 r151 false f151), (152, mkE p152 r152 false f152)]) (OKs.cons h151 (OKs.cons h152 OKs.nil))) mixed (ann := (fun _ => false)) (L := L103 f151 f152) (fn := Proofs.Tryz.f103) (c := bodyC Proofs.Tryz.f103) (ls := [(0, loopC Proofs.Tryz.f103 0)]) Proofs.Tryz.func103 (by kernel_rfl) (by kernel_rfl) (by kernel_rfl) (by kernel_rfl)
    (LoopsP.cons q103_0 (s103_0 f151 f152) rfl (e103_0 f151 f152) LoopsP.nil) (e103 f151 f152)
/-! spec.l6Copies -/
def p206 : List SP := [.one (.r .device)]
def r206 : List SP := [.one (.o 0 .device)]
noncomputable def F206 (a : List Device × Unit) : Option (List Device × Unit) :=
  capK (List.length ([] : List Device) + List.length a.1) (some ((([] : List Device) ++ a.1), ()))
def E206 : Env := envL []
noncomputable def L206 : LEnv (densS (muts p206 ++ r206)) := lenv []
theorem e206 (a : densS p206) : runF (E206) tab (fun _ => false) p206 r206 Proofs.Tryz.f206 (L206) a = F206 a := by kernel_rfl
theorem ok206 : OK Proofs.Tryz.prog 206 (mkE p206 r206 false (F206)) :=
  fn_ok tab_ok (envL_ok (l := []) OKs.nil) mixed (ann := (fun _ => false)) (L := L206) (fn := Proofs.Tryz.f206) (c := bodyC Proofs.Tryz.f206) (ls := []) Proofs.Tryz.func206 (by kernel_rfl) (by kernel_rfl) (by kernel_rfl) (by kernel_rfl)
    LoopsP.nil (e206)
/-! spec.AddDevice -/
def p164 : List SP := [.one (.r .device), .t .device]
def r164 : List SP := [.one (.o 0 .device), .one (.bool)]
def q164_0 : List SP := pat 70 0 [(3, .boxt 5000001 .device), (6, .one (.o 5000002 .device)), (7, .one (.bool)), (39, .one (.r .device)), (40, .one (.int .i64)), (41, .one (.int .i64))]
noncomputable def s164_0 (f103 : List Device × Unit → Option (Bool × Unit)) (f151 : Device × Unit → Option (Bool × Unit)) (f193 : List Device × Str × Unit → Option (Int × Unit)) (f152 : List Device × Device × Unit → Option (Bool × Unit)) (f206 : List Device × Unit → Option (List Device × Unit)) (t6 : Device × List Device × Bool × List Device × Int × Int × Unit) (rec K : Device × List Device × Bool × List Device × Int × Int × Unit → Option (List Device × Bool × Unit)) : Option (List Device × Bool × Unit) :=
  cond (decide (t6.2.2.2.2.2.1 < t6.2.2.2.2.1)) (rdL t6.2.2.2.1 t6.2.2.2.2.2.1 fun d7 => cond (!t6.2.2.1) (cond (!(Op.bytesLess d7.Name t6.1.Name || decide (d7.Name = t6.1.Name))) (capK (List.length t6.2.1 + List.length ([t6.1] : List Device)) (capK (List.length (t6.2.1 ++ ([t6.1] : List Device)) + List.length ([d7] : List Device)) (rec (t6.1, ((t6.2.1 ++ ([t6.1] : List Device)) ++ ([d7] : List Device)), true, t6.2.2.2.1, t6.2.2.2.2.1, (w64 (t6.2.2.2.2.2.1 + 1)), ())))) (capK (List.length t6.2.1 + List.length ([d7] : List Device)) (rec (t6.1, (t6.2.1 ++ ([d7] : List Device)), t6.2.2.1, t6.2.2.2.1, t6.2.2.2.2.1, (w64 (t6.2.2.2.2.2.1 + 1)), ())))) (capK (List.length t6.2.1 + List.length ([d7] : List Device)) (rec (t6.1, (t6.2.1 ++ ([d7] : List Device)), t6.2.2.1, t6.2.2.2.1, t6.2.2.2.2.1, (w64 (t6.2.2.2.2.2.1 + 1)), ())))) (K (t6.1, t6.2.1, t6.2.2.1, t6.2.2.2.1, t6.2.2.2.2.1, t6.2.2.2.2.2.1, ()))
noncomputable def F164 (f103 : List Device × Unit → Option (Bool × Unit)) (f151 : Device × Unit → Option (Bool × Unit)) (f193 : List Device × Str × Unit → Option (Int × Unit)) (f152 : List Device × Device × Unit → Option (Bool × Unit)) (f206 : List Device × Unit → Option (List Device × Unit)) (a : List Device × Device × Unit) : Option (List Device × Bool × Unit) :=
  (f103 (a.1, ())).bind fun x1 => cond (!(!x1.1)) ((f151 (a.2.1, ())).bind fun x2 => cond (!(!x2.1)) ((f193 (a.1, a.2.1.Name, ())).bind fun x3 => cond (!(decide (x3.1 ≥ 0))) (cond (!(decide ((Int.ofNat (List.length a.1)) = 8))) ((f152 (a.1, a.2.1, ())).bind fun x4 => cond (!x4.1) ((f206 (a.1, ())).bind fun x5 => some (x5.1, false, ())) (iterF (s164_0 f103 f151 f193 f152 f206) fuel (a.2.1, ([] : List Device), false, a.1, (Int.ofNat (List.length a.1)), 0, ()) fun t8 => cond (!t8.2.2.1) (capK (List.length t8.2.1 + List.length ([t8.1] : List Device)) (some ((t8.2.1 ++ ([t8.1] : List Device)), true, ()))) (some (t8.2.1, true, ())))) ((f206 (a.1, ())).bind fun x9 => some (x9.1, false, ()))) ((f206 (a.1, ())).bind fun x10 => some (x10.1, false, ()))) ((f206 (a.1, ())).bind fun x11 => some (x11.1, false, ()))) ((f206 (a.1, ())).bind fun x12 => some (x12.1, false, ()))
def E164 (f103 : List Device × Unit → Option (Bool × Unit)) (f151 : Device × Unit → Option (Bool × Unit)) (f193 : List Device × Str × Unit → Option (Int × Unit)) (f152 : List Device × Device × Unit → Option (Bool × Unit)) (f206 : List Device × Unit → Option (List Device × Unit)) : Env := envL [(103, mkE p103 r103 false f103), (151, mkE p151 r151 false f151), (193, mkE p193 r193 false f193), (152, mkE p152 r152 false f152), (206, mkE p206 r206 false f206)]
noncomputable def L164 (f103 : List Device × Unit → Option (Bool × Unit)) (f151 : Device × Unit → Option (Bool × Unit)) (f193 : List Device × Str × Unit → Option (Int × Unit)) (f152 : List Device × Device × Unit → Option (Bool × Unit)) (f206 : List Device × Unit → Option (List Device × Unit)) : LEnv (densS (muts p164 ++ r164)) := lenv [(0, loopL (R := densS (muts p164 ++ r164)) q164_0 (s164_0 f103 f151 f193 f152 f206))]
theorem e164_0 (f103 : List Device × Unit → Option (Bool × Unit)) (f151 : Device × Unit → Option (Bool × Unit)) (f193 : List Device × Str × Unit → Option (Int × Unit)) (f152 : List Device × Device × Unit → Option (Bool × Unit)) (f206 : List Device × Unit → Option (List Device × Unit)) (X : Nat → St → Option (densS (muts p164 ++ r164))) (rec K : densS q164_0 → Option (densS (muts p164 ++ r164))) (t : densS q164_0) :
    ev (E164 f103 f151 f193 f152 f206) tab (fun _ => false) (L164 f103 f151 f193 f152 f206) (retK tab p164 r164 Proofs.Tryz.f164.results.toList) (loopC Proofs.Tryz.f164 0) (fun i s => cond (Nat.beq i 0) (decK 100 q164_0 s K) (X i s)) (fun s => decK 100 q164_0 s rec) (enc q164_0 t) = s164_0 f103 f151 f193 f152 f206 t rec K := by kernel_rfl
theorem e164 (f103 : List Device × Unit → Option (Bool × Unit)) (f151 : Device × Unit → Option (Bool × Unit)) (f193 : List Device × Str × Unit → Option (Int × Unit)) (f152 : List Device × Device × Unit → Option (Bool × Unit)) (f206 : List Device × Unit → Option (List Device × Unit)) (a : densS p164) : runF (E164 f103 f151 f193 f152 f206) tab (fun _ => false) p164 r164 Proofs.Tryz.f164 (L164 f103 f151 f193 f152 f206) a = F164 f103 f151 f193 f152 f206 a := by kernel_rfl
theorem ok164 {f103 : List Device × Unit → Option (Bool × Unit)} {f151 : Device × Unit → Option (Bool × Unit)} {f193 : List Device × Str × Unit → Option (Int × Unit)} {f152 : List Device × Device × Unit → Option (Bool × Unit)} {f206 : List Device × Unit → Option (List Device × Unit)} (h103 : OK Proofs.Tryz.prog 103 (mkE p103 r103 false f103)) (h151 : OK Proofs.Tryz.prog 151 (mkE p151 r151 false f151)) (h193 : OK Proofs.Tryz.prog 193 (mkE p193 r193 false f193)) (h152 : OK Proofs.Tryz.prog 152 (mkE p152 r152 false f152)) (h206 : OK Proofs.Tryz.prog 206 (mkE p206 r206 false f206)) : OK Proofs.Tryz.prog 164 (mkE p164 r164 false (F164 f103 f151 f193 f152 f206)) :=
  fn_ok tab_ok (envL_ok (l := [(103, mkE p103 r103 false f103), (151, mkE p151 r151 false f151), (193, mkE p193 r193 false f193), (152, mkE p152 r152 false f152), (206, mkE p206 r206 false f206)]) (OKs.cons h103 (OKs.cons h151 (OKs.cons h193 (OKs.cons h152 (OKs.cons h206 OKs.nil)))))) mixed (ann := (fun _ => false)) (L := L164 f103 f151 f193 f152 f206) (fn := Proofs.Tryz.f164) (c := bodyC Proofs.Tryz.f164) (ls := [(0, loopC Proofs.Tryz.f164 0)]) Proofs.Tryz.func164 (by kernel_rfl) (by kernel_rfl) (by kernel_rfl) (by kernel_rfl)
    (LoopsP.cons q164_0 (s164_0 f103 f151 f193 f152 f206) rfl (e164_0 f103 f151 f193 f152 f206) LoopsP.nil) (e164 f103 f151 f193 f152 f206)
/-! spec.l1Str -/
def p166 : List SP := [.box 0 [.r .u8, .int .i64, .int .i64], .one (.r .str)]
def r166 : List SP := [.one (.str)]
noncomputable def F166 (f84 : CuD × Int × Unit → Option (CuD × Int × Unit)) (a : CuD × List Str × Unit) : Option (CuD × Str × Unit) :=
  (f84 ((a.1.1, a.1.2.1, a.1.2.2.1, ()), (Int.ofNat (List.length a.2.1)), ())).bind fun x1 => rdL a.2.1 x1.2.1 fun d2 => some ((x1.1.1, x1.1.2.1, x1.1.2.2.1, ()), d2, ())
def E166 (f84 : CuD × Int × Unit → Option (CuD × Int × Unit)) : Env := envL [(84, mkE p84 r84 true f84)]
noncomputable def L166 (f84 : CuD × Int × Unit → Option (CuD × Int × Unit)) : LEnv (densS (muts p166 ++ r166)) := lenv []
theorem e166 (f84 : CuD × Int × Unit → Option (CuD × Int × Unit)) (a : densS p166) : runF (E166 f84) tab (fun _ => false) p166 r166 Proofs.Tryz.f166 (L166 f84) a = F166 f84 a := by kernel_rfl
theorem ok166 {f84 : CuD × Int × Unit → Option (CuD × Int × Unit)} (h84 : OK Proofs.Tryz.prog 84 (mkE p84 r84 true f84)) : OK Proofs.Tryz.prog 166 (mkE p166 r166 true (F166 f84)) :=
  fn_ok tab_ok (envL_ok (l := [(84, mkE p84 r84 true f84)]) (OKs.cons h84 OKs.nil)) mixed (ann := (fun _ => false)) (L := L166 f84) (fn := Proofs.Tryz.f166) (c := bodyC Proofs.Tryz.f166) (ls := []) Proofs.Tryz.func166 (by kernel_rfl) (by kernel_rfl) (by kernel_rfl) (by kernel_rfl)
    LoopsP.nil (e166 f84)
/-! spec.l1Some -/
def p171 : List SP := [.box 0 [.r .u8, .int .i64, .int .i64], .one (.int .i64), .one (.int .i64)]
def r171 : List SP := [.one (.int .i64)]
noncomputable def F171 (f84 : CuD × Int × Unit → Option (CuD × Int × Unit)) (a : CuD × Int × Int × Unit) : Option (CuD × Int × Unit) :=
  (f84 ((a.1.1, a.1.2.1, a.1.2.2.1, ()), (w64 ((w64 (a.2.2.1 - a.2.1)) + 1)), ())).bind fun x1 => some ((x1.1.1, x1.1.2.1, x1.1.2.2.1, ()), (w64 (a.2.1 + x1.2.1)), ())
def E171 (f84 : CuD × Int × Unit → Option (CuD × Int × Unit)) : Env := envL [(84, mkE p84 r84 true f84)]
noncomputable def L171 (f84 : CuD × Int × Unit → Option (CuD × Int × Unit)) : LEnv (densS (muts p171 ++ r171)) := lenv []
theorem e171 (f84 : CuD × Int × Unit → Option (CuD × Int × Unit)) (a : densS p171) : runF (E171 f84) tab (fun _ => false) p171 r171 Proofs.Tryz.f171 (L171 f84) a = F171 f84 a := by kernel_rfl
theorem ok171 {f84 : CuD × Int × Unit → Option (CuD × Int × Unit)} (h84 : OK Proofs.Tryz.prog 84 (mkE p84 r84 true f84)) : OK Proofs.Tryz.prog 171 (mkE p171 r171 true (F171 f84)) :=
  fn_ok tab_ok (envL_ok (l := [(84, mkE p84 r84 true f84)]) (OKs.cons h84 OKs.nil)) mixed (ann := (fun _ => false)) (L := L171 f84) (fn := Proofs.Tryz.f171) (c := bodyC Proofs.Tryz.f171) (ls := []) Proofs.Tryz.func171 (by kernel_rfl) (by kernel_rfl) (by kernel_rfl) (by kernel_rfl)
    LoopsP.nil (e171 f84)
/-! spec.l2Draw -/
def p167 : List SP := [.box 0 [.r .u8, .int .i64, .int .i64]]
def r167 : List SP := [.t .place]
noncomputable def F167 (f171 : CuD × Int × Int × Unit → Option (CuD × Int × Unit)) (a : CuD × Unit) : Option (CuD × Place × Unit) :=
  (f171 ((a.1.1, a.1.2.1, a.1.2.2.1, ()), (-64), 64, ())).bind fun x1 => (f171 ((x1.1.1, x1.1.2.1, x1.1.2.2.1, ()), (-64), 64, ())).bind fun x2 => some ((x2.1.1, x2.1.2.1, x2.1.2.2.1, ()), (⟨x1.2.1, x2.2.1⟩ : Place), ())
def E167 (f171 : CuD × Int × Int × Unit → Option (CuD × Int × Unit)) : Env := envL [(171, mkE p171 r171 true f171)]
noncomputable def L167 (f171 : CuD × Int × Int × Unit → Option (CuD × Int × Unit)) : LEnv (densS (muts p167 ++ r167)) := lenv []
theorem e167 (f171 : CuD × Int × Int × Unit → Option (CuD × Int × Unit)) (a : densS p167) : runF (E167 f171) tab (fun _ => false) p167 r167 Proofs.Tryz.f167 (L167 f171) a = F167 f171 a := by kernel_rfl
theorem ok167 {f171 : CuD × Int × Int × Unit → Option (CuD × Int × Unit)} (h171 : OK Proofs.Tryz.prog 171 (mkE p171 r171 true f171)) : OK Proofs.Tryz.prog 167 (mkE p167 r167 true (F167 f171)) :=
  fn_ok tab_ok (envL_ok (l := [(171, mkE p171 r171 true f171)]) (OKs.cons h171 OKs.nil)) mixed (ann := (fun _ => false)) (L := L167 f171) (fn := Proofs.Tryz.f167) (c := bodyC Proofs.Tryz.f167) (ls := []) Proofs.Tryz.func167 (by kernel_rfl) (by kernel_rfl) (by kernel_rfl) (by kernel_rfl)
    LoopsP.nil (e167 f171)
/-! spec.l3Draw -/
def p207 : List SP := [.box 0 [.r .u8, .int .i64, .int .i64]]
def r207 : List SP := [.t .jet]
noncomputable def F207 (f167 : CuD × Unit → Option (CuD × Place × Unit)) (f84 : CuD × Int × Unit → Option (CuD × Int × Unit)) (f171 : CuD × Int × Int × Unit → Option (CuD × Int × Unit)) (a : CuD × Unit) : Option (CuD × Jet × Unit) :=
  (f167 ((a.1.1, a.1.2.1, a.1.2.2.1, ()), ())).bind fun x1 => (f84 ((x1.1.1, x1.1.2.1, x1.1.2.2.1, ()), 4, ())).bind fun x2 => (f84 ((x2.1.1, x2.1.2.1, x2.1.2.2.1, ()), 17, ())).bind fun x3 => (f171 ((x3.1.1, x3.1.2.1, x3.1.2.2.1, ()), 1, 32, ())).bind fun x4 => some ((x4.1.1, x4.1.2.1, x4.1.2.2.1, ()), (⟨⟨x1.2.1.X, x1.2.1.Y⟩, x2.2.1, x3.2.1, x4.2.1⟩ : Jet), ())
def E207 (f167 : CuD × Unit → Option (CuD × Place × Unit)) (f84 : CuD × Int × Unit → Option (CuD × Int × Unit)) (f171 : CuD × Int × Int × Unit → Option (CuD × Int × Unit)) : Env := envL [(167, mkE p167 r167 true f167), (84, mkE p84 r84 true f84), (171, mkE p171 r171 true f171)]
noncomputable def L207 (f167 : CuD × Unit → Option (CuD × Place × Unit)) (f84 : CuD × Int × Unit → Option (CuD × Int × Unit)) (f171 : CuD × Int × Int × Unit → Option (CuD × Int × Unit)) : LEnv (densS (muts p207 ++ r207)) := lenv []
theorem e207 (f167 : CuD × Unit → Option (CuD × Place × Unit)) (f84 : CuD × Int × Unit → Option (CuD × Int × Unit)) (f171 : CuD × Int × Int × Unit → Option (CuD × Int × Unit)) (a : densS p207) : runF (E207 f167 f84 f171) tab (fun _ => false) p207 r207 Proofs.Tryz.f207 (L207 f167 f84 f171) a = F207 f167 f84 f171 a := by kernel_rfl
theorem ok207 {f167 : CuD × Unit → Option (CuD × Place × Unit)} {f84 : CuD × Int × Unit → Option (CuD × Int × Unit)} {f171 : CuD × Int × Int × Unit → Option (CuD × Int × Unit)} (h167 : OK Proofs.Tryz.prog 167 (mkE p167 r167 true f167)) (h84 : OK Proofs.Tryz.prog 84 (mkE p84 r84 true f84)) (h171 : OK Proofs.Tryz.prog 171 (mkE p171 r171 true f171)) : OK Proofs.Tryz.prog 207 (mkE p207 r207 true (F207 f167 f84 f171)) :=
  fn_ok tab_ok (envL_ok (l := [(167, mkE p167 r167 true f167), (84, mkE p84 r84 true f84), (171, mkE p171 r171 true f171)]) (OKs.cons h167 (OKs.cons h84 (OKs.cons h171 OKs.nil)))) mixed (ann := (fun _ => false)) (L := L207 f167 f84 f171) (fn := Proofs.Tryz.f207) (c := bodyC Proofs.Tryz.f207) (ls := []) Proofs.Tryz.func207 (by kernel_rfl) (by kernel_rfl) (by kernel_rfl) (by kernel_rfl)
    LoopsP.nil (e207 f167 f84 f171)
/-! spec.l6Nozzle -/
def p165 : List SP := [.box 0 [.r .u8, .int .i64, .int .i64], .one (.str), .one (.str)]
def r165 : List SP := [.t .device]
noncomputable def F165 (f207 : CuD × Unit → Option (CuD × Jet × Unit)) (f171 : CuD × Int × Int × Unit → Option (CuD × Int × Unit)) (a : CuD × Str × Str × Unit) : Option (CuD × Device × Unit) :=
  (f207 ((a.1.1, a.1.2.1, a.1.2.2.1, ()), ())).bind fun x1 => (f171 ((x1.1.1, x1.1.2.1, x1.1.2.2.1, ()), 0, 32, ())).bind fun x2 => some ((x2.1.1, x2.1.2.1, x2.1.2.2.1, ()), (⟨a.2.1, 2, a.2.2.1, ⟨x1.2.1.At.X, x1.2.1.At.Y⟩, x1.2.1.Heading, x1.2.1.Tilt, x2.2.1⟩ : Device), ())
def E165 (f207 : CuD × Unit → Option (CuD × Jet × Unit)) (f171 : CuD × Int × Int × Unit → Option (CuD × Int × Unit)) : Env := envL [(207, mkE p207 r207 true f207), (171, mkE p171 r171 true f171)]
noncomputable def L165 (f207 : CuD × Unit → Option (CuD × Jet × Unit)) (f171 : CuD × Int × Int × Unit → Option (CuD × Int × Unit)) : LEnv (densS (muts p165 ++ r165)) := lenv []
theorem e165 (f207 : CuD × Unit → Option (CuD × Jet × Unit)) (f171 : CuD × Int × Int × Unit → Option (CuD × Int × Unit)) (a : densS p165) : runF (E165 f207 f171) tab (fun n => Nat.beq n 1200000 || Nat.beq n 1299999) p165 r165 Proofs.Tryz.f165 (L165 f207 f171) a = F165 f207 f171 a := by kernel_rfl
theorem ok165 {f207 : CuD × Unit → Option (CuD × Jet × Unit)} {f171 : CuD × Int × Int × Unit → Option (CuD × Int × Unit)} (h207 : OK Proofs.Tryz.prog 207 (mkE p207 r207 true f207)) (h171 : OK Proofs.Tryz.prog 171 (mkE p171 r171 true f171)) : OK Proofs.Tryz.prog 165 (mkE p165 r165 true (F165 f207 f171)) :=
  fn_ok tab_ok (envL_ok (l := [(207, mkE p207 r207 true f207), (171, mkE p171 r171 true f171)]) (OKs.cons h207 (OKs.cons h171 OKs.nil))) mixed (ann := (fun n => Nat.beq n 1200000 || Nat.beq n 1299999)) (L := L165 f207 f171) (fn := Proofs.Tryz.f165) (c := bodyC Proofs.Tryz.f165) (ls := []) Proofs.Tryz.func165 (by kernel_rfl) (by kernel_rfl) (by kernel_rfl) (by kernel_rfl)
    LoopsP.nil (e165 f207 f171)
/-! spec.l1Once -/
def p101 : List SP := [.box 0 [.r .u8, .int .i64, .int .i64], .one (.int .i64)]
def r101 : List SP := [.one (.bool)]
noncomputable def F101 (f84 : CuD × Int × Unit → Option (CuD × Int × Unit)) (a : CuD × Int × Unit) : Option (CuD × Bool × Unit) :=
  (f84 ((a.1.1, a.1.2.1, a.1.2.2.1, ()), a.2.1, ())).bind fun x1 => some ((x1.1.1, x1.1.2.1, x1.1.2.2.1, ()), (decide (x1.2.1 = 0)), ())
def E101 (f84 : CuD × Int × Unit → Option (CuD × Int × Unit)) : Env := envL [(84, mkE p84 r84 true f84)]
noncomputable def L101 (f84 : CuD × Int × Unit → Option (CuD × Int × Unit)) : LEnv (densS (muts p101 ++ r101)) := lenv []
theorem e101 (f84 : CuD × Int × Unit → Option (CuD × Int × Unit)) (a : densS p101) : runF (E101 f84) tab (fun _ => false) p101 r101 Proofs.Tryz.f101 (L101 f84) a = F101 f84 a := by kernel_rfl
theorem ok101 {f84 : CuD × Int × Unit → Option (CuD × Int × Unit)} (h84 : OK Proofs.Tryz.prog 84 (mkE p84 r84 true f84)) : OK Proofs.Tryz.prog 101 (mkE p101 r101 true (F101 f84)) :=
  fn_ok tab_ok (envL_ok (l := [(84, mkE p84 r84 true f84)]) (OKs.cons h84 OKs.nil)) mixed (ann := (fun _ => false)) (L := L101 f84) (fn := Proofs.Tryz.f101) (c := bodyC Proofs.Tryz.f101) (ls := []) Proofs.Tryz.func101 (by kernel_rfl) (by kernel_rfl) (by kernel_rfl) (by kernel_rfl)
    LoopsP.nil (e101 f84)
/-! spec.l6Draw -/
def p114 : List SP := [.box 0 [.r .u8, .int .i64, .int .i64]]
def r114 : List SP := [.one (.o 1 .device)]
def q114_0 : List SP := pat 76 0 [(0, .box 0 [.r .u8, .int .i64, .int .i64]), (3, .one (.o 5000001 .device)), (4, .one (.r .str)), (16, .one (.r .str)), (17, .one (.int .i64)), (18, .one (.int .i64))]
noncomputable def s114_0 (f84 : CuD × Int × Unit → Option (CuD × Int × Unit)) (f164 : List Device × Device × Unit → Option (List Device × Bool × Unit)) (f166 : CuD × List Str × Unit → Option (CuD × Str × Unit)) (f165 : CuD × Str × Str × Unit → Option (CuD × Device × Unit)) (f101 : CuD × Int × Unit → Option (CuD × Bool × Unit)) (f167 : CuD × Unit → Option (CuD × Place × Unit)) (t2 : CuD × List Device × List Str × List Str × Int × Int × Unit) (rec K : CuD × List Device × List Str × List Str × Int × Int × Unit → Option (CuD × List Device × Unit)) : Option (CuD × List Device × Unit) :=
  cond (decide (t2.2.2.2.2.2.1 < t2.2.2.2.2.1)) (rdL t2.2.2.2.1 t2.2.2.2.2.2.1 fun d3 => (f84 ((t2.1.1, t2.1.2.1, t2.1.2.2.1, ()), 80, ())).bind fun x4 => (f164 (t2.2.1, (⟨d3, 1, [], ⟨0, 0⟩, 0, 0, x4.2.1⟩ : Device), ())).bind fun x5 => rec ((x4.1.1, x4.1.2.1, x4.1.2.2.1, ()), x5.1, t2.2.2.1, t2.2.2.2.1, t2.2.2.2.2.1, (w64 (t2.2.2.2.2.2.1 + 1)), ())) (K ((t2.1.1, t2.1.2.1, t2.1.2.2.1, ()), t2.2.1, t2.2.2.1, t2.2.2.2.1, t2.2.2.2.2.1, t2.2.2.2.2.2.1, ()))
def q114_2 : List SP := pat 76 0 [(0, .box 0 [.r .u8, .int .i64, .int .i64]), (3, .one (.o 5002001 .device)), (4, .one (.r .str)), (7, .one (.r .str)), (36, .one (.r .str)), (37, .one (.int .i64)), (38, .one (.int .i64))]
noncomputable def s114_2 (f84 : CuD × Int × Unit → Option (CuD × Int × Unit)) (f164 : List Device × Device × Unit → Option (List Device × Bool × Unit)) (f166 : CuD × List Str × Unit → Option (CuD × Str × Unit)) (f165 : CuD × Str × Str × Unit → Option (CuD × Device × Unit)) (f101 : CuD × Int × Unit → Option (CuD × Bool × Unit)) (f167 : CuD × Unit → Option (CuD × Place × Unit)) (t8 : CuD × List Device × List Str × List Str × List Str × Int × Int × Unit) (rec K : CuD × List Device × List Str × List Str × List Str × Int × Int × Unit → Option (CuD × List Device × Unit)) : Option (CuD × List Device × Unit) :=
  cond (decide (t8.2.2.2.2.2.2.1 < t8.2.2.2.2.2.1)) (rdL t8.2.2.2.2.1 t8.2.2.2.2.2.2.1 fun d9 => (f166 ((t8.1.1, t8.1.2.1, t8.1.2.2.1, ()), t8.2.2.1, ())).bind fun x10 => (f165 ((x10.1.1, x10.1.2.1, x10.1.2.2.1, ()), d9, x10.2.1, ())).bind fun x11 => (f164 (t8.2.1, x11.2.1, ())).bind fun x12 => rec ((x11.1.1, x11.1.2.1, x11.1.2.2.1, ()), x12.1, t8.2.2.1, t8.2.2.2.1, t8.2.2.2.2.1, t8.2.2.2.2.2.1, (w64 (t8.2.2.2.2.2.2.1 + 1)), ())) (K ((t8.1.1, t8.1.2.1, t8.1.2.2.1, ()), t8.2.1, t8.2.2.1, t8.2.2.2.1, t8.2.2.2.2.1, t8.2.2.2.2.2.1, t8.2.2.2.2.2.2.1, ()))
noncomputable def F114 (f84 : CuD × Int × Unit → Option (CuD × Int × Unit)) (f164 : List Device × Device × Unit → Option (List Device × Bool × Unit)) (f166 : CuD × List Str × Unit → Option (CuD × Str × Unit)) (f165 : CuD × Str × Str × Unit → Option (CuD × Device × Unit)) (f101 : CuD × Int × Unit → Option (CuD × Bool × Unit)) (f167 : CuD × Unit → Option (CuD × Place × Unit)) (a : CuD × Unit) : Option (CuD × List Device × Unit) :=
  (f84 ((a.1.1, a.1.2.1, a.1.2.2.1, ()), 2, ())).bind fun x1 => okIf (0 ≤ (w64 (1 + x1.2.1)) ∧ (w64 (1 + x1.2.1)) ≤ List.length ([[112], [113]] : List Str)) (iterF (s114_0 f84 f164 f166 f165 f101 f167) fuel ((x1.1.1, x1.1.2.1, x1.1.2.2.1, ()), ([] : List Device), (List.drop 0 (List.take (Int.toNat (w64 (1 + x1.2.1))) ([[112], [113]] : List Str))), (List.drop 0 (List.take (Int.toNat (w64 (1 + x1.2.1))) ([[112], [113]] : List Str))), (Int.ofNat ((Int.toNat (w64 (1 + x1.2.1))) - 0)), 0, ()) fun t6 => (f84 ((t6.1.1, t6.1.2.1, t6.1.2.2.1, ()), 5, ())).bind fun x7 => okIf (0 ≤ x7.2.1 ∧ x7.2.1 ≤ List.length ([[97], [98], [99], [114]] : List Str)) (iterF (s114_2 f84 f164 f166 f165 f101 f167) fuel ((x7.1.1, x7.1.2.1, x7.1.2.2.1, ()), t6.2.1, t6.2.2.1, (List.drop 0 (List.take (Int.toNat x7.2.1) ([[97], [98], [99], [114]] : List Str))), (List.drop 0 (List.take (Int.toNat x7.2.1) ([[97], [98], [99], [114]] : List Str))), (Int.ofNat ((Int.toNat x7.2.1) - 0)), 0, ()) fun t13 => cond (decide ((Int.ofNat (List.length t13.2.2.2.1)) > 0)) ((f101 ((t13.1.1, t13.1.2.1, t13.1.2.2.1, ()), 2, ())).bind fun x14 => cond x14.2.1 ((f166 ((x14.1.1, x14.1.2.1, x14.1.2.2.1, ()), ([[108, 97, 109, 112], [122]] : List Str), ())).bind fun x15 => (f166 ((x15.1.1, x15.1.2.1, x15.1.2.2.1, ()), t13.2.2.2.1, ())).bind fun x16 => (f167 ((x16.1.1, x16.1.2.1, x16.1.2.2.1, ()), ())).bind fun x17 => (f164 (t13.2.1, (⟨x15.2.1, 3, x16.2.1, ⟨x17.2.1.X, x17.2.1.Y⟩, 0, 0, 0⟩ : Device), ())).bind fun x18 => some ((x17.1.1, x17.1.2.1, x17.1.2.2.1, ()), x18.1, ())) (some ((x14.1.1, x14.1.2.1, x14.1.2.2.1, ()), t13.2.1, ()))) (some ((t13.1.1, t13.1.2.1, t13.1.2.2.1, ()), t13.2.1, ()))))
def E114 (f84 : CuD × Int × Unit → Option (CuD × Int × Unit)) (f164 : List Device × Device × Unit → Option (List Device × Bool × Unit)) (f166 : CuD × List Str × Unit → Option (CuD × Str × Unit)) (f165 : CuD × Str × Str × Unit → Option (CuD × Device × Unit)) (f101 : CuD × Int × Unit → Option (CuD × Bool × Unit)) (f167 : CuD × Unit → Option (CuD × Place × Unit)) : Env := envL [(84, mkE p84 r84 true f84), (164, mkE p164 r164 false f164), (166, mkE p166 r166 true f166), (165, mkE p165 r165 true f165), (101, mkE p101 r101 true f101), (167, mkE p167 r167 true f167)]
noncomputable def L114 (f84 : CuD × Int × Unit → Option (CuD × Int × Unit)) (f164 : List Device × Device × Unit → Option (List Device × Bool × Unit)) (f166 : CuD × List Str × Unit → Option (CuD × Str × Unit)) (f165 : CuD × Str × Str × Unit → Option (CuD × Device × Unit)) (f101 : CuD × Int × Unit → Option (CuD × Bool × Unit)) (f167 : CuD × Unit → Option (CuD × Place × Unit)) : LEnv (densS (muts p114 ++ r114)) := lenv [(0, loopL (R := densS (muts p114 ++ r114)) q114_0 (s114_0 f84 f164 f166 f165 f101 f167)), (2, loopL (R := densS (muts p114 ++ r114)) q114_2 (s114_2 f84 f164 f166 f165 f101 f167))]
theorem e114_0 (f84 : CuD × Int × Unit → Option (CuD × Int × Unit)) (f164 : List Device × Device × Unit → Option (List Device × Bool × Unit)) (f166 : CuD × List Str × Unit → Option (CuD × Str × Unit)) (f165 : CuD × Str × Str × Unit → Option (CuD × Device × Unit)) (f101 : CuD × Int × Unit → Option (CuD × Bool × Unit)) (f167 : CuD × Unit → Option (CuD × Place × Unit)) (X : Nat → St → Option (densS (muts p114 ++ r114))) (rec K : densS q114_0 → Option (densS (muts p114 ++ r114))) (t : densS q114_0) :
    ev (E114 f84 f164 f166 f165 f101 f167) tab (fun _ => false) (L114 f84 f164 f166 f165 f101 f167) (retK tab p114 r114 Proofs.Tryz.f114.results.toList) (loopC Proofs.Tryz.f114 0) (fun i s => cond (Nat.beq i 0) (decK 100 q114_0 s K) (X i s)) (fun s => decK 100 q114_0 s rec) (enc q114_0 t) = s114_0 f84 f164 f166 f165 f101 f167 t rec K := by kernel_rfl
theorem e114_2 (f84 : CuD × Int × Unit → Option (CuD × Int × Unit)) (f164 : List Device × Device × Unit → Option (List Device × Bool × Unit)) (f166 : CuD × List Str × Unit → Option (CuD × Str × Unit)) (f165 : CuD × Str × Str × Unit → Option (CuD × Device × Unit)) (f101 : CuD × Int × Unit → Option (CuD × Bool × Unit)) (f167 : CuD × Unit → Option (CuD × Place × Unit)) (X : Nat → St → Option (densS (muts p114 ++ r114))) (rec K : densS q114_2 → Option (densS (muts p114 ++ r114))) (t : densS q114_2) :
    ev (E114 f84 f164 f166 f165 f101 f167) tab (fun _ => false) (L114 f84 f164 f166 f165 f101 f167) (retK tab p114 r114 Proofs.Tryz.f114.results.toList) (loopC Proofs.Tryz.f114 1) (fun i s => cond (Nat.beq i 2) (decK 100 q114_2 s K) (X i s)) (fun s => decK 100 q114_2 s rec) (enc q114_2 t) = s114_2 f84 f164 f166 f165 f101 f167 t rec K := by kernel_rfl
theorem e114 (f84 : CuD × Int × Unit → Option (CuD × Int × Unit)) (f164 : List Device × Device × Unit → Option (List Device × Bool × Unit)) (f166 : CuD × List Str × Unit → Option (CuD × Str × Unit)) (f165 : CuD × Str × Str × Unit → Option (CuD × Device × Unit)) (f101 : CuD × Int × Unit → Option (CuD × Bool × Unit)) (f167 : CuD × Unit → Option (CuD × Place × Unit)) (a : densS p114) : runF (E114 f84 f164 f166 f165 f101 f167) tab (fun _ => false) p114 r114 Proofs.Tryz.f114 (L114 f84 f164 f166 f165 f101 f167) a = F114 f84 f164 f166 f165 f101 f167 a := by kernel_rfl
theorem ok114 {f84 : CuD × Int × Unit → Option (CuD × Int × Unit)} {f164 : List Device × Device × Unit → Option (List Device × Bool × Unit)} {f166 : CuD × List Str × Unit → Option (CuD × Str × Unit)} {f165 : CuD × Str × Str × Unit → Option (CuD × Device × Unit)} {f101 : CuD × Int × Unit → Option (CuD × Bool × Unit)} {f167 : CuD × Unit → Option (CuD × Place × Unit)} (h84 : OK Proofs.Tryz.prog 84 (mkE p84 r84 true f84)) (h164 : OK Proofs.Tryz.prog 164 (mkE p164 r164 false f164)) (h166 : OK Proofs.Tryz.prog 166 (mkE p166 r166 true f166)) (h165 : OK Proofs.Tryz.prog 165 (mkE p165 r165 true f165)) (h101 : OK Proofs.Tryz.prog 101 (mkE p101 r101 true f101)) (h167 : OK Proofs.Tryz.prog 167 (mkE p167 r167 true f167)) : OK Proofs.Tryz.prog 114 (mkE p114 r114 true (F114 f84 f164 f166 f165 f101 f167)) :=
  fn_ok tab_ok (envL_ok (l := [(84, mkE p84 r84 true f84), (164, mkE p164 r164 false f164), (166, mkE p166 r166 true f166), (165, mkE p165 r165 true f165), (101, mkE p101 r101 true f101), (167, mkE p167 r167 true f167)]) (OKs.cons h84 (OKs.cons h164 (OKs.cons h166 (OKs.cons h165 (OKs.cons h101 (OKs.cons h167 OKs.nil))))))) mixed (ann := (fun _ => false)) (L := L114 f84 f164 f166 f165 f101 f167) (fn := Proofs.Tryz.f114) (c := bodyC Proofs.Tryz.f114) (ls := [(0, loopC Proofs.Tryz.f114 0), (2, loopC Proofs.Tryz.f114 1)]) Proofs.Tryz.func114 (by kernel_rfl) (by kernel_rfl) (by kernel_rfl) (by kernel_rfl)
    (LoopsP.cons q114_0 (s114_0 f84 f164 f166 f165 f101 f167) rfl (e114_0 f84 f164 f166 f165 f101 f167) (LoopsP.cons q114_2 (s114_2 f84 f164 f166 f165 f101 f167) rfl (e114_2 f84 f164 f166 f165 f101 f167) LoopsP.nil)) (e114 f84 f164 f166 f165 f101 f167)
/-! spec.l1Int -/
def p141 : List SP := [.box 0 [.r .u8, .int .i64, .int .i64], .one (.r .int)]
def r141 : List SP := [.one (.int .i64)]
noncomputable def F141 (f84 : CuD × Int × Unit → Option (CuD × Int × Unit)) (a : CuD × List Int × Unit) : Option (CuD × Int × Unit) :=
  (f84 ((a.1.1, a.1.2.1, a.1.2.2.1, ()), (Int.ofNat (List.length a.2.1)), ())).bind fun x1 => rdL a.2.1 x1.2.1 fun d2 => some ((x1.1.1, x1.1.2.1, x1.1.2.2.1, ()), d2, ())
def E141 (f84 : CuD × Int × Unit → Option (CuD × Int × Unit)) : Env := envL [(84, mkE p84 r84 true f84)]
noncomputable def L141 (f84 : CuD × Int × Unit → Option (CuD × Int × Unit)) : LEnv (densS (muts p141 ++ r141)) := lenv []
theorem e141 (f84 : CuD × Int × Unit → Option (CuD × Int × Unit)) (a : densS p141) : runF (E141 f84) tab (fun _ => false) p141 r141 Proofs.Tryz.f141 (L141 f84) a = F141 f84 a := by kernel_rfl
theorem ok141 {f84 : CuD × Int × Unit → Option (CuD × Int × Unit)} (h84 : OK Proofs.Tryz.prog 84 (mkE p84 r84 true f84)) : OK Proofs.Tryz.prog 141 (mkE p141 r141 true (F141 f84)) :=
  fn_ok tab_ok (envL_ok (l := [(84, mkE p84 r84 true f84)]) (OKs.cons h84 OKs.nil)) mixed (ann := (fun _ => false)) (L := L141 f84) (fn := Proofs.Tryz.f141) (c := bodyC Proofs.Tryz.f141) (ls := []) Proofs.Tryz.func141 (by kernel_rfl) (by kernel_rfl) (by kernel_rfl) (by kernel_rfl)
    LoopsP.nil (e141 f84)
/-! spec.l4DriftDraw -/
def p118 : List SP := [.box 0 [.r .u8, .int .i64, .int .i64]]
def r118 : List SP := [.t .place]
noncomputable def F118 (f171 : CuD × Int × Int × Unit → Option (CuD × Int × Unit)) (a : CuD × Unit) : Option (CuD × Place × Unit) :=
  (f171 ((a.1.1, a.1.2.1, a.1.2.2.1, ()), (-3), 3, ())).bind fun x1 => (f171 ((x1.1.1, x1.1.2.1, x1.1.2.2.1, ()), (-3), 3, ())).bind fun x2 => some ((x2.1.1, x2.1.2.1, x2.1.2.2.1, ()), (⟨x1.2.1, x2.2.1⟩ : Place), ())
def E118 (f171 : CuD × Int × Int × Unit → Option (CuD × Int × Unit)) : Env := envL [(171, mkE p171 r171 true f171)]
noncomputable def L118 (f171 : CuD × Int × Int × Unit → Option (CuD × Int × Unit)) : LEnv (densS (muts p118 ++ r118)) := lenv []
theorem e118 (f171 : CuD × Int × Int × Unit → Option (CuD × Int × Unit)) (a : densS p118) : runF (E118 f171) tab (fun _ => false) p118 r118 Proofs.Tryz.f118 (L118 f171) a = F118 f171 a := by kernel_rfl
theorem ok118 {f171 : CuD × Int × Int × Unit → Option (CuD × Int × Unit)} (h171 : OK Proofs.Tryz.prog 171 (mkE p171 r171 true f171)) : OK Proofs.Tryz.prog 118 (mkE p118 r118 true (F118 f171)) :=
  fn_ok tab_ok (envL_ok (l := [(171, mkE p171 r171 true f171)]) (OKs.cons h171 OKs.nil)) mixed (ann := (fun _ => false)) (L := L118 f171) (fn := Proofs.Tryz.f118) (c := bodyC Proofs.Tryz.f118) (ls := []) Proofs.Tryz.func118 (by kernel_rfl) (by kernel_rfl) (by kernel_rfl) (by kernel_rfl)
    LoopsP.nil (e118 f171)
/-! spec.l4Draw -/
def p115 : List SP := [.box 0 [.r .u8, .int .i64, .int .i64]]
def r115 : List SP := [.one (.o 1 .gust)]
def q115_0 : List SP := pat 29 0 [(0, .box 0 [.r .u8, .int .i64, .int .i64]), (3, .one (.o 5000001 .gust)), (4, .one (.int .i64)), (5, .one (.int .i64))]
noncomputable def s115_0 (f141 : CuD × List Int × Unit → Option (CuD × Int × Unit)) (f84 : CuD × Int × Unit → Option (CuD × Int × Unit)) (f118 : CuD × Unit → Option (CuD × Place × Unit)) (t3 : CuD × List Gust × Int × Int × Unit) (rec K : CuD × List Gust × Int × Int × Unit → Option (CuD × List Gust × Unit)) : Option (CuD × List Gust × Unit) :=
  cond (decide (t3.2.2.2.1 > 0)) ((f118 ((t3.1.1, t3.1.2.1, t3.1.2.2.1, ()), ())).bind fun x4 => capK (List.length t3.2.1 + List.length ([(⟨t3.2.2.1, ⟨x4.2.1.X, x4.2.1.Y⟩⟩ : Gust)] : List Gust)) ((f84 ((x4.1.1, x4.1.2.1, x4.1.2.2.1, ()), 9, ())).bind fun x5 => rec ((x5.1.1, x5.1.2.1, x5.1.2.2.1, ()), (t3.2.1 ++ ([(⟨t3.2.2.1, ⟨x4.2.1.X, x4.2.1.Y⟩⟩ : Gust)] : List Gust)), (w64 ((w64 (t3.2.2.1 + 1)) + x5.2.1)), (w64 (t3.2.2.2.1 - 1)), ()))) (K ((t3.1.1, t3.1.2.1, t3.1.2.2.1, ()), t3.2.1, t3.2.2.1, t3.2.2.2.1, ()))
noncomputable def F115 (f141 : CuD × List Int × Unit → Option (CuD × Int × Unit)) (f84 : CuD × Int × Unit → Option (CuD × Int × Unit)) (f118 : CuD × Unit → Option (CuD × Place × Unit)) (a : CuD × Unit) : Option (CuD × List Gust × Unit) :=
  (f141 ((a.1.1, a.1.2.1, a.1.2.2.1, ()), ([0, 0, 1, 5] : List Int), ())).bind fun x1 => (f84 ((x1.1.1, x1.1.2.1, x1.1.2.2.1, ()), 6, ())).bind fun x2 => iterF (s115_0 f141 f84 f118) fuel ((x2.1.1, x2.1.2.1, x2.1.2.2.1, ()), ([] : List Gust), x1.2.1, x2.2.1, ()) fun t6 => some ((t6.1.1, t6.1.2.1, t6.1.2.2.1, ()), t6.2.1, ())
def E115 (f141 : CuD × List Int × Unit → Option (CuD × Int × Unit)) (f84 : CuD × Int × Unit → Option (CuD × Int × Unit)) (f118 : CuD × Unit → Option (CuD × Place × Unit)) : Env := envL [(141, mkE p141 r141 true f141), (84, mkE p84 r84 true f84), (118, mkE p118 r118 true f118)]
noncomputable def L115 (f141 : CuD × List Int × Unit → Option (CuD × Int × Unit)) (f84 : CuD × Int × Unit → Option (CuD × Int × Unit)) (f118 : CuD × Unit → Option (CuD × Place × Unit)) : LEnv (densS (muts p115 ++ r115)) := lenv [(0, loopL (R := densS (muts p115 ++ r115)) q115_0 (s115_0 f141 f84 f118))]
theorem e115_0 (f141 : CuD × List Int × Unit → Option (CuD × Int × Unit)) (f84 : CuD × Int × Unit → Option (CuD × Int × Unit)) (f118 : CuD × Unit → Option (CuD × Place × Unit)) (X : Nat → St → Option (densS (muts p115 ++ r115))) (rec K : densS q115_0 → Option (densS (muts p115 ++ r115))) (t : densS q115_0) :
    ev (E115 f141 f84 f118) tab (fun _ => false) (L115 f141 f84 f118) (retK tab p115 r115 Proofs.Tryz.f115.results.toList) (loopC Proofs.Tryz.f115 0) (fun i s => cond (Nat.beq i 0) (decK 100 q115_0 s K) (X i s)) (fun s => decK 100 q115_0 s rec) (enc q115_0 t) = s115_0 f141 f84 f118 t rec K := by kernel_rfl
theorem e115 (f141 : CuD × List Int × Unit → Option (CuD × Int × Unit)) (f84 : CuD × Int × Unit → Option (CuD × Int × Unit)) (f118 : CuD × Unit → Option (CuD × Place × Unit)) (a : densS p115) : runF (E115 f141 f84 f118) tab (fun _ => false) p115 r115 Proofs.Tryz.f115 (L115 f141 f84 f118) a = F115 f141 f84 f118 a := by kernel_rfl
theorem ok115 {f141 : CuD × List Int × Unit → Option (CuD × Int × Unit)} {f84 : CuD × Int × Unit → Option (CuD × Int × Unit)} {f118 : CuD × Unit → Option (CuD × Place × Unit)} (h141 : OK Proofs.Tryz.prog 141 (mkE p141 r141 true f141)) (h84 : OK Proofs.Tryz.prog 84 (mkE p84 r84 true f84)) (h118 : OK Proofs.Tryz.prog 118 (mkE p118 r118 true f118)) : OK Proofs.Tryz.prog 115 (mkE p115 r115 true (F115 f141 f84 f118)) :=
  fn_ok tab_ok (envL_ok (l := [(141, mkE p141 r141 true f141), (84, mkE p84 r84 true f84), (118, mkE p118 r118 true f118)]) (OKs.cons h141 (OKs.cons h84 (OKs.cons h118 OKs.nil)))) mixed (ann := (fun _ => false)) (L := L115 f141 f84 f118) (fn := Proofs.Tryz.f115) (c := bodyC Proofs.Tryz.f115) (ls := [(0, loopC Proofs.Tryz.f115 0)]) Proofs.Tryz.func115 (by kernel_rfl) (by kernel_rfl) (by kernel_rfl) (by kernel_rfl)
    (LoopsP.cons q115_0 (s115_0 f141 f84 f118) rfl (e115_0 f141 f84 f118) LoopsP.nil) (e115 f141 f84 f118)
/-! spec.l7Name -/
def p168 : List SP := [.box 0 [.r .u8, .int .i64, .int .i64]]
def r168 : List SP := [.one (.str)]
noncomputable def F168 (f166 : CuD × List Str × Unit → Option (CuD × Str × Unit)) (a : CuD × Unit) : Option (CuD × Str × Unit) :=
  (f166 ((a.1.1, a.1.2.1, a.1.2.2.1, ()), ([[97], [97], [98], [99], [114], [110, 111]] : List Str), ())).bind fun x1 => some ((x1.1.1, x1.1.2.1, x1.1.2.2.1, ()), x1.2.1, ())
def E168 (f166 : CuD × List Str × Unit → Option (CuD × Str × Unit)) : Env := envL [(166, mkE p166 r166 true f166)]
noncomputable def L168 (f166 : CuD × List Str × Unit → Option (CuD × Str × Unit)) : LEnv (densS (muts p168 ++ r168)) := lenv []
theorem e168 (f166 : CuD × List Str × Unit → Option (CuD × Str × Unit)) (a : densS p168) : runF (E168 f166) tab (fun _ => false) p168 r168 Proofs.Tryz.f168 (L168 f166) a = F168 f166 a := by kernel_rfl
theorem ok168 {f166 : CuD × List Str × Unit → Option (CuD × Str × Unit)} (h166 : OK Proofs.Tryz.prog 166 (mkE p166 r166 true f166)) : OK Proofs.Tryz.prog 168 (mkE p168 r168 true (F168 f166)) :=
  fn_ok tab_ok (envL_ok (l := [(166, mkE p166 r166 true f166)]) (OKs.cons h166 OKs.nil)) mixed (ann := (fun _ => false)) (L := L168 f166) (fn := Proofs.Tryz.f168) (c := bodyC Proofs.Tryz.f168) (ls := []) Proofs.Tryz.func168 (by kernel_rfl) (by kernel_rfl) (by kernel_rfl) (by kernel_rfl)
    LoopsP.nil (e168 f166)
/-! spec.l7Cue -/
def p116 : List SP := [.box 0 [.r .u8, .int .i64, .int .i64]]
def r116 : List SP := [.t .cue]
noncomputable def F116 (f84 : CuD × Int × Unit → Option (CuD × Int × Unit)) (f168 : CuD × Unit → Option (CuD × Str × Unit)) (f141 : CuD × List Int × Unit → Option (CuD × Int × Unit)) (a : CuD × Unit) : Option (CuD × Cue × Unit) :=
  (f84 ((a.1.1, a.1.2.1, a.1.2.2.1, ()), 14, ())).bind fun x1 => (f168 ((x1.1.1, x1.1.2.1, x1.1.2.2.1, ()), ())).bind fun x2 => (f84 ((x2.1.1, x2.1.2.1, x2.1.2.2.1, ()), 33, ())).bind fun x3 => (f141 ((x3.1.1, x3.1.2.1, x3.1.2.2.1, ()), ([0, 0, 1, 2, 3, 5, 8, 16] : List Int), ())).bind fun x4 => some ((x4.1.1, x4.1.2.1, x4.1.2.2.1, ()), (⟨x1.2.1, x2.2.1, x3.2.1, x4.2.1⟩ : Cue), ())
def E116 (f84 : CuD × Int × Unit → Option (CuD × Int × Unit)) (f168 : CuD × Unit → Option (CuD × Str × Unit)) (f141 : CuD × List Int × Unit → Option (CuD × Int × Unit)) : Env := envL [(84, mkE p84 r84 true f84), (168, mkE p168 r168 true f168), (141, mkE p141 r141 true f141)]
noncomputable def L116 (f84 : CuD × Int × Unit → Option (CuD × Int × Unit)) (f168 : CuD × Unit → Option (CuD × Str × Unit)) (f141 : CuD × List Int × Unit → Option (CuD × Int × Unit)) : LEnv (densS (muts p116 ++ r116)) := lenv []
theorem e116 (f84 : CuD × Int × Unit → Option (CuD × Int × Unit)) (f168 : CuD × Unit → Option (CuD × Str × Unit)) (f141 : CuD × List Int × Unit → Option (CuD × Int × Unit)) (a : densS p116) : runF (E116 f84 f168 f141) tab (fun _ => false) p116 r116 Proofs.Tryz.f116 (L116 f84 f168 f141) a = F116 f84 f168 f141 a := by kernel_rfl
theorem ok116 {f84 : CuD × Int × Unit → Option (CuD × Int × Unit)} {f168 : CuD × Unit → Option (CuD × Str × Unit)} {f141 : CuD × List Int × Unit → Option (CuD × Int × Unit)} (h84 : OK Proofs.Tryz.prog 84 (mkE p84 r84 true f84)) (h168 : OK Proofs.Tryz.prog 168 (mkE p168 r168 true f168)) (h141 : OK Proofs.Tryz.prog 141 (mkE p141 r141 true f141)) : OK Proofs.Tryz.prog 116 (mkE p116 r116 true (F116 f84 f168 f141)) :=
  fn_ok tab_ok (envL_ok (l := [(84, mkE p84 r84 true f84), (168, mkE p168 r168 true f168), (141, mkE p141 r141 true f141)]) (OKs.cons h84 (OKs.cons h168 (OKs.cons h141 OKs.nil)))) mixed (ann := (fun _ => false)) (L := L116 f84 f168 f141) (fn := Proofs.Tryz.f116) (c := bodyC Proofs.Tryz.f116) (ls := []) Proofs.Tryz.func116 (by kernel_rfl) (by kernel_rfl) (by kernel_rfl) (by kernel_rfl)
    LoopsP.nil (e116 f84 f168 f141)
/-! spec.CompareCues -/
def p154 : List SP := [.t .cue, .t .cue]
def r154 : List SP := [.one (.int .i64)]
noncomputable def F154 (a : Cue × Cue × Unit) : Option (Int × Unit) :=
  cond (decide (a.1.Tick < a.2.1.Tick)) (cond (decide (a.1.Tick < a.2.1.Tick)) (some ((-1), ())) (cond (decide (a.1.Tick = a.2.1.Tick)) (cond (decide (a.1.Name = a.2.1.Name)) (some (0, ())) (some (1, ()))) (some (1, ())))) (cond (decide (a.1.Tick = a.2.1.Tick)) (cond (Op.bytesLess a.1.Name a.2.1.Name) (some ((-1), ())) (cond (decide (a.1.Tick = a.2.1.Tick)) (cond (decide (a.1.Name = a.2.1.Name)) (some (0, ())) (some (1, ()))) (some (1, ())))) (cond (decide (a.1.Tick = a.2.1.Tick)) (cond (decide (a.1.Name = a.2.1.Name)) (some (0, ())) (some (1, ()))) (some (1, ()))))
def E154 : Env := envL []
noncomputable def L154 : LEnv (densS (muts p154 ++ r154)) := lenv []
theorem e154 (a : densS p154) : runF (E154) tab (fun _ => false) p154 r154 Proofs.Tryz.f154 (L154) a = F154 a := by kernel_rfl
theorem ok154 : OK Proofs.Tryz.prog 154 (mkE p154 r154 false (F154)) :=
  fn_ok tab_ok (envL_ok (l := []) OKs.nil) mixed (ann := (fun _ => false)) (L := L154) (fn := Proofs.Tryz.f154) (c := bodyC Proofs.Tryz.f154) (ls := []) Proofs.Tryz.func154 (by kernel_rfl) (by kernel_rfl) (by kernel_rfl) (by kernel_rfl)
    LoopsP.nil (e154)
/-! spec.l7Copies -/
def p170 : List SP := [.one (.r .cue)]
def r170 : List SP := [.one (.o 0 .cue)]
noncomputable def F170 (a : List Cue × Unit) : Option (List Cue × Unit) :=
  capK (List.length ([] : List Cue) + List.length a.1) (some ((([] : List Cue) ++ a.1), ()))
def E170 : Env := envL []
noncomputable def L170 : LEnv (densS (muts p170 ++ r170)) := lenv []
theorem e170 (a : densS p170) : runF (E170) tab (fun _ => false) p170 r170 Proofs.Tryz.f170 (L170) a = F170 a := by kernel_rfl
theorem ok170 : OK Proofs.Tryz.prog 170 (mkE p170 r170 false (F170)) :=
  fn_ok tab_ok (envL_ok (l := []) OKs.nil) mixed (ann := (fun _ => false)) (L := L170) (fn := Proofs.Tryz.f170) (c := bodyC Proofs.Tryz.f170) (ls := []) Proofs.Tryz.func170 (by kernel_rfl) (by kernel_rfl) (by kernel_rfl) (by kernel_rfl)
    LoopsP.nil (e170)
/-! spec.l7Put -/
def p169 : List SP := [.one (.r .cue), .t .cue]
def r169 : List SP := [.one (.o 0 .cue), .one (.bool)]
def q169_0 : List SP := pat 50 0 [(0, .one (.r .cue)), (3, .boxt 5000001 .cue), (6, .one (.int .i64))]
noncomputable def s169_0 (f154 : Cue × Cue × Unit → Option (Int × Unit)) (f170 : List Cue × Unit → Option (List Cue × Unit)) (t1 : List Cue × Cue × Int × Unit) (rec K : List Cue × Cue × Int × Unit → Option (List Cue × Bool × Unit)) : Option (List Cue × Bool × Unit) :=
  cond (decide (t1.2.2.1 < (Int.ofNat (List.length t1.1)))) (rdL t1.1 t1.2.2.1 fun d2 => (f154 (d2, t1.2.1, ())).bind fun x3 => cond (decide (x3.1 < 0)) (rec (t1.1, t1.2.1, (w64 (t1.2.2.1 + 1)), ())) (K (t1.1, t1.2.1, t1.2.2.1, ()))) (K (t1.1, t1.2.1, t1.2.2.1, ()))
noncomputable def F169 (f154 : Cue × Cue × Unit → Option (Int × Unit)) (f170 : List Cue × Unit → Option (List Cue × Unit)) (a : List Cue × Cue × Unit) : Option (List Cue × Bool × Unit) :=
  iterF (s169_0 f154 f170) fuel (a.1, a.2.1, 0, ()) fun t4 => cond (decide (t4.2.2.1 < (Int.ofNat (List.length t4.1)))) (rdL t4.1 t4.2.2.1 fun d5 => (f154 (d5, t4.2.1, ())).bind fun x6 => cond (decide (x6.1 = 0)) ((f170 (t4.1, ())).bind fun x7 => some (x7.1, false, ())) (okIf (0 ≤ t4.2.2.1 ∧ t4.2.2.1 ≤ List.length t4.1) ((f170 ((List.take (Int.toNat t4.2.2.1) t4.1), ())).bind fun x8 => capK (List.length x8.1 + List.length ([t4.2.1] : List Cue)) (okIf (0 ≤ t4.2.2.1 ∧ t4.2.2.1 ≤ List.length t4.1) (capK (List.length (x8.1 ++ ([t4.2.1] : List Cue)) + List.length (List.drop (Int.toNat t4.2.2.1) t4.1)) (some (((x8.1 ++ ([t4.2.1] : List Cue)) ++ (List.drop (Int.toNat t4.2.2.1) t4.1)), true, ()))))))) (okIf (0 ≤ t4.2.2.1 ∧ t4.2.2.1 ≤ List.length t4.1) ((f170 ((List.take (Int.toNat t4.2.2.1) t4.1), ())).bind fun x9 => capK (List.length x9.1 + List.length ([t4.2.1] : List Cue)) (okIf (0 ≤ t4.2.2.1 ∧ t4.2.2.1 ≤ List.length t4.1) (capK (List.length (x9.1 ++ ([t4.2.1] : List Cue)) + List.length (List.drop (Int.toNat t4.2.2.1) t4.1)) (some (((x9.1 ++ ([t4.2.1] : List Cue)) ++ (List.drop (Int.toNat t4.2.2.1) t4.1)), true, ()))))))
def E169 (f154 : Cue × Cue × Unit → Option (Int × Unit)) (f170 : List Cue × Unit → Option (List Cue × Unit)) : Env := envL [(154, mkE p154 r154 false f154), (170, mkE p170 r170 false f170)]
noncomputable def L169 (f154 : Cue × Cue × Unit → Option (Int × Unit)) (f170 : List Cue × Unit → Option (List Cue × Unit)) : LEnv (densS (muts p169 ++ r169)) := lenv [(0, loopL (R := densS (muts p169 ++ r169)) q169_0 (s169_0 f154 f170))]
theorem e169_0 (f154 : Cue × Cue × Unit → Option (Int × Unit)) (f170 : List Cue × Unit → Option (List Cue × Unit)) (X : Nat → St → Option (densS (muts p169 ++ r169))) (rec K : densS q169_0 → Option (densS (muts p169 ++ r169))) (t : densS q169_0) :
    ev (E169 f154 f170) tab (fun _ => false) (L169 f154 f170) (retK tab p169 r169 Proofs.Tryz.f169.results.toList) (loopC Proofs.Tryz.f169 0) (fun i s => cond (Nat.beq i 0) (decK 100 q169_0 s K) (X i s)) (fun s => decK 100 q169_0 s rec) (enc q169_0 t) = s169_0 f154 f170 t rec K := by kernel_rfl
theorem e169 (f154 : Cue × Cue × Unit → Option (Int × Unit)) (f170 : List Cue × Unit → Option (List Cue × Unit)) (a : densS p169) : runF (E169 f154 f170) tab (fun _ => false) p169 r169 Proofs.Tryz.f169 (L169 f154 f170) a = F169 f154 f170 a := by kernel_rfl
theorem ok169 {f154 : Cue × Cue × Unit → Option (Int × Unit)} {f170 : List Cue × Unit → Option (List Cue × Unit)} (h154 : OK Proofs.Tryz.prog 154 (mkE p154 r154 false f154)) (h170 : OK Proofs.Tryz.prog 170 (mkE p170 r170 false f170)) : OK Proofs.Tryz.prog 169 (mkE p169 r169 false (F169 f154 f170)) :=
  fn_ok tab_ok (envL_ok (l := [(154, mkE p154 r154 false f154), (170, mkE p170 r170 false f170)]) (OKs.cons h154 (OKs.cons h170 OKs.nil))) mixed (ann := (fun _ => false)) (L := L169 f154 f170) (fn := Proofs.Tryz.f169) (c := bodyC Proofs.Tryz.f169) (ls := [(0, loopC Proofs.Tryz.f169 0)]) Proofs.Tryz.func169 (by kernel_rfl) (by kernel_rfl) (by kernel_rfl) (by kernel_rfl)
    (LoopsP.cons q169_0 (s169_0 f154 f170) rfl (e169_0 f154 f170) LoopsP.nil) (e169 f154 f170)
/-! spec.IsCue -/
def p153 : List SP := [.t .cue]
def r153 : List SP := [.one (.bool)]
noncomputable def F153 (f106 : Int × Int × Int × Unit → Option (Bool × Unit)) (f190 : Str × Unit → Option (Bool × Unit)) (a : Cue × Unit) : Option (Bool × Unit) :=
  (f106 (a.1.Tick, 0, 64, ())).bind fun x1 => cond x1.1 ((f190 (a.1.Name, ())).bind fun x2 => cond x2.1 ((f106 (a.1.Level, 0, 32, ())).bind fun x3 => cond x3.1 ((f106 (a.1.Ramp, 0, 16, ())).bind fun x4 => some (x4.1, ())) (some (false, ()))) (some (false, ()))) (some (false, ()))
def E153 (f106 : Int × Int × Int × Unit → Option (Bool × Unit)) (f190 : Str × Unit → Option (Bool × Unit)) : Env := envL [(106, mkE p106 r106 false f106), (190, mkE p190 r190 false f190)]
noncomputable def L153 (f106 : Int × Int × Int × Unit → Option (Bool × Unit)) (f190 : Str × Unit → Option (Bool × Unit)) : LEnv (densS (muts p153 ++ r153)) := lenv []
theorem e153 (f106 : Int × Int × Int × Unit → Option (Bool × Unit)) (f190 : Str × Unit → Option (Bool × Unit)) (a : densS p153) : runF (E153 f106 f190) tab (fun _ => false) p153 r153 Proofs.Tryz.f153 (L153 f106 f190) a = F153 f106 f190 a := by kernel_rfl
theorem ok153 {f106 : Int × Int × Int × Unit → Option (Bool × Unit)} {f190 : Str × Unit → Option (Bool × Unit)} (h106 : OK Proofs.Tryz.prog 106 (mkE p106 r106 false f106)) (h190 : OK Proofs.Tryz.prog 190 (mkE p190 r190 false f190)) : OK Proofs.Tryz.prog 153 (mkE p153 r153 false (F153 f106 f190)) :=
  fn_ok tab_ok (envL_ok (l := [(106, mkE p106 r106 false f106), (190, mkE p190 r190 false f190)]) (OKs.cons h106 (OKs.cons h190 OKs.nil))) mixed (ann := (fun _ => false)) (L := L153 f106 f190) (fn := Proofs.Tryz.f153) (c := bodyC Proofs.Tryz.f153) (ls := []) Proofs.Tryz.func153 (by kernel_rfl) (by kernel_rfl) (by kernel_rfl) (by kernel_rfl)
    LoopsP.nil (e153 f106 f190)
/-! spec.IsScore -/
def p104 : List SP := [.one (.r .cue)]
def r104 : List SP := [.one (.bool)]
def q104_0 : List SP := pat 33 0 [(0, .one (.r .cue)), (5, .one (.r .cue)), (6, .one (.int .i64)), (7, .one (.int .i64))]
noncomputable def s104_0 (f153 : Cue × Unit → Option (Bool × Unit)) (f154 : Cue × Cue × Unit → Option (Int × Unit)) (t1 : List Cue × List Cue × Int × Int × Unit) (rec K : List Cue × List Cue × Int × Int × Unit → Option (Bool × Unit)) : Option (Bool × Unit) :=
  cond (decide (t1.2.2.2.1 < t1.2.2.1)) (rdL t1.2.1 t1.2.2.2.1 fun d2 => (f153 (d2, ())).bind fun x3 => cond (!(!x3.1)) (cond (decide (t1.2.2.2.1 > 0)) (rdL t1.1 (w64 (t1.2.2.2.1 - 1)) fun d4 => (f154 (d4, d2, ())).bind fun x5 => cond (decide (x5.1 ≥ 0)) (some (false, ())) (rec (t1.1, t1.2.1, t1.2.2.1, (w64 (t1.2.2.2.1 + 1)), ()))) (rec (t1.1, t1.2.1, t1.2.2.1, (w64 (t1.2.2.2.1 + 1)), ()))) (some (false, ()))) (K (t1.1, t1.2.1, t1.2.2.1, t1.2.2.2.1, ()))
noncomputable def F104 (f153 : Cue × Unit → Option (Bool × Unit)) (f154 : Cue × Cue × Unit → Option (Int × Unit)) (a : List Cue × Unit) : Option (Bool × Unit) :=
  iterF (s104_0 f153 f154) fuel (a.1, a.1, (Int.ofNat (List.length a.1)), 0, ()) fun t6 => some ((decide ((Int.ofNat (List.length t6.1)) ≤ 12)), ())
def E104 (f153 : Cue × Unit → Option (Bool × Unit)) (f154 : Cue × Cue × Unit → Option (Int × Unit)) : Env := envL [(153, mkE p153 r153 false f153), (154, mkE p154 r154 false f154)]
noncomputable def L104 (f153 : Cue × Unit → Option (Bool × Unit)) (f154 : Cue × Cue × Unit → Option (Int × Unit)) : LEnv (densS (muts p104 ++ r104)) := lenv [(0, loopL (R := densS (muts p104 ++ r104)) q104_0 (s104_0 f153 f154))]
theorem e104_0 (f153 : Cue × Unit → Option (Bool × Unit)) (f154 : Cue × Cue × Unit → Option (Int × Unit)) (X : Nat → St → Option (densS (muts p104 ++ r104))) (rec K : densS q104_0 → Option (densS (muts p104 ++ r104))) (t : densS q104_0) :
    ev (E104 f153 f154) tab (fun _ => false) (L104 f153 f154) (retK tab p104 r104 Proofs.Tryz.f104.results.toList) (loopC Proofs.Tryz.f104 0) (fun i s => cond (Nat.beq i 0) (decK 100 q104_0 s K) (X i s)) (fun s => decK 100 q104_0 s rec) (enc q104_0 t) = s104_0 f153 f154 t rec K := by kernel_rfl
theorem e104 (f153 : Cue × Unit → Option (Bool × Unit)) (f154 : Cue × Cue × Unit → Option (Int × Unit)) (a : densS p104) : runF (E104 f153 f154) tab (fun _ => false) p104 r104 Proofs.Tryz.f104 (L104 f153 f154) a = F104 f153 f154 a := by kernel_rfl
theorem ok104 {f153 : Cue × Unit → Option (Bool × Unit)} {f154 : Cue × Cue × Unit → Option (Int × Unit)} (h153 : OK Proofs.Tryz.prog 153 (mkE p153 r153 false f153)) (h154 : OK Proofs.Tryz.prog 154 (mkE p154 r154 false f154)) : OK Proofs.Tryz.prog 104 (mkE p104 r104 false (F104 f153 f154)) :=
  fn_ok tab_ok (envL_ok (l := [(153, mkE p153 r153 false f153), (154, mkE p154 r154 false f154)]) (OKs.cons h153 (OKs.cons h154 OKs.nil))) mixed (ann := (fun _ => false)) (L := L104 f153 f154) (fn := Proofs.Tryz.f104) (c := bodyC Proofs.Tryz.f104) (ls := [(0, loopC Proofs.Tryz.f104 0)]) Proofs.Tryz.func104 (by kernel_rfl) (by kernel_rfl) (by kernel_rfl) (by kernel_rfl)
    (LoopsP.cons q104_0 (s104_0 f153 f154) rfl (e104_0 f153 f154) LoopsP.nil) (e104 f153 f154)
/-! spec.AddCue -/
def p117 : List SP := [.one (.r .cue), .t .cue]
def r117 : List SP := [.one (.o 0 .cue), .one (.bool)]
noncomputable def F117 (f169 : List Cue × Cue × Unit → Option (List Cue × Bool × Unit)) (f104 : List Cue × Unit → Option (Bool × Unit)) (f153 : Cue × Unit → Option (Bool × Unit)) (f170 : List Cue × Unit → Option (List Cue × Unit)) (a : List Cue × Cue × Unit) : Option (List Cue × Bool × Unit) :=
  (f169 (a.1, a.2.1, ())).bind fun x1 => (f104 (a.1, ())).bind fun x2 => cond (!(!x2.1)) ((f153 (a.2.1, ())).bind fun x3 => cond (!(!x3.1)) (cond (!(!x1.2.1)) (cond (decide ((Int.ofNat (List.length a.1)) = 12)) ((f170 (a.1, ())).bind fun x4 => some (x4.1, false, ())) (some (x1.1, true, ()))) ((f170 (a.1, ())).bind fun x5 => some (x5.1, false, ()))) ((f170 (a.1, ())).bind fun x6 => some (x6.1, false, ()))) ((f170 (a.1, ())).bind fun x7 => some (x7.1, false, ()))
def E117 (f169 : List Cue × Cue × Unit → Option (List Cue × Bool × Unit)) (f104 : List Cue × Unit → Option (Bool × Unit)) (f153 : Cue × Unit → Option (Bool × Unit)) (f170 : List Cue × Unit → Option (List Cue × Unit)) : Env := envL [(169, mkE p169 r169 false f169), (104, mkE p104 r104 false f104), (153, mkE p153 r153 false f153), (170, mkE p170 r170 false f170)]
noncomputable def L117 (f169 : List Cue × Cue × Unit → Option (List Cue × Bool × Unit)) (f104 : List Cue × Unit → Option (Bool × Unit)) (f153 : Cue × Unit → Option (Bool × Unit)) (f170 : List Cue × Unit → Option (List Cue × Unit)) : LEnv (densS (muts p117 ++ r117)) := lenv []
theorem e117 (f169 : List Cue × Cue × Unit → Option (List Cue × Bool × Unit)) (f104 : List Cue × Unit → Option (Bool × Unit)) (f153 : Cue × Unit → Option (Bool × Unit)) (f170 : List Cue × Unit → Option (List Cue × Unit)) (a : densS p117) : runF (E117 f169 f104 f153 f170) tab (fun _ => false) p117 r117 Proofs.Tryz.f117 (L117 f169 f104 f153 f170) a = F117 f169 f104 f153 f170 a := by kernel_rfl
theorem ok117 {f169 : List Cue × Cue × Unit → Option (List Cue × Bool × Unit)} {f104 : List Cue × Unit → Option (Bool × Unit)} {f153 : Cue × Unit → Option (Bool × Unit)} {f170 : List Cue × Unit → Option (List Cue × Unit)} (h169 : OK Proofs.Tryz.prog 169 (mkE p169 r169 false f169)) (h104 : OK Proofs.Tryz.prog 104 (mkE p104 r104 false f104)) (h153 : OK Proofs.Tryz.prog 153 (mkE p153 r153 false f153)) (h170 : OK Proofs.Tryz.prog 170 (mkE p170 r170 false f170)) : OK Proofs.Tryz.prog 117 (mkE p117 r117 false (F117 f169 f104 f153 f170)) :=
  fn_ok tab_ok (envL_ok (l := [(169, mkE p169 r169 false f169), (104, mkE p104 r104 false f104), (153, mkE p153 r153 false f153), (170, mkE p170 r170 false f170)]) (OKs.cons h169 (OKs.cons h104 (OKs.cons h153 (OKs.cons h170 OKs.nil))))) mixed (ann := (fun _ => false)) (L := L117 f169 f104 f153 f170) (fn := Proofs.Tryz.f117) (c := bodyC Proofs.Tryz.f117) (ls := []) Proofs.Tryz.func117 (by kernel_rfl) (by kernel_rfl) (by kernel_rfl) (by kernel_rfl)
    LoopsP.nil (e117 f169 f104 f153 f170)
/-! spec.l9Draw -/
def p58 : List SP := [.box 0 [.r .u8, .int .i64, .int .i64]]
def r58 : List SP := [.agg [.o 1 .device, .o 2 .cue, .o 3 .gust, .int .i64]]
def q58_0 : List SP := pat 33 0 [(0, .box 0 [.r .u8, .int .i64, .int .i64]), (2, .box 5000001 [.o 5000002 .device, .o 5000003 .cue, .o 5000004 .gust, .int .i64]), (3, .box 5000005 [.o 5000006 .device, .o 5000007 .cue, .o 5000008 .gust, .int .i64]), (4, .one (.int .i64))]
noncomputable def s58_0 (f114 : CuD × Unit → Option (CuD × List Device × Unit)) (f115 : CuD × Unit → Option (CuD × List Gust × Unit)) (f84 : CuD × Int × Unit → Option (CuD × Int × Unit)) (f116 : CuD × Unit → Option (CuD × Cue × Unit)) (f117 : List Cue × Cue × Unit → Option (List Cue × Bool × Unit)) (t5 : CuD × ShD × ShD × Int × Unit) (rec K : CuD × ShD × ShD × Int × Unit → Option (CuD × ShD × Unit)) : Option (CuD × ShD × Unit) :=
  cond (decide (t5.2.2.2.1 > 0)) ((f116 ((t5.1.1, t5.1.2.1, t5.1.2.2.1, ()), ())).bind fun x6 => (f84 ((x6.1.1, x6.1.2.1, x6.1.2.2.1, ()), 8, ())).bind fun x7 => (f117 (t5.2.2.1.2.1, (⟨x7.2.1, x6.2.1.Name, x6.2.1.Level, x6.2.1.Ramp⟩ : Cue), ())).bind fun x8 => rec ((x7.1.1, x7.1.2.1, x7.1.2.2.1, ()), (t5.2.1.1, t5.2.1.2.1, t5.2.1.2.2.1, t5.2.1.2.2.2.1, ()), (t5.2.2.1.1, x8.1, t5.2.2.1.2.2.1, t5.2.2.1.2.2.2.1, ()), (w64 (t5.2.2.2.1 - 1)), ())) (K ((t5.1.1, t5.1.2.1, t5.1.2.2.1, ()), (t5.2.1.1, t5.2.1.2.1, t5.2.1.2.2.1, t5.2.1.2.2.2.1, ()), (t5.2.2.1.1, t5.2.2.1.2.1, t5.2.2.1.2.2.1, t5.2.2.1.2.2.2.1, ()), t5.2.2.2.1, ()))
noncomputable def F58 (f114 : CuD × Unit → Option (CuD × List Device × Unit)) (f115 : CuD × Unit → Option (CuD × List Gust × Unit)) (f84 : CuD × Int × Unit → Option (CuD × Int × Unit)) (f116 : CuD × Unit → Option (CuD × Cue × Unit)) (f117 : List Cue × Cue × Unit → Option (List Cue × Bool × Unit)) (a : CuD × Unit) : Option (CuD × ShD × Unit) :=
  (f114 ((a.1.1, a.1.2.1, a.1.2.2.1, ()), ())).bind fun x1 => (f115 ((x1.1.1, x1.1.2.1, x1.1.2.2.1, ()), ())).bind fun x2 => (f84 ((x2.1.1, x2.1.2.1, x2.1.2.2.1, ()), 14, ())).bind fun x3 => (f84 ((x3.1.1, x3.1.2.1, x3.1.2.2.1, ()), 6, ())).bind fun x4 => iterF (s58_0 f114 f115 f84 f116 f117) fuel ((x4.1.1, x4.1.2.1, x4.1.2.2.1, ()), ([], [], [], 0, ()), (x1.2.1, [], x2.2.1, x3.2.1, ()), x4.2.1, ()) fun t9 => some ((t9.1.1, t9.1.2.1, t9.1.2.2.1, ()), (t9.2.2.1.1, t9.2.2.1.2.1, t9.2.2.1.2.2.1, t9.2.2.1.2.2.2.1, ()), ())
def E58 (f114 : CuD × Unit → Option (CuD × List Device × Unit)) (f115 : CuD × Unit → Option (CuD × List Gust × Unit)) (f84 : CuD × Int × Unit → Option (CuD × Int × Unit)) (f116 : CuD × Unit → Option (CuD × Cue × Unit)) (f117 : List Cue × Cue × Unit → Option (List Cue × Bool × Unit)) : Env := envL [(114, mkE p114 r114 true f114), (115, mkE p115 r115 true f115), (84, mkE p84 r84 true f84), (116, mkE p116 r116 true f116), (117, mkE p117 r117 false f117)]
noncomputable def L58 (f114 : CuD × Unit → Option (CuD × List Device × Unit)) (f115 : CuD × Unit → Option (CuD × List Gust × Unit)) (f84 : CuD × Int × Unit → Option (CuD × Int × Unit)) (f116 : CuD × Unit → Option (CuD × Cue × Unit)) (f117 : List Cue × Cue × Unit → Option (List Cue × Bool × Unit)) : LEnv (densS (muts p58 ++ r58)) := lenv [(0, loopL (R := densS (muts p58 ++ r58)) q58_0 (s58_0 f114 f115 f84 f116 f117))]
theorem e58_0 (f114 : CuD × Unit → Option (CuD × List Device × Unit)) (f115 : CuD × Unit → Option (CuD × List Gust × Unit)) (f84 : CuD × Int × Unit → Option (CuD × Int × Unit)) (f116 : CuD × Unit → Option (CuD × Cue × Unit)) (f117 : List Cue × Cue × Unit → Option (List Cue × Bool × Unit)) (X : Nat → St → Option (densS (muts p58 ++ r58))) (rec K : densS q58_0 → Option (densS (muts p58 ++ r58))) (t : densS q58_0) :
    ev (E58 f114 f115 f84 f116 f117) tab (fun _ => false) (L58 f114 f115 f84 f116 f117) (retK tab p58 r58 Proofs.Tryz.f58.results.toList) (loopC Proofs.Tryz.f58 0) (fun i s => cond (Nat.beq i 0) (decK 100 q58_0 s K) (X i s)) (fun s => decK 100 q58_0 s rec) (enc q58_0 t) = s58_0 f114 f115 f84 f116 f117 t rec K := by kernel_rfl
theorem e58 (f114 : CuD × Unit → Option (CuD × List Device × Unit)) (f115 : CuD × Unit → Option (CuD × List Gust × Unit)) (f84 : CuD × Int × Unit → Option (CuD × Int × Unit)) (f116 : CuD × Unit → Option (CuD × Cue × Unit)) (f117 : List Cue × Cue × Unit → Option (List Cue × Bool × Unit)) (a : densS p58) : runF (E58 f114 f115 f84 f116 f117) tab (fun _ => false) p58 r58 Proofs.Tryz.f58 (L58 f114 f115 f84 f116 f117) a = F58 f114 f115 f84 f116 f117 a := by kernel_rfl
theorem ok58 {f114 : CuD × Unit → Option (CuD × List Device × Unit)} {f115 : CuD × Unit → Option (CuD × List Gust × Unit)} {f84 : CuD × Int × Unit → Option (CuD × Int × Unit)} {f116 : CuD × Unit → Option (CuD × Cue × Unit)} {f117 : List Cue × Cue × Unit → Option (List Cue × Bool × Unit)} (h114 : OK Proofs.Tryz.prog 114 (mkE p114 r114 true f114)) (h115 : OK Proofs.Tryz.prog 115 (mkE p115 r115 true f115)) (h84 : OK Proofs.Tryz.prog 84 (mkE p84 r84 true f84)) (h116 : OK Proofs.Tryz.prog 116 (mkE p116 r116 true f116)) (h117 : OK Proofs.Tryz.prog 117 (mkE p117 r117 false f117)) : OK Proofs.Tryz.prog 58 (mkE p58 r58 true (F58 f114 f115 f84 f116 f117)) :=
  fn_ok tab_ok (envL_ok (l := [(114, mkE p114 r114 true f114), (115, mkE p115 r115 true f115), (84, mkE p84 r84 true f84), (116, mkE p116 r116 true f116), (117, mkE p117 r117 false f117)]) (OKs.cons h114 (OKs.cons h115 (OKs.cons h84 (OKs.cons h116 (OKs.cons h117 OKs.nil)))))) mixed (ann := (fun _ => false)) (L := L58 f114 f115 f84 f116 f117) (fn := Proofs.Tryz.f58) (c := bodyC Proofs.Tryz.f58) (ls := [(0, loopC Proofs.Tryz.f58 0)]) Proofs.Tryz.func58 (by kernel_rfl) (by kernel_rfl) (by kernel_rfl) (by kernel_rfl)
    (LoopsP.cons q58_0 (s58_0 f114 f115 f84 f116 f117) rfl (e58_0 f114 f115 f84 f116 f117) LoopsP.nil) (e58 f114 f115 f84 f116 f117)
/-! spec.ComparePlaces -/
def p157 : List SP := [.t .place, .t .place]
def r157 : List SP := [.one (.int .i64)]
noncomputable def F157 (a : Place × Place × Unit) : Option (Int × Unit) :=
  cond (decide (a.1.X < a.2.1.X)) (cond (decide (a.1.X < a.2.1.X)) (some ((-1), ())) (cond (decide (a.1.X = a.2.1.X) && (decide (a.1.Y = a.2.1.Y) && true)) (some (0, ())) (some (1, ())))) (cond (decide (a.1.X = a.2.1.X)) (cond (decide (a.1.Y < a.2.1.Y)) (some ((-1), ())) (cond (decide (a.1.X = a.2.1.X) && (decide (a.1.Y = a.2.1.Y) && true)) (some (0, ())) (some (1, ())))) (cond (decide (a.1.X = a.2.1.X) && (decide (a.1.Y = a.2.1.Y) && true)) (some (0, ())) (some (1, ()))))
def E157 : Env := envL []
noncomputable def L157 : LEnv (densS (muts p157 ++ r157)) := lenv []
theorem e157 (a : densS p157) : runF (E157) tab (fun _ => false) p157 r157 Proofs.Tryz.f157 (L157) a = F157 a := by kernel_rfl
theorem ok157 : OK Proofs.Tryz.prog 157 (mkE p157 r157 false (F157)) :=
  fn_ok tab_ok (envL_ok (l := []) OKs.nil) mixed (ann := (fun _ => false)) (L := L157) (fn := Proofs.Tryz.f157) (c := bodyC Proofs.Tryz.f157) (ls := []) Proofs.Tryz.func157 (by kernel_rfl) (by kernel_rfl) (by kernel_rfl) (by kernel_rfl)
    LoopsP.nil (e157)
/-! spec.SortedPlaces -/
def p119 : List SP := [.one (.r .place)]
def r119 : List SP := [.one (.o 0 .place)]
def q119_2 : List SP := pat 58 0 [(3, .one (.o 5002001 .place)), (5, .boxt 5002002 .place), (6, .one (.int .i64)), (9, .one (.r .place)), (10, .one (.int .i64)), (11, .one (.int .i64))]
noncomputable def s119_2 (f157 : Place × Place × Unit → Option (Int × Unit)) (t3 : List Place × Place × Int × List Place × Int × Int × Unit) (rec K : List Place × Place × Int × List Place × Int × Int × Unit → Option (List Place × Unit)) : Option (List Place × Unit) :=
  cond (decide (t3.2.2.1 < (Int.ofNat (List.length t3.1)))) (rdL t3.1 t3.2.2.1 fun _ => (t3.1[(Int.toNat t3.2.2.1)]?).bind fun d4 => (f157 (d4, t3.2.1, ())).bind fun x5 => cond (decide (x5.1 < 0)) (rec (t3.1, t3.2.1, (w64 (t3.2.2.1 + 1)), t3.2.2.2.1, t3.2.2.2.2.1, t3.2.2.2.2.2.1, ())) (K (t3.1, t3.2.1, t3.2.2.1, t3.2.2.2.1, t3.2.2.2.2.1, t3.2.2.2.2.2.1, ()))) (K (t3.1, t3.2.1, t3.2.2.1, t3.2.2.2.1, t3.2.2.2.2.1, t3.2.2.2.2.2.1, ()))
def q119_0 : List SP := pat 58 0 [(3, .one (.o 5000001 .place)), (9, .one (.r .place)), (10, .one (.int .i64)), (11, .one (.int .i64))]
noncomputable def s119_0 (f157 : Place × Place × Unit → Option (Int × Unit)) (t1 : List Place × List Place × Int × Int × Unit) (rec K : List Place × List Place × Int × Int × Unit → Option (List Place × Unit)) : Option (List Place × Unit) :=
  cond (decide (t1.2.2.2.1 < t1.2.2.1)) (rdL t1.2.1 t1.2.2.2.1 fun d2 => iterF (s119_2 f157) fuel (t1.1, d2, 0, t1.2.1, t1.2.2.1, t1.2.2.2.1, ()) fun t6 => cond (!(decide (t6.2.2.1 = (Int.ofNat (List.length t6.1))))) (rdL t6.1 t6.2.2.1 fun _ => (t6.1[(Int.toNat t6.2.2.1)]?).bind fun d7 => cond (!(decide (d7.X = t6.2.1.X) && (decide (d7.Y = t6.2.1.Y) && true))) (okIf (0 ≤ t6.2.2.1 ∧ t6.2.2.1 ≤ List.length t6.1) (capK (List.length ([] : List Place) + List.length (List.drop 0 (List.take (Int.toNat t6.2.2.1) t6.1))) (capK (List.length (([] : List Place) ++ (List.drop 0 (List.take (Int.toNat t6.2.2.1) t6.1))) + List.length ([t6.2.1] : List Place)) (okIf (0 ≤ t6.2.2.1 ∧ t6.2.2.1 ≤ List.length t6.1) (capK (List.length ((([] : List Place) ++ (List.drop 0 (List.take (Int.toNat t6.2.2.1) t6.1))) ++ ([t6.2.1] : List Place)) + List.length (List.drop (Int.toNat t6.2.2.1) (List.take (List.length t6.1) t6.1))) (rec ((((([] : List Place) ++ (List.drop 0 (List.take (Int.toNat t6.2.2.1) t6.1))) ++ ([t6.2.1] : List Place)) ++ (List.drop (Int.toNat t6.2.2.1) (List.take (List.length t6.1) t6.1))), t6.2.2.2.1, t6.2.2.2.2.1, (w64 (t6.2.2.2.2.2.1 + 1)), ()))))))) (rec (t6.1, t6.2.2.2.1, t6.2.2.2.2.1, (w64 (t6.2.2.2.2.2.1 + 1)), ()))) (okIf (0 ≤ t6.2.2.1 ∧ t6.2.2.1 ≤ List.length t6.1) (capK (List.length ([] : List Place) + List.length (List.drop 0 (List.take (Int.toNat t6.2.2.1) t6.1))) (capK (List.length (([] : List Place) ++ (List.drop 0 (List.take (Int.toNat t6.2.2.1) t6.1))) + List.length ([t6.2.1] : List Place)) (okIf (0 ≤ t6.2.2.1 ∧ t6.2.2.1 ≤ List.length t6.1) (capK (List.length ((([] : List Place) ++ (List.drop 0 (List.take (Int.toNat t6.2.2.1) t6.1))) ++ ([t6.2.1] : List Place)) + List.length (List.drop (Int.toNat t6.2.2.1) (List.take (List.length t6.1) t6.1))) (rec ((((([] : List Place) ++ (List.drop 0 (List.take (Int.toNat t6.2.2.1) t6.1))) ++ ([t6.2.1] : List Place)) ++ (List.drop (Int.toNat t6.2.2.1) (List.take (List.length t6.1) t6.1))), t6.2.2.2.1, t6.2.2.2.2.1, (w64 (t6.2.2.2.2.2.1 + 1)), ())))))))) (K (t1.1, t1.2.1, t1.2.2.1, t1.2.2.2.1, ()))
noncomputable def F119 (f157 : Place × Place × Unit → Option (Int × Unit)) (a : List Place × Unit) : Option (List Place × Unit) :=
  iterF (s119_0 f157) fuel (([] : List Place), a.1, (Int.ofNat (List.length a.1)), 0, ()) fun t8 => some (t8.1, ())
def E119 (f157 : Place × Place × Unit → Option (Int × Unit)) : Env := envL [(157, mkE p157 r157 false f157)]
noncomputable def L119 (f157 : Place × Place × Unit → Option (Int × Unit)) : LEnv (densS (muts p119 ++ r119)) := lenv [(0, loopL (R := densS (muts p119 ++ r119)) q119_0 (s119_0 f157)), (2, loopL (R := densS (muts p119 ++ r119)) q119_2 (s119_2 f157))]
theorem e119_0 (f157 : Place × Place × Unit → Option (Int × Unit)) (X : Nat → St → Option (densS (muts p119 ++ r119))) (rec K : densS q119_0 → Option (densS (muts p119 ++ r119))) (t : densS q119_0) :
    ev (E119 f157) tab (fun _ => false) (L119 f157) (retK tab p119 r119 Proofs.Tryz.f119.results.toList) (loopC Proofs.Tryz.f119 0) (fun i s => cond (Nat.beq i 0) (decK 100 q119_0 s K) (X i s)) (fun s => decK 100 q119_0 s rec) (enc q119_0 t) = s119_0 f157 t rec K := by kernel_rfl
theorem e119_2 (f157 : Place × Place × Unit → Option (Int × Unit)) (X : Nat → St → Option (densS (muts p119 ++ r119))) (rec K : densS q119_2 → Option (densS (muts p119 ++ r119))) (t : densS q119_2) :
    ev (E119 f157) tab (fun _ => false) (L119 f157) (retK tab p119 r119 Proofs.Tryz.f119.results.toList) (loopC Proofs.Tryz.f119 1) (fun i s => cond (Nat.beq i 2) (decK 100 q119_2 s K) (X i s)) (fun s => decK 100 q119_2 s rec) (enc q119_2 t) = s119_2 f157 t rec K := by kernel_rfl
theorem e119 (f157 : Place × Place × Unit → Option (Int × Unit)) (a : densS p119) : runF (E119 f157) tab (fun _ => false) p119 r119 Proofs.Tryz.f119 (L119 f157) a = F119 f157 a := by kernel_rfl
theorem ok119 {f157 : Place × Place × Unit → Option (Int × Unit)} (h157 : OK Proofs.Tryz.prog 157 (mkE p157 r157 false f157)) : OK Proofs.Tryz.prog 119 (mkE p119 r119 false (F119 f157)) :=
  fn_ok tab_ok (envL_ok (l := [(157, mkE p157 r157 false f157)]) (OKs.cons h157 OKs.nil)) mixed (ann := (fun _ => false)) (L := L119 f157) (fn := Proofs.Tryz.f119) (c := bodyC Proofs.Tryz.f119) (ls := [(0, loopC Proofs.Tryz.f119 0), (2, loopC Proofs.Tryz.f119 1)]) Proofs.Tryz.func119 (by kernel_rfl) (by kernel_rfl) (by kernel_rfl) (by kernel_rfl)
    (LoopsP.cons q119_0 (s119_0 f157) rfl (e119_0 f157) (LoopsP.cons q119_2 (s119_2 f157) rfl (e119_2 f157) LoopsP.nil)) (e119 f157)
/-! spec.l4Rose -/
def p59 : List SP := [.box 0 [.r .u8, .int .i64, .int .i64]]
def r59 : List SP := [.one (.o 1 .place)]
def q59_0 : List SP := pat 20 0 [(0, .box 0 [.r .u8, .int .i64, .int .i64]), (3, .one (.o 5000001 .place)), (4, .one (.int .i64))]
noncomputable def s59_0 (f84 : CuD × Int × Unit → Option (CuD × Int × Unit)) (f118 : CuD × Unit → Option (CuD × Place × Unit)) (f119 : List Place × Unit → Option (List Place × Unit)) (t2 : CuD × List Place × Int × Unit) (rec K : CuD × List Place × Int × Unit → Option (CuD × List Place × Unit)) : Option (CuD × List Place × Unit) :=
  cond (decide (t2.2.2.1 > 0)) ((f118 ((t2.1.1, t2.1.2.1, t2.1.2.2.1, ()), ())).bind fun x3 => capK (List.length t2.2.1 + List.length ([x3.2.1] : List Place)) (rec ((x3.1.1, x3.1.2.1, x3.1.2.2.1, ()), (t2.2.1 ++ ([x3.2.1] : List Place)), (w64 (t2.2.2.1 - 1)), ()))) (K ((t2.1.1, t2.1.2.1, t2.1.2.2.1, ()), t2.2.1, t2.2.2.1, ()))
noncomputable def F59 (f84 : CuD × Int × Unit → Option (CuD × Int × Unit)) (f118 : CuD × Unit → Option (CuD × Place × Unit)) (f119 : List Place × Unit → Option (List Place × Unit)) (a : CuD × Unit) : Option (CuD × List Place × Unit) :=
  (f84 ((a.1.1, a.1.2.1, a.1.2.2.1, ()), 4, ())).bind fun x1 => iterF (s59_0 f84 f118 f119) fuel ((x1.1.1, x1.1.2.1, x1.1.2.2.1, ()), ([] : List Place), (w64 (1 + x1.2.1)), ()) fun t4 => (f119 (t4.2.1, ())).bind fun x5 => some ((t4.1.1, t4.1.2.1, t4.1.2.2.1, ()), x5.1, ())
def E59 (f84 : CuD × Int × Unit → Option (CuD × Int × Unit)) (f118 : CuD × Unit → Option (CuD × Place × Unit)) (f119 : List Place × Unit → Option (List Place × Unit)) : Env := envL [(84, mkE p84 r84 true f84), (118, mkE p118 r118 true f118), (119, mkE p119 r119 false f119)]
noncomputable def L59 (f84 : CuD × Int × Unit → Option (CuD × Int × Unit)) (f118 : CuD × Unit → Option (CuD × Place × Unit)) (f119 : List Place × Unit → Option (List Place × Unit)) : LEnv (densS (muts p59 ++ r59)) := lenv [(0, loopL (R := densS (muts p59 ++ r59)) q59_0 (s59_0 f84 f118 f119))]
theorem e59_0 (f84 : CuD × Int × Unit → Option (CuD × Int × Unit)) (f118 : CuD × Unit → Option (CuD × Place × Unit)) (f119 : List Place × Unit → Option (List Place × Unit)) (X : Nat → St → Option (densS (muts p59 ++ r59))) (rec K : densS q59_0 → Option (densS (muts p59 ++ r59))) (t : densS q59_0) :
    ev (E59 f84 f118 f119) tab (fun _ => false) (L59 f84 f118 f119) (retK tab p59 r59 Proofs.Tryz.f59.results.toList) (loopC Proofs.Tryz.f59 0) (fun i s => cond (Nat.beq i 0) (decK 100 q59_0 s K) (X i s)) (fun s => decK 100 q59_0 s rec) (enc q59_0 t) = s59_0 f84 f118 f119 t rec K := by kernel_rfl
theorem e59 (f84 : CuD × Int × Unit → Option (CuD × Int × Unit)) (f118 : CuD × Unit → Option (CuD × Place × Unit)) (f119 : List Place × Unit → Option (List Place × Unit)) (a : densS p59) : runF (E59 f84 f118 f119) tab (fun _ => false) p59 r59 Proofs.Tryz.f59 (L59 f84 f118 f119) a = F59 f84 f118 f119 a := by kernel_rfl
theorem ok59 {f84 : CuD × Int × Unit → Option (CuD × Int × Unit)} {f118 : CuD × Unit → Option (CuD × Place × Unit)} {f119 : List Place × Unit → Option (List Place × Unit)} (h84 : OK Proofs.Tryz.prog 84 (mkE p84 r84 true f84)) (h118 : OK Proofs.Tryz.prog 118 (mkE p118 r118 true f118)) (h119 : OK Proofs.Tryz.prog 119 (mkE p119 r119 false f119)) : OK Proofs.Tryz.prog 59 (mkE p59 r59 true (F59 f84 f118 f119)) :=
  fn_ok tab_ok (envL_ok (l := [(84, mkE p84 r84 true f84), (118, mkE p118 r118 true f118), (119, mkE p119 r119 false f119)]) (OKs.cons h84 (OKs.cons h118 (OKs.cons h119 OKs.nil)))) mixed (ann := (fun _ => false)) (L := L59 f84 f118 f119) (fn := Proofs.Tryz.f59) (c := bodyC Proofs.Tryz.f59) (ls := [(0, loopC Proofs.Tryz.f59 0)]) Proofs.Tryz.func59 (by kernel_rfl) (by kernel_rfl) (by kernel_rfl) (by kernel_rfl)
    (LoopsP.cons q59_0 (s59_0 f84 f118 f119) rfl (e59_0 f84 f118 f119) LoopsP.nil) (e59 f84 f118 f119)
/-! spec.l4Drift -/
def p155 : List SP := [.t .place]
def r155 : List SP := [.one (.bool)]
noncomputable def F155 (f106 : Int × Int × Int × Unit → Option (Bool × Unit)) (a : Place × Unit) : Option (Bool × Unit) :=
  (f106 (a.1.X, (-8), 8, ())).bind fun x1 => cond x1.1 ((f106 (a.1.Y, (-8), 8, ())).bind fun x2 => some (x2.1, ())) (some (false, ()))
def E155 (f106 : Int × Int × Int × Unit → Option (Bool × Unit)) : Env := envL [(106, mkE p106 r106 false f106)]
noncomputable def L155 (f106 : Int × Int × Int × Unit → Option (Bool × Unit)) : LEnv (densS (muts p155 ++ r155)) := lenv []
theorem e155 (f106 : Int × Int × Int × Unit → Option (Bool × Unit)) (a : densS p155) : runF (E155 f106) tab (fun _ => false) p155 r155 Proofs.Tryz.f155 (L155 f106) a = F155 f106 a := by kernel_rfl
theorem ok155 {f106 : Int × Int × Int × Unit → Option (Bool × Unit)} (h106 : OK Proofs.Tryz.prog 106 (mkE p106 r106 false f106)) : OK Proofs.Tryz.prog 155 (mkE p155 r155 false (F155 f106)) :=
  fn_ok tab_ok (envL_ok (l := [(106, mkE p106 r106 false f106)]) (OKs.cons h106 OKs.nil)) mixed (ann := (fun _ => false)) (L := L155 f106) (fn := Proofs.Tryz.f155) (c := bodyC Proofs.Tryz.f155) (ls := []) Proofs.Tryz.func155 (by kernel_rfl) (by kernel_rfl) (by kernel_rfl) (by kernel_rfl)
    LoopsP.nil (e155 f106)
/-! spec.IsWind -/
def p105 : List SP := [.one (.r .gust)]
def r105 : List SP := [.one (.bool)]
def q105_0 : List SP := pat 41 0 [(0, .one (.r .gust)), (5, .one (.r .gust)), (6, .one (.int .i64)), (7, .one (.int .i64))]
noncomputable def s105_0 (f106 : Int × Int × Int × Unit → Option (Bool × Unit)) (f155 : Place × Unit → Option (Bool × Unit)) (t1 : List Gust × List Gust × Int × Int × Unit) (rec K : List Gust × List Gust × Int × Int × Unit → Option (Bool × Unit)) : Option (Bool × Unit) :=
  cond (decide (t1.2.2.2.1 < t1.2.2.1)) (rdL t1.2.1 t1.2.2.2.1 fun d2 => (f106 (d2.From, 0, 64, ())).bind fun x3 => cond (!(!x3.1)) ((f155 (d2.Drift, ())).bind fun x4 => cond (!(!x4.1)) (cond (decide (t1.2.2.2.1 > 0)) (rdL t1.1 (w64 (t1.2.2.2.1 - 1)) fun d5 => cond (decide (d5.From ≥ d2.From)) (some (false, ())) (rec (t1.1, t1.2.1, t1.2.2.1, (w64 (t1.2.2.2.1 + 1)), ()))) (rec (t1.1, t1.2.1, t1.2.2.1, (w64 (t1.2.2.2.1 + 1)), ()))) (some (false, ()))) (some (false, ()))) (K (t1.1, t1.2.1, t1.2.2.1, t1.2.2.2.1, ()))
noncomputable def F105 (f106 : Int × Int × Int × Unit → Option (Bool × Unit)) (f155 : Place × Unit → Option (Bool × Unit)) (a : List Gust × Unit) : Option (Bool × Unit) :=
  iterF (s105_0 f106 f155) fuel (a.1, a.1, (Int.ofNat (List.length a.1)), 0, ()) fun t6 => some ((decide ((Int.ofNat (List.length t6.1)) ≤ 8)), ())
def E105 (f106 : Int × Int × Int × Unit → Option (Bool × Unit)) (f155 : Place × Unit → Option (Bool × Unit)) : Env := envL [(106, mkE p106 r106 false f106), (155, mkE p155 r155 false f155)]
noncomputable def L105 (f106 : Int × Int × Int × Unit → Option (Bool × Unit)) (f155 : Place × Unit → Option (Bool × Unit)) : LEnv (densS (muts p105 ++ r105)) := lenv [(0, loopL (R := densS (muts p105 ++ r105)) q105_0 (s105_0 f106 f155))]
theorem e105_0 (f106 : Int × Int × Int × Unit → Option (Bool × Unit)) (f155 : Place × Unit → Option (Bool × Unit)) (X : Nat → St → Option (densS (muts p105 ++ r105))) (rec K : densS q105_0 → Option (densS (muts p105 ++ r105))) (t : densS q105_0) :
    ev (E105 f106 f155) tab (fun _ => false) (L105 f106 f155) (retK tab p105 r105 Proofs.Tryz.f105.results.toList) (loopC Proofs.Tryz.f105 0) (fun i s => cond (Nat.beq i 0) (decK 100 q105_0 s K) (X i s)) (fun s => decK 100 q105_0 s rec) (enc q105_0 t) = s105_0 f106 f155 t rec K := by kernel_rfl
theorem e105 (f106 : Int × Int × Int × Unit → Option (Bool × Unit)) (f155 : Place × Unit → Option (Bool × Unit)) (a : densS p105) : runF (E105 f106 f155) tab (fun _ => false) p105 r105 Proofs.Tryz.f105 (L105 f106 f155) a = F105 f106 f155 a := by kernel_rfl
theorem ok105 {f106 : Int × Int × Int × Unit → Option (Bool × Unit)} {f155 : Place × Unit → Option (Bool × Unit)} (h106 : OK Proofs.Tryz.prog 106 (mkE p106 r106 false f106)) (h155 : OK Proofs.Tryz.prog 155 (mkE p155 r155 false f155)) : OK Proofs.Tryz.prog 105 (mkE p105 r105 false (F105 f106 f155)) :=
  fn_ok tab_ok (envL_ok (l := [(106, mkE p106 r106 false f106), (155, mkE p155 r155 false f155)]) (OKs.cons h106 (OKs.cons h155 OKs.nil))) mixed (ann := (fun _ => false)) (L := L105 f106 f155) (fn := Proofs.Tryz.f105) (c := bodyC Proofs.Tryz.f105) (ls := [(0, loopC Proofs.Tryz.f105 0)]) Proofs.Tryz.func105 (by kernel_rfl) (by kernel_rfl) (by kernel_rfl) (by kernel_rfl)
    (LoopsP.cons q105_0 (s105_0 f106 f155) rfl (e105_0 f106 f155) LoopsP.nil) (e105 f106 f155)
/-! spec.IsShow -/
def p49 : List SP := [.agg [.r .device, .r .cue, .r .gust, .int .i64]]
def r49 : List SP := [.one (.bool)]
noncomputable def F49 (f103 : List Device × Unit → Option (Bool × Unit)) (f104 : List Cue × Unit → Option (Bool × Unit)) (f105 : List Gust × Unit → Option (Bool × Unit)) (f106 : Int × Int × Int × Unit → Option (Bool × Unit)) (a : ShD × Unit) : Option (Bool × Unit) :=
  (f103 (a.1.1, ())).bind fun x1 => cond x1.1 ((f104 (a.1.2.1, ())).bind fun x2 => cond x2.1 ((f105 (a.1.2.2.1, ())).bind fun x3 => cond x3.1 ((f106 (a.1.2.2.2.1, 0, 64, ())).bind fun x4 => some (x4.1, ())) (some (false, ()))) (some (false, ()))) (some (false, ()))
def E49 (f103 : List Device × Unit → Option (Bool × Unit)) (f104 : List Cue × Unit → Option (Bool × Unit)) (f105 : List Gust × Unit → Option (Bool × Unit)) (f106 : Int × Int × Int × Unit → Option (Bool × Unit)) : Env := envL [(103, mkE p103 r103 false f103), (104, mkE p104 r104 false f104), (105, mkE p105 r105 false f105), (106, mkE p106 r106 false f106)]
noncomputable def L49 (f103 : List Device × Unit → Option (Bool × Unit)) (f104 : List Cue × Unit → Option (Bool × Unit)) (f105 : List Gust × Unit → Option (Bool × Unit)) (f106 : Int × Int × Int × Unit → Option (Bool × Unit)) : LEnv (densS (muts p49 ++ r49)) := lenv []
theorem e49 (f103 : List Device × Unit → Option (Bool × Unit)) (f104 : List Cue × Unit → Option (Bool × Unit)) (f105 : List Gust × Unit → Option (Bool × Unit)) (f106 : Int × Int × Int × Unit → Option (Bool × Unit)) (a : densS p49) : runF (E49 f103 f104 f105 f106) tab (fun _ => false) p49 r49 Proofs.Tryz.f49 (L49 f103 f104 f105 f106) a = F49 f103 f104 f105 f106 a := by kernel_rfl
theorem ok49 {f103 : List Device × Unit → Option (Bool × Unit)} {f104 : List Cue × Unit → Option (Bool × Unit)} {f105 : List Gust × Unit → Option (Bool × Unit)} {f106 : Int × Int × Int × Unit → Option (Bool × Unit)} (h103 : OK Proofs.Tryz.prog 103 (mkE p103 r103 false f103)) (h104 : OK Proofs.Tryz.prog 104 (mkE p104 r104 false f104)) (h105 : OK Proofs.Tryz.prog 105 (mkE p105 r105 false f105)) (h106 : OK Proofs.Tryz.prog 106 (mkE p106 r106 false f106)) : OK Proofs.Tryz.prog 49 (mkE p49 r49 false (F49 f103 f104 f105 f106)) :=
  fn_ok tab_ok (envL_ok (l := [(103, mkE p103 r103 false f103), (104, mkE p104 r104 false f104), (105, mkE p105 r105 false f105), (106, mkE p106 r106 false f106)]) (OKs.cons h103 (OKs.cons h104 (OKs.cons h105 (OKs.cons h106 OKs.nil))))) mixed (ann := (fun _ => false)) (L := L49 f103 f104 f105 f106) (fn := Proofs.Tryz.f49) (c := bodyC Proofs.Tryz.f49) (ls := []) Proofs.Tryz.func49 (by kernel_rfl) (by kernel_rfl) (by kernel_rfl) (by kernel_rfl)
    LoopsP.nil (e49 f103 f104 f105 f106)
/-! spec.IsRose -/
def p108 : List SP := [.one (.r .place)]
def r108 : List SP := [.one (.bool)]
def q108_0 : List SP := pat 38 0 [(0, .one (.r .place)), (5, .one (.r .place)), (6, .one (.int .i64)), (7, .one (.int .i64))]
noncomputable def s108_0 (f155 : Place × Unit → Option (Bool × Unit)) (f157 : Place × Place × Unit → Option (Int × Unit)) (t1 : List Place × List Place × Int × Int × Unit) (rec K : List Place × List Place × Int × Int × Unit → Option (Bool × Unit)) : Option (Bool × Unit) :=
  cond (decide (t1.2.2.2.1 < t1.2.2.1)) (rdL t1.2.1 t1.2.2.2.1 fun d2 => (f155 (d2, ())).bind fun x3 => cond (!(!x3.1)) (cond (decide (t1.2.2.2.1 > 0)) (rdL t1.1 (w64 (t1.2.2.2.1 - 1)) fun d4 => (f157 (d4, d2, ())).bind fun x5 => cond (decide (x5.1 ≥ 0)) (some (false, ())) (rec (t1.1, t1.2.1, t1.2.2.1, (w64 (t1.2.2.2.1 + 1)), ()))) (rec (t1.1, t1.2.1, t1.2.2.1, (w64 (t1.2.2.2.1 + 1)), ()))) (some (false, ()))) (K (t1.1, t1.2.1, t1.2.2.1, t1.2.2.2.1, ()))
noncomputable def F108 (f155 : Place × Unit → Option (Bool × Unit)) (f157 : Place × Place × Unit → Option (Int × Unit)) (a : List Place × Unit) : Option (Bool × Unit) :=
  iterF (s108_0 f155 f157) fuel (a.1, a.1, (Int.ofNat (List.length a.1)), 0, ()) fun t6 => cond (decide ((Int.ofNat (List.length t6.1)) ≥ 1)) (some ((decide ((Int.ofNat (List.length t6.1)) ≤ 4)), ())) (some (false, ()))
def E108 (f155 : Place × Unit → Option (Bool × Unit)) (f157 : Place × Place × Unit → Option (Int × Unit)) : Env := envL [(155, mkE p155 r155 false f155), (157, mkE p157 r157 false f157)]
noncomputable def L108 (f155 : Place × Unit → Option (Bool × Unit)) (f157 : Place × Place × Unit → Option (Int × Unit)) : LEnv (densS (muts p108 ++ r108)) := lenv [(0, loopL (R := densS (muts p108 ++ r108)) q108_0 (s108_0 f155 f157))]
theorem e108_0 (f155 : Place × Unit → Option (Bool × Unit)) (f157 : Place × Place × Unit → Option (Int × Unit)) (X : Nat → St → Option (densS (muts p108 ++ r108))) (rec K : densS q108_0 → Option (densS (muts p108 ++ r108))) (t : densS q108_0) :
    ev (E108 f155 f157) tab (fun _ => false) (L108 f155 f157) (retK tab p108 r108 Proofs.Tryz.f108.results.toList) (loopC Proofs.Tryz.f108 0) (fun i s => cond (Nat.beq i 0) (decK 100 q108_0 s K) (X i s)) (fun s => decK 100 q108_0 s rec) (enc q108_0 t) = s108_0 f155 f157 t rec K := by kernel_rfl
theorem e108 (f155 : Place × Unit → Option (Bool × Unit)) (f157 : Place × Place × Unit → Option (Int × Unit)) (a : densS p108) : runF (E108 f155 f157) tab (fun _ => false) p108 r108 Proofs.Tryz.f108 (L108 f155 f157) a = F108 f155 f157 a := by kernel_rfl
theorem ok108 {f155 : Place × Unit → Option (Bool × Unit)} {f157 : Place × Place × Unit → Option (Int × Unit)} (h155 : OK Proofs.Tryz.prog 155 (mkE p155 r155 false f155)) (h157 : OK Proofs.Tryz.prog 157 (mkE p157 r157 false f157)) : OK Proofs.Tryz.prog 108 (mkE p108 r108 false (F108 f155 f157)) :=
  fn_ok tab_ok (envL_ok (l := [(155, mkE p155 r155 false f155), (157, mkE p157 r157 false f157)]) (OKs.cons h155 (OKs.cons h157 OKs.nil))) mixed (ann := (fun _ => false)) (L := L108 f155 f157) (fn := Proofs.Tryz.f108) (c := bodyC Proofs.Tryz.f108) (ls := [(0, loopC Proofs.Tryz.f108 0)]) Proofs.Tryz.func108 (by kernel_rfl) (by kernel_rfl) (by kernel_rfl) (by kernel_rfl)
    (LoopsP.cons q108_0 (s108_0 f155 f157) rfl (e108_0 f155 f157) LoopsP.nil) (e108 f155 f157)
/-! spec.l1Floor -/
def p224 : List SP := [.one (.int .i64), .one (.int .i64)]
def r224 : List SP := [.one (.int .i64)]
noncomputable def F224 (a : Int × Int × Unit) : Option (Int × Unit) :=
  cond (decide (a.2.1 = 0)) none (cond (decide (a.2.1 = 0)) none (cond (decide ((Int.tmod a.1 a.2.1) < 0)) (some ((w64 ((w64 (Int.tdiv a.1 a.2.1)) - 1)), ())) (some ((w64 (Int.tdiv a.1 a.2.1)), ()))))
def E224 : Env := envL []
noncomputable def L224 : LEnv (densS (muts p224 ++ r224)) := lenv []
theorem e224 (a : densS p224) : runF (E224) tab (fun _ => false) p224 r224 Proofs.Tryz.f224 (L224) a = F224 a := by kernel_rfl
theorem ok224 : OK Proofs.Tryz.prog 224 (mkE p224 r224 false (F224)) :=
  fn_ok tab_ok (envL_ok (l := []) OKs.nil) mixed (ann := (fun _ => false)) (L := L224) (fn := Proofs.Tryz.f224) (c := bodyC Proofs.Tryz.f224) (ls := []) Proofs.Tryz.func224 (by kernel_rfl) (by kernel_rfl) (by kernel_rfl) (by kernel_rfl)
    LoopsP.nil (e224)
/-! spec.RampAt -/
def p209 : List SP := [.one (.int .i64), .one (.int .i64), .one (.int .i64), .one (.int .i64)]
def r209 : List SP := [.one (.int .i64)]
noncomputable def F209 (f172 : Int × Unit → Option (Bool × Unit)) (f224 : Int × Int × Unit → Option (Int × Unit)) (a : Int × Int × Int × Int × Unit) : Option (Int × Unit) :=
  (f172 (a.1, ())).bind fun x1 => cond (!(!x1.1)) ((f172 (a.2.1, ())).bind fun x2 => cond (!x2.1) (some (0, ())) (cond (decide (a.2.2.1 ≥ a.2.2.2.1)) (some (a.2.1, ())) (cond (!(decide (a.2.2.1 ≤ 0))) (cond (decide (a.2.2.2.1 > 999)) (some (a.1, ())) ((f224 ((w64 ((w64 (a.2.1 - a.1)) * a.2.2.1)), a.2.2.2.1, ())).bind fun x3 => some ((w64 (a.1 + x3.1)), ()))) (some (a.1, ()))))) (some (0, ()))
def E209 (f172 : Int × Unit → Option (Bool × Unit)) (f224 : Int × Int × Unit → Option (Int × Unit)) : Env := envL [(172, mkE p172 r172 false f172), (224, mkE p224 r224 false f224)]
noncomputable def L209 (f172 : Int × Unit → Option (Bool × Unit)) (f224 : Int × Int × Unit → Option (Int × Unit)) : LEnv (densS (muts p209 ++ r209)) := lenv []
theorem e209 (f172 : Int × Unit → Option (Bool × Unit)) (f224 : Int × Int × Unit → Option (Int × Unit)) (a : densS p209) : runF (E209 f172 f224) tab (fun _ => false) p209 r209 Proofs.Tryz.f209 (L209 f172 f224) a = F209 f172 f224 a := by kernel_rfl
theorem ok209 {f172 : Int × Unit → Option (Bool × Unit)} {f224 : Int × Int × Unit → Option (Int × Unit)} (h172 : OK Proofs.Tryz.prog 172 (mkE p172 r172 false f172)) (h224 : OK Proofs.Tryz.prog 224 (mkE p224 r224 false f224)) : OK Proofs.Tryz.prog 209 (mkE p209 r209 false (F209 f172 f224)) :=
  fn_ok tab_ok (envL_ok (l := [(172, mkE p172 r172 false f172), (224, mkE p224 r224 false f224)]) (OKs.cons h172 (OKs.cons h224 OKs.nil))) mixed (ann := (fun _ => false)) (L := L209 f172 f224) (fn := Proofs.Tryz.f209) (c := bodyC Proofs.Tryz.f209) (ls := []) Proofs.Tryz.func209 (by kernel_rfl) (by kernel_rfl) (by kernel_rfl) (by kernel_rfl)
    LoopsP.nil (e209 f172 f224)
/-! spec.l7Level -/
def p180 : List SP := [.one (.r .cue), .one (.str), .one (.int .i64)]
def r180 : List SP := [.one (.int .i64)]
def q180_0 : List SP := pat 51 0 [(1, .one (.str)), (2, .one (.int .i64)), (7, .one (.int .i64)), (8, .boxt 5000001 .cue), (12, .one (.r .cue)), (13, .one (.int .i64)), (14, .one (.int .i64))]
noncomputable def s180_0 (f209 : Int × Int × Int × Int × Unit → Option (Int × Unit)) (t1 : Str × Int × Int × Cue × List Cue × Int × Int × Unit) (rec K : Str × Int × Int × Cue × List Cue × Int × Int × Unit → Option (Int × Unit)) : Option (Int × Unit) :=
  cond (decide (t1.2.2.2.2.2.2.1 < t1.2.2.2.2.2.1)) (rdL t1.2.2.2.2.1 t1.2.2.2.2.2.2.1 fun d2 => cond (decide (d2.Name = t1.1)) (cond (decide (d2.Tick ≤ t1.2.1)) ((f209 (t1.2.2.1, t1.2.2.2.1.Level, (w64 (d2.Tick - t1.2.2.2.1.Tick)), t1.2.2.2.1.Ramp, ())).bind fun x3 => rec (t1.1, t1.2.1, x3.1, d2, t1.2.2.2.2.1, t1.2.2.2.2.2.1, (w64 (t1.2.2.2.2.2.2.1 + 1)), ())) (rec (t1.1, t1.2.1, t1.2.2.1, t1.2.2.2.1, t1.2.2.2.2.1, t1.2.2.2.2.2.1, (w64 (t1.2.2.2.2.2.2.1 + 1)), ()))) (rec (t1.1, t1.2.1, t1.2.2.1, t1.2.2.2.1, t1.2.2.2.2.1, t1.2.2.2.2.2.1, (w64 (t1.2.2.2.2.2.2.1 + 1)), ()))) (K (t1.1, t1.2.1, t1.2.2.1, t1.2.2.2.1, t1.2.2.2.2.1, t1.2.2.2.2.2.1, t1.2.2.2.2.2.2.1, ()))
noncomputable def F180 (f209 : Int × Int × Int × Int × Unit → Option (Int × Unit)) (a : List Cue × Str × Int × Unit) : Option (Int × Unit) :=
  iterF (s180_0 f209) fuel (a.2.1, a.2.2.1, 0, (⟨0, [], 0, 0⟩ : Cue), a.1, (Int.ofNat (List.length a.1)), 0, ()) fun t4 => (f209 (t4.2.2.1, t4.2.2.2.1.Level, (w64 (t4.2.1 - t4.2.2.2.1.Tick)), t4.2.2.2.1.Ramp, ())).bind fun x5 => some (x5.1, ())
def E180 (f209 : Int × Int × Int × Int × Unit → Option (Int × Unit)) : Env := envL [(209, mkE p209 r209 false f209)]
noncomputable def L180 (f209 : Int × Int × Int × Int × Unit → Option (Int × Unit)) : LEnv (densS (muts p180 ++ r180)) := lenv [(0, loopL (R := densS (muts p180 ++ r180)) q180_0 (s180_0 f209))]
theorem e180_0 (f209 : Int × Int × Int × Int × Unit → Option (Int × Unit)) (X : Nat → St → Option (densS (muts p180 ++ r180))) (rec K : densS q180_0 → Option (densS (muts p180 ++ r180))) (t : densS q180_0) :
    ev (E180 f209) tab (fun _ => false) (L180 f209) (retK tab p180 r180 Proofs.Tryz.f180.results.toList) (loopC Proofs.Tryz.f180 0) (fun i s => cond (Nat.beq i 0) (decK 100 q180_0 s K) (X i s)) (fun s => decK 100 q180_0 s rec) (enc q180_0 t) = s180_0 f209 t rec K := by kernel_rfl
theorem e180 (f209 : Int × Int × Int × Int × Unit → Option (Int × Unit)) (a : densS p180) : runF (E180 f209) tab (fun _ => false) p180 r180 Proofs.Tryz.f180 (L180 f209) a = F180 f209 a := by kernel_rfl
theorem ok180 {f209 : Int × Int × Int × Int × Unit → Option (Int × Unit)} (h209 : OK Proofs.Tryz.prog 209 (mkE p209 r209 false f209)) : OK Proofs.Tryz.prog 180 (mkE p180 r180 false (F180 f209)) :=
  fn_ok tab_ok (envL_ok (l := [(209, mkE p209 r209 false f209)]) (OKs.cons h209 OKs.nil)) mixed (ann := (fun _ => false)) (L := L180 f209) (fn := Proofs.Tryz.f180) (c := bodyC Proofs.Tryz.f180) (ls := [(0, loopC Proofs.Tryz.f180 0)]) Proofs.Tryz.func180 (by kernel_rfl) (by kernel_rfl) (by kernel_rfl) (by kernel_rfl)
    (LoopsP.cons q180_0 (s180_0 f209) rfl (e180_0 f209) LoopsP.nil) (e180 f209)
/-! spec.l1Min -/
def p142 : List SP := [.one (.int .i64), .one (.int .i64)]
def r142 : List SP := [.one (.int .i64)]
noncomputable def F142 (a : Int × Int × Unit) : Option (Int × Unit) :=
  cond (decide (a.1 < a.2.1)) (some (a.1, ())) (some (a.2.1, ()))
def E142 : Env := envL []
noncomputable def L142 : LEnv (densS (muts p142 ++ r142)) := lenv []
theorem e142 (a : densS p142) : runF (E142) tab (fun _ => false) p142 r142 Proofs.Tryz.f142 (L142) a = F142 a := by kernel_rfl
theorem ok142 : OK Proofs.Tryz.prog 142 (mkE p142 r142 false (F142)) :=
  fn_ok tab_ok (envL_ok (l := []) OKs.nil) mixed (ann := (fun _ => false)) (L := L142) (fn := Proofs.Tryz.f142) (c := bodyC Proofs.Tryz.f142) (ls := []) Proofs.Tryz.func142 (by kernel_rfl) (by kernel_rfl) (by kernel_rfl) (by kernel_rfl)
    LoopsP.nil (e142)
/-! spec.IsDemands -/
def p210 : List SP := [.one (.r .int)]
def r210 : List SP := [.one (.bool)]
def q210_0 : List SP := pat 18 0 [(0, .one (.r .int)), (5, .one (.r .int)), (6, .one (.int .i64)), (7, .one (.int .i64))]
noncomputable def s210_0 (f106 : Int × Int × Int × Unit → Option (Bool × Unit)) (t1 : List Int × List Int × Int × Int × Unit) (rec K : List Int × List Int × Int × Int × Unit → Option (Bool × Unit)) : Option (Bool × Unit) :=
  cond (decide (t1.2.2.2.1 < t1.2.2.1)) (rdL t1.2.1 t1.2.2.2.1 fun d2 => (f106 (d2, 0, 64, ())).bind fun x3 => cond (!x3.1) (some (false, ())) (rec (t1.1, t1.2.1, t1.2.2.1, (w64 (t1.2.2.2.1 + 1)), ()))) (K (t1.1, t1.2.1, t1.2.2.1, t1.2.2.2.1, ()))
noncomputable def F210 (f106 : Int × Int × Int × Unit → Option (Bool × Unit)) (a : List Int × Unit) : Option (Bool × Unit) :=
  iterF (s210_0 f106) fuel (a.1, a.1, (Int.ofNat (List.length a.1)), 0, ()) fun t4 => some ((decide ((Int.ofNat (List.length t4.1)) ≤ 8)), ())
def E210 (f106 : Int × Int × Int × Unit → Option (Bool × Unit)) : Env := envL [(106, mkE p106 r106 false f106)]
noncomputable def L210 (f106 : Int × Int × Int × Unit → Option (Bool × Unit)) : LEnv (densS (muts p210 ++ r210)) := lenv [(0, loopL (R := densS (muts p210 ++ r210)) q210_0 (s210_0 f106))]
theorem e210_0 (f106 : Int × Int × Int × Unit → Option (Bool × Unit)) (X : Nat → St → Option (densS (muts p210 ++ r210))) (rec K : densS q210_0 → Option (densS (muts p210 ++ r210))) (t : densS q210_0) :
    ev (E210 f106) tab (fun _ => false) (L210 f106) (retK tab p210 r210 Proofs.Tryz.f210.results.toList) (loopC Proofs.Tryz.f210 0) (fun i s => cond (Nat.beq i 0) (decK 100 q210_0 s K) (X i s)) (fun s => decK 100 q210_0 s rec) (enc q210_0 t) = s210_0 f106 t rec K := by kernel_rfl
theorem e210 (f106 : Int × Int × Int × Unit → Option (Bool × Unit)) (a : densS p210) : runF (E210 f106) tab (fun _ => false) p210 r210 Proofs.Tryz.f210 (L210 f106) a = F210 f106 a := by kernel_rfl
theorem ok210 {f106 : Int × Int × Int × Unit → Option (Bool × Unit)} (h106 : OK Proofs.Tryz.prog 106 (mkE p106 r106 false f106)) : OK Proofs.Tryz.prog 210 (mkE p210 r210 false (F210 f106)) :=
  fn_ok tab_ok (envL_ok (l := [(106, mkE p106 r106 false f106)]) (OKs.cons h106 OKs.nil)) mixed (ann := (fun _ => false)) (L := L210 f106) (fn := Proofs.Tryz.f210) (c := bodyC Proofs.Tryz.f210) (ls := [(0, loopC Proofs.Tryz.f210 0)]) Proofs.Tryz.func210 (by kernel_rfl) (by kernel_rfl) (by kernel_rfl) (by kernel_rfl)
    (LoopsP.cons q210_0 (s210_0 f106) rfl (e210_0 f106) LoopsP.nil) (e210 f106)
/-! spec.l5Cut -/
def p212 : List SP := [.one (.r .int), .one (.int .i64)]
def r212 : List SP := [.one (.o 0 .int)]
def q212_0 : List SP := pat 23 0 [(1, .one (.int .i64)), (5, .one (.o 5000001 .int)), (9, .one (.r .int)), (10, .one (.int .i64)), (11, .one (.int .i64))]
noncomputable def s212_0 (f142 : Int × Int × Unit → Option (Int × Unit)) (t1 : Int × List Int × List Int × Int × Int × Unit) (rec K : Int × List Int × List Int × Int × Int × Unit → Option (List Int × Unit)) : Option (List Int × Unit) :=
  cond (decide (t1.2.2.2.2.1 < t1.2.2.2.1)) (rdL t1.2.2.1 t1.2.2.2.2.1 fun d2 => (f142 (d2, t1.1, ())).bind fun x3 => capK (List.length t1.2.1 + List.length ([x3.1] : List Int)) (rec (t1.1, (t1.2.1 ++ ([x3.1] : List Int)), t1.2.2.1, t1.2.2.2.1, (w64 (t1.2.2.2.2.1 + 1)), ()))) (K (t1.1, t1.2.1, t1.2.2.1, t1.2.2.2.1, t1.2.2.2.2.1, ()))
noncomputable def F212 (f142 : Int × Int × Unit → Option (Int × Unit)) (a : List Int × Int × Unit) : Option (List Int × Unit) :=
  iterF (s212_0 f142) fuel (a.2.1, ([] : List Int), a.1, (Int.ofNat (List.length a.1)), 0, ()) fun t4 => some (t4.2.1, ())
def E212 (f142 : Int × Int × Unit → Option (Int × Unit)) : Env := envL [(142, mkE p142 r142 false f142)]
noncomputable def L212 (f142 : Int × Int × Unit → Option (Int × Unit)) : LEnv (densS (muts p212 ++ r212)) := lenv [(0, loopL (R := densS (muts p212 ++ r212)) q212_0 (s212_0 f142))]
theorem e212_0 (f142 : Int × Int × Unit → Option (Int × Unit)) (X : Nat → St → Option (densS (muts p212 ++ r212))) (rec K : densS q212_0 → Option (densS (muts p212 ++ r212))) (t : densS q212_0) :
    ev (E212 f142) tab (fun _ => false) (L212 f142) (retK tab p212 r212 Proofs.Tryz.f212.results.toList) (loopC Proofs.Tryz.f212 0) (fun i s => cond (Nat.beq i 0) (decK 100 q212_0 s K) (X i s)) (fun s => decK 100 q212_0 s rec) (enc q212_0 t) = s212_0 f142 t rec K := by kernel_rfl
theorem e212 (f142 : Int × Int × Unit → Option (Int × Unit)) (a : densS p212) : runF (E212 f142) tab (fun _ => false) p212 r212 Proofs.Tryz.f212 (L212 f142) a = F212 f142 a := by kernel_rfl
theorem ok212 {f142 : Int × Int × Unit → Option (Int × Unit)} (h142 : OK Proofs.Tryz.prog 142 (mkE p142 r142 false f142)) : OK Proofs.Tryz.prog 212 (mkE p212 r212 false (F212 f142)) :=
  fn_ok tab_ok (envL_ok (l := [(142, mkE p142 r142 false f142)]) (OKs.cons h142 OKs.nil)) mixed (ann := (fun _ => false)) (L := L212 f142) (fn := Proofs.Tryz.f212) (c := bodyC Proofs.Tryz.f212) (ls := [(0, loopC Proofs.Tryz.f212 0)]) Proofs.Tryz.func212 (by kernel_rfl) (by kernel_rfl) (by kernel_rfl) (by kernel_rfl)
    (LoopsP.cons q212_0 (s212_0 f142) rfl (e212_0 f142) LoopsP.nil) (e212 f142)
/-! spec.l5Sum -/
def p213 : List SP := [.one (.r .int)]
def r213 : List SP := [.one (.int .i64)]
def q213_0 : List SP := pat 17 0 [(3, .one (.int .i64)), (6, .one (.r .int)), (7, .one (.int .i64)), (8, .one (.int .i64))]
noncomputable def s213_0 (t1 : Int × List Int × Int × Int × Unit) (rec K : Int × List Int × Int × Int × Unit → Option (Int × Unit)) : Option (Int × Unit) :=
  cond (decide (t1.2.2.2.1 < t1.2.2.1)) (rdL t1.2.1 t1.2.2.2.1 fun d2 => rec ((w64 (t1.1 + d2)), t1.2.1, t1.2.2.1, (w64 (t1.2.2.2.1 + 1)), ())) (K (t1.1, t1.2.1, t1.2.2.1, t1.2.2.2.1, ()))
noncomputable def F213 (a : List Int × Unit) : Option (Int × Unit) :=
  iterF (s213_0) fuel (0, a.1, (Int.ofNat (List.length a.1)), 0, ()) fun t3 => some (t3.1, ())
def E213 : Env := envL []
noncomputable def L213 : LEnv (densS (muts p213 ++ r213)) := lenv [(0, loopL (R := densS (muts p213 ++ r213)) q213_0 (s213_0))]
theorem e213_0 (X : Nat → St → Option (densS (muts p213 ++ r213))) (rec K : densS q213_0 → Option (densS (muts p213 ++ r213))) (t : densS q213_0) :
    ev (E213) tab (fun _ => false) (L213) (retK tab p213 r213 Proofs.Tryz.f213.results.toList) (loopC Proofs.Tryz.f213 0) (fun i s => cond (Nat.beq i 0) (decK 100 q213_0 s K) (X i s)) (fun s => decK 100 q213_0 s rec) (enc q213_0 t) = s213_0 t rec K := by kernel_rfl
theorem e213 (a : densS p213) : runF (E213) tab (fun _ => false) p213 r213 Proofs.Tryz.f213 (L213) a = F213 a := by kernel_rfl
theorem ok213 : OK Proofs.Tryz.prog 213 (mkE p213 r213 false (F213)) :=
  fn_ok tab_ok (envL_ok (l := []) OKs.nil) mixed (ann := (fun _ => false)) (L := L213) (fn := Proofs.Tryz.f213) (c := bodyC Proofs.Tryz.f213) (ls := [(0, loopC Proofs.Tryz.f213 0)]) Proofs.Tryz.func213 (by kernel_rfl) (by kernel_rfl) (by kernel_rfl) (by kernel_rfl)
    (LoopsP.cons q213_0 (s213_0) rfl (e213_0) LoopsP.nil) (e213)
/-! spec.LevelFor -/
def p211 : List SP := [.one (.int .i64), .one (.r .int)]
def r211 : List SP := [.one (.int .i64)]
def q211_0 : List SP := pat 27 0 [(0, .one (.int .i64)), (1, .one (.r .int)), (5, .one (.int .i64)), (6, .one (.int .i64))]
noncomputable def s211_0 (f210 : List Int × Unit → Option (Bool × Unit)) (f191 : Int × Unit → Option (Bool × Unit)) (f212 : List Int × Int × Unit → Option (List Int × Unit)) (f213 : List Int × Unit → Option (Int × Unit)) (t1 : Int × List Int × Int × Int × Unit) (rec K : Int × List Int × Int × Int × Unit → Option (Int × Unit)) : Option (Int × Unit) :=
  cond (decide (t1.2.2.2.1 ≤ 64)) ((f210 (t1.2.1, ())).bind fun x2 => cond x2.1 ((f191 (t1.1, ())).bind fun x3 => cond x3.1 ((f212 (t1.2.1, t1.2.2.2.1, ())).bind fun x4 => (f213 (x4.1, ())).bind fun x5 => cond (decide (x5.1 ≤ t1.1)) (rec (t1.1, t1.2.1, t1.2.2.2.1, (w64 (t1.2.2.2.1 + 1)), ())) (rec (t1.1, t1.2.1, t1.2.2.1, (w64 (t1.2.2.2.1 + 1)), ()))) (K (t1.1, t1.2.1, t1.2.2.1, t1.2.2.2.1, ()))) (K (t1.1, t1.2.1, t1.2.2.1, t1.2.2.2.1, ()))) (K (t1.1, t1.2.1, t1.2.2.1, t1.2.2.2.1, ()))
noncomputable def F211 (f210 : List Int × Unit → Option (Bool × Unit)) (f191 : Int × Unit → Option (Bool × Unit)) (f212 : List Int × Int × Unit → Option (List Int × Unit)) (f213 : List Int × Unit → Option (Int × Unit)) (a : Int × List Int × Unit) : Option (Int × Unit) :=
  iterF (s211_0 f210 f191 f212 f213) fuel (a.1, a.2.1, 0, 1, ()) fun t6 => some (t6.2.2.1, ())
def E211 (f210 : List Int × Unit → Option (Bool × Unit)) (f191 : Int × Unit → Option (Bool × Unit)) (f212 : List Int × Int × Unit → Option (List Int × Unit)) (f213 : List Int × Unit → Option (Int × Unit)) : Env := envL [(210, mkE p210 r210 false f210), (191, mkE p191 r191 false f191), (212, mkE p212 r212 false f212), (213, mkE p213 r213 false f213)]
noncomputable def L211 (f210 : List Int × Unit → Option (Bool × Unit)) (f191 : Int × Unit → Option (Bool × Unit)) (f212 : List Int × Int × Unit → Option (List Int × Unit)) (f213 : List Int × Unit → Option (Int × Unit)) : LEnv (densS (muts p211 ++ r211)) := lenv [(0, loopL (R := densS (muts p211 ++ r211)) q211_0 (s211_0 f210 f191 f212 f213))]
theorem e211_0 (f210 : List Int × Unit → Option (Bool × Unit)) (f191 : Int × Unit → Option (Bool × Unit)) (f212 : List Int × Int × Unit → Option (List Int × Unit)) (f213 : List Int × Unit → Option (Int × Unit)) (X : Nat → St → Option (densS (muts p211 ++ r211))) (rec K : densS q211_0 → Option (densS (muts p211 ++ r211))) (t : densS q211_0) :
    ev (E211 f210 f191 f212 f213) tab (fun _ => false) (L211 f210 f191 f212 f213) (retK tab p211 r211 Proofs.Tryz.f211.results.toList) (loopC Proofs.Tryz.f211 0) (fun i s => cond (Nat.beq i 0) (decK 100 q211_0 s K) (X i s)) (fun s => decK 100 q211_0 s rec) (enc q211_0 t) = s211_0 f210 f191 f212 f213 t rec K := by kernel_rfl
theorem e211 (f210 : List Int × Unit → Option (Bool × Unit)) (f191 : Int × Unit → Option (Bool × Unit)) (f212 : List Int × Int × Unit → Option (List Int × Unit)) (f213 : List Int × Unit → Option (Int × Unit)) (a : densS p211) : runF (E211 f210 f191 f212 f213) tab (fun _ => false) p211 r211 Proofs.Tryz.f211 (L211 f210 f191 f212 f213) a = F211 f210 f191 f212 f213 a := by kernel_rfl
theorem ok211 {f210 : List Int × Unit → Option (Bool × Unit)} {f191 : Int × Unit → Option (Bool × Unit)} {f212 : List Int × Int × Unit → Option (List Int × Unit)} {f213 : List Int × Unit → Option (Int × Unit)} (h210 : OK Proofs.Tryz.prog 210 (mkE p210 r210 false f210)) (h191 : OK Proofs.Tryz.prog 191 (mkE p191 r191 false f191)) (h212 : OK Proofs.Tryz.prog 212 (mkE p212 r212 false f212)) (h213 : OK Proofs.Tryz.prog 213 (mkE p213 r213 false f213)) : OK Proofs.Tryz.prog 211 (mkE p211 r211 false (F211 f210 f191 f212 f213)) :=
  fn_ok tab_ok (envL_ok (l := [(210, mkE p210 r210 false f210), (191, mkE p191 r191 false f191), (212, mkE p212 r212 false f212), (213, mkE p213 r213 false f213)]) (OKs.cons h210 (OKs.cons h191 (OKs.cons h212 (OKs.cons h213 OKs.nil))))) mixed (ann := (fun _ => false)) (L := L211 f210 f191 f212 f213) (fn := Proofs.Tryz.f211) (c := bodyC Proofs.Tryz.f211) (ls := [(0, loopC Proofs.Tryz.f211 0)]) Proofs.Tryz.func211 (by kernel_rfl) (by kernel_rfl) (by kernel_rfl) (by kernel_rfl)
    (LoopsP.cons q211_0 (s211_0 f210 f191 f212 f213) rfl (e211_0 f210 f191 f212 f213) LoopsP.nil) (e211 f210 f191 f212 f213)
/-! spec.ShareOut -/
def p181 : List SP := [.one (.int .i64), .one (.r .int)]
def r181 : List SP := [.one (.o 0 .int)]
def q181_0 : List SP := pat 55 0 [(5, .one (.int .i64)), (6, .one (.o 5000001 .int)), (7, .one (.int .i64)), (29, .one (.r .int)), (30, .one (.int .i64)), (31, .one (.int .i64))]
noncomputable def s181_0 (f210 : List Int × Unit → Option (Bool × Unit)) (f191 : Int × Unit → Option (Bool × Unit)) (f211 : Int × List Int × Unit → Option (Int × Unit)) (f212 : List Int × Int × Unit → Option (List Int × Unit)) (f213 : List Int × Unit → Option (Int × Unit)) (t6 : Int × List Int × Int × List Int × Int × Int × Unit) (rec K : Int × List Int × Int × List Int × Int × Int × Unit → Option (List Int × Unit)) : Option (List Int × Unit) :=
  cond (decide (t6.2.2.2.2.2.1 < t6.2.2.2.2.1)) (rdL t6.2.2.2.1 t6.2.2.2.2.2.1 fun d7 => cond (decide (d7 > t6.1)) (cond (decide (t6.2.2.1 > 0)) (rdL t6.2.1 t6.2.2.2.2.2.1 fun _ => (t6.2.1[(Int.toNat t6.2.2.2.2.2.1)]?).bind fun d8 => rdL t6.2.1 t6.2.2.2.2.2.1 fun _ => (t6.2.1[(Int.toNat t6.2.2.2.2.2.1)]?).bind fun d9 => rec (t6.1, (List.set t6.2.1 (Int.toNat t6.2.2.2.2.2.1) (w64 (d8 + 1))), (w64 (t6.2.2.1 - 1)), t6.2.2.2.1, t6.2.2.2.2.1, (w64 (t6.2.2.2.2.2.1 + 1)), ())) (rec (t6.1, t6.2.1, t6.2.2.1, t6.2.2.2.1, t6.2.2.2.2.1, (w64 (t6.2.2.2.2.2.1 + 1)), ()))) (rec (t6.1, t6.2.1, t6.2.2.1, t6.2.2.2.1, t6.2.2.2.2.1, (w64 (t6.2.2.2.2.2.1 + 1)), ()))) (K (t6.1, t6.2.1, t6.2.2.1, t6.2.2.2.1, t6.2.2.2.2.1, t6.2.2.2.2.2.1, ()))
noncomputable def F181 (f210 : List Int × Unit → Option (Bool × Unit)) (f191 : Int × Unit → Option (Bool × Unit)) (f211 : Int × List Int × Unit → Option (Int × Unit)) (f212 : List Int × Int × Unit → Option (List Int × Unit)) (f213 : List Int × Unit → Option (Int × Unit)) (a : Int × List Int × Unit) : Option (List Int × Unit) :=
  (f210 (a.2.1, ())).bind fun x1 => cond (!(!x1.1)) ((f191 (a.1, ())).bind fun x2 => cond (!x2.1) (some (([] : List Int), ())) ((f211 (a.1, a.2.1, ())).bind fun x3 => (f212 (a.2.1, x3.1, ())).bind fun x4 => (f213 (x4.1, ())).bind fun x5 => iterF (s181_0 f210 f191 f211 f212 f213) fuel (x3.1, x4.1, (w64 (a.1 - x5.1)), a.2.1, (Int.ofNat (List.length a.2.1)), 0, ()) fun t10 => some (t10.2.1, ()))) (some (([] : List Int), ()))
def E181 (f210 : List Int × Unit → Option (Bool × Unit)) (f191 : Int × Unit → Option (Bool × Unit)) (f211 : Int × List Int × Unit → Option (Int × Unit)) (f212 : List Int × Int × Unit → Option (List Int × Unit)) (f213 : List Int × Unit → Option (Int × Unit)) : Env := envL [(210, mkE p210 r210 false f210), (191, mkE p191 r191 false f191), (211, mkE p211 r211 false f211), (212, mkE p212 r212 false f212), (213, mkE p213 r213 false f213)]
noncomputable def L181 (f210 : List Int × Unit → Option (Bool × Unit)) (f191 : Int × Unit → Option (Bool × Unit)) (f211 : Int × List Int × Unit → Option (Int × Unit)) (f212 : List Int × Int × Unit → Option (List Int × Unit)) (f213 : List Int × Unit → Option (Int × Unit)) : LEnv (densS (muts p181 ++ r181)) := lenv [(0, loopL (R := densS (muts p181 ++ r181)) q181_0 (s181_0 f210 f191 f211 f212 f213))]
theorem e181_0 (f210 : List Int × Unit → Option (Bool × Unit)) (f191 : Int × Unit → Option (Bool × Unit)) (f211 : Int × List Int × Unit → Option (Int × Unit)) (f212 : List Int × Int × Unit → Option (List Int × Unit)) (f213 : List Int × Unit → Option (Int × Unit)) (X : Nat → St → Option (densS (muts p181 ++ r181))) (rec K : densS q181_0 → Option (densS (muts p181 ++ r181))) (t : densS q181_0) :
    ev (E181 f210 f191 f211 f212 f213) tab (fun _ => false) (L181 f210 f191 f211 f212 f213) (retK tab p181 r181 Proofs.Tryz.f181.results.toList) (loopC Proofs.Tryz.f181 0) (fun i s => cond (Nat.beq i 0) (decK 100 q181_0 s K) (X i s)) (fun s => decK 100 q181_0 s rec) (enc q181_0 t) = s181_0 f210 f191 f211 f212 f213 t rec K := by kernel_rfl
theorem e181 (f210 : List Int × Unit → Option (Bool × Unit)) (f191 : Int × Unit → Option (Bool × Unit)) (f211 : Int × List Int × Unit → Option (Int × Unit)) (f212 : List Int × Int × Unit → Option (List Int × Unit)) (f213 : List Int × Unit → Option (Int × Unit)) (a : densS p181) : runF (E181 f210 f191 f211 f212 f213) tab (fun _ => false) p181 r181 Proofs.Tryz.f181 (L181 f210 f191 f211 f212 f213) a = F181 f210 f191 f211 f212 f213 a := by kernel_rfl
theorem ok181 {f210 : List Int × Unit → Option (Bool × Unit)} {f191 : Int × Unit → Option (Bool × Unit)} {f211 : Int × List Int × Unit → Option (Int × Unit)} {f212 : List Int × Int × Unit → Option (List Int × Unit)} {f213 : List Int × Unit → Option (Int × Unit)} (h210 : OK Proofs.Tryz.prog 210 (mkE p210 r210 false f210)) (h191 : OK Proofs.Tryz.prog 191 (mkE p191 r191 false f191)) (h211 : OK Proofs.Tryz.prog 211 (mkE p211 r211 false f211)) (h212 : OK Proofs.Tryz.prog 212 (mkE p212 r212 false f212)) (h213 : OK Proofs.Tryz.prog 213 (mkE p213 r213 false f213)) : OK Proofs.Tryz.prog 181 (mkE p181 r181 false (F181 f210 f191 f211 f212 f213)) :=
  fn_ok tab_ok (envL_ok (l := [(210, mkE p210 r210 false f210), (191, mkE p191 r191 false f191), (211, mkE p211 r211 false f211), (212, mkE p212 r212 false f212), (213, mkE p213 r213 false f213)]) (OKs.cons h210 (OKs.cons h191 (OKs.cons h211 (OKs.cons h212 (OKs.cons h213 OKs.nil)))))) mixed (ann := (fun _ => false)) (L := L181 f210 f191 f211 f212 f213) (fn := Proofs.Tryz.f181) (c := bodyC Proofs.Tryz.f181) (ls := [(0, loopC Proofs.Tryz.f181 0)]) Proofs.Tryz.func181 (by kernel_rfl) (by kernel_rfl) (by kernel_rfl) (by kernel_rfl)
    (LoopsP.cons q181_0 (s181_0 f210 f191 f211 f212 f213) rfl (e181_0 f210 f191 f211 f212 f213) LoopsP.nil) (e181 f210 f191 f211 f212 f213)
/-! spec.l9Lifts -/
def p134 : List SP := [.agg [.r .device, .r .cue, .r .gust, .int .i64], .one (.int .i64)]
def r134 : List SP := [.one (.o 0 .int)]
def q134_2 : List SP := pat 92 0 [(1, .one (.int .i64)), (2, .box 5002001 [.r .device, .r .cue, .r .gust, .int .i64]), (5, .one (.o 5002002 .int)), (7, .boxt 5002003 .device), (8, .one (.o 5002004 .int)), (9, .one (.o 5002005 .int)), (19, .one (.r .device)), (20, .one (.int .i64)), (21, .one (.int .i64)), (28, .one (.r .device)), (29, .one (.int .i64)), (30, .one (.int .i64))]
noncomputable def s134_2 (f106 : Int × Int × Int × Unit → Option (Bool × Unit)) (f180 : List Cue × Str × Int × Unit → Option (Int × Unit)) (f142 : Int × Int × Unit → Option (Int × Unit)) (f181 : Int × List Int × Unit → Option (List Int × Unit)) (t3 : Int × ShD × List Int × Device × List Int × List Int × List Device × Int × Int × List Device × Int × Int × Unit) (rec K : Int × ShD × List Int × Device × List Int × List Int × List Device × Int × Int × List Device × Int × Int × Unit → Option (List Int × Unit)) : Option (List Int × Unit) :=
  cond (decide (t3.2.2.2.2.2.2.2.2.2.2.2.1 < t3.2.2.2.2.2.2.2.2.2.2.1)) (rdL t3.2.2.2.2.2.2.2.2.2.1 t3.2.2.2.2.2.2.2.2.2.2.2.1 fun d4 => cond (decide (d4.Kind = 2)) (cond (decide (d4.Line = t3.2.2.2.1.Name)) ((f106 (t3.1, 0, (w64 (t3.2.1.2.2.2.1 - 1)), ())).bind fun x5 => cond x5.1 ((f180 (t3.2.1.2.1, d4.Name, t3.1, ())).bind fun x6 => (f142 (x6.1, d4.Most, ())).bind fun x7 => capK (List.length t3.2.2.2.2.1 + List.length ([x7.1] : List Int)) (capK (List.length t3.2.2.2.2.2.1 + List.length ([t3.2.2.2.2.2.2.2.2.2.2.2.1] : List Int)) (rec (t3.1, (t3.2.1.1, t3.2.1.2.1, t3.2.1.2.2.1, t3.2.1.2.2.2.1, ()), t3.2.2.1, t3.2.2.2.1, (t3.2.2.2.2.1 ++ ([x7.1] : List Int)), (t3.2.2.2.2.2.1 ++ ([t3.2.2.2.2.2.2.2.2.2.2.2.1] : List Int)), t3.2.2.2.2.2.2.1, t3.2.2.2.2.2.2.2.1, t3.2.2.2.2.2.2.2.2.1, t3.2.2.2.2.2.2.2.2.2.1, t3.2.2.2.2.2.2.2.2.2.2.1, (w64 (t3.2.2.2.2.2.2.2.2.2.2.2.1 + 1)), ())))) (rec (t3.1, (t3.2.1.1, t3.2.1.2.1, t3.2.1.2.2.1, t3.2.1.2.2.2.1, ()), t3.2.2.1, t3.2.2.2.1, t3.2.2.2.2.1, t3.2.2.2.2.2.1, t3.2.2.2.2.2.2.1, t3.2.2.2.2.2.2.2.1, t3.2.2.2.2.2.2.2.2.1, t3.2.2.2.2.2.2.2.2.2.1, t3.2.2.2.2.2.2.2.2.2.2.1, (w64 (t3.2.2.2.2.2.2.2.2.2.2.2.1 + 1)), ()))) (rec (t3.1, (t3.2.1.1, t3.2.1.2.1, t3.2.1.2.2.1, t3.2.1.2.2.2.1, ()), t3.2.2.1, t3.2.2.2.1, t3.2.2.2.2.1, t3.2.2.2.2.2.1, t3.2.2.2.2.2.2.1, t3.2.2.2.2.2.2.2.1, t3.2.2.2.2.2.2.2.2.1, t3.2.2.2.2.2.2.2.2.2.1, t3.2.2.2.2.2.2.2.2.2.2.1, (w64 (t3.2.2.2.2.2.2.2.2.2.2.2.1 + 1)), ()))) (rec (t3.1, (t3.2.1.1, t3.2.1.2.1, t3.2.1.2.2.1, t3.2.1.2.2.2.1, ()), t3.2.2.1, t3.2.2.2.1, t3.2.2.2.2.1, t3.2.2.2.2.2.1, t3.2.2.2.2.2.2.1, t3.2.2.2.2.2.2.2.1, t3.2.2.2.2.2.2.2.2.1, t3.2.2.2.2.2.2.2.2.2.1, t3.2.2.2.2.2.2.2.2.2.2.1, (w64 (t3.2.2.2.2.2.2.2.2.2.2.2.1 + 1)), ()))) (K (t3.1, (t3.2.1.1, t3.2.1.2.1, t3.2.1.2.2.1, t3.2.1.2.2.2.1, ()), t3.2.2.1, t3.2.2.2.1, t3.2.2.2.2.1, t3.2.2.2.2.2.1, t3.2.2.2.2.2.2.1, t3.2.2.2.2.2.2.2.1, t3.2.2.2.2.2.2.2.2.1, t3.2.2.2.2.2.2.2.2.2.1, t3.2.2.2.2.2.2.2.2.2.2.1, t3.2.2.2.2.2.2.2.2.2.2.2.1, ()))
def q134_4 : List SP := pat 92 0 [(1, .one (.int .i64)), (2, .box 5004001 [.r .device, .r .cue, .r .gust, .int .i64]), (5, .one (.o 5004002 .int)), (9, .one (.o 5004003 .int)), (19, .one (.r .device)), (20, .one (.int .i64)), (21, .one (.int .i64)), (75, .one (.o 5004004 .int)), (76, .one (.int .i64)), (77, .one (.int .i64))]
noncomputable def s134_4 (f106 : Int × Int × Int × Unit → Option (Bool × Unit)) (f180 : List Cue × Str × Int × Unit → Option (Int × Unit)) (f142 : Int × Int × Unit → Option (Int × Unit)) (f181 : Int × List Int × Unit → Option (List Int × Unit)) (t10 : Int × ShD × List Int × List Int × List Device × Int × Int × List Int × Int × Int × Unit) (rec K : Int × ShD × List Int × List Int × List Device × Int × Int × List Int × Int × Int × Unit → Option (List Int × Unit)) : Option (List Int × Unit) :=
  cond (decide (t10.2.2.2.2.2.2.2.2.2.1 < t10.2.2.2.2.2.2.2.2.1)) (rdL t10.2.2.2.2.2.2.2.1 t10.2.2.2.2.2.2.2.2.2.1 fun _ => (t10.2.2.2.2.2.2.2.1[(Int.toNat t10.2.2.2.2.2.2.2.2.2.1)]?).bind fun d11 => rdL t10.2.2.2.1 t10.2.2.2.2.2.2.2.2.2.1 fun _ => (t10.2.2.2.1[(Int.toNat t10.2.2.2.2.2.2.2.2.2.1)]?).bind fun d12 => rdL t10.2.2.1 d12 fun _ => (t10.2.2.1[(Int.toNat d12)]?).bind fun d13 => rec (t10.1, (t10.2.1.1, t10.2.1.2.1, t10.2.1.2.2.1, t10.2.1.2.2.2.1, ()), (List.set t10.2.2.1 (Int.toNat d12) d11), t10.2.2.2.1, t10.2.2.2.2.1, t10.2.2.2.2.2.1, t10.2.2.2.2.2.2.1, t10.2.2.2.2.2.2.2.1, t10.2.2.2.2.2.2.2.2.1, (w64 (t10.2.2.2.2.2.2.2.2.2.1 + 1)), ())) (K (t10.1, (t10.2.1.1, t10.2.1.2.1, t10.2.1.2.2.1, t10.2.1.2.2.2.1, ()), t10.2.2.1, t10.2.2.2.1, t10.2.2.2.2.1, t10.2.2.2.2.2.1, t10.2.2.2.2.2.2.1, t10.2.2.2.2.2.2.2.1, t10.2.2.2.2.2.2.2.2.1, t10.2.2.2.2.2.2.2.2.2.1, ()))
def q134_0 : List SP := pat 92 0 [(1, .one (.int .i64)), (2, .box 5000001 [.r .device, .r .cue, .r .gust, .int .i64]), (5, .one (.o 5000002 .int)), (19, .one (.r .device)), (20, .one (.int .i64)), (21, .one (.int .i64))]
noncomputable def s134_0 (f106 : Int × Int × Int × Unit → Option (Bool × Unit)) (f180 : List Cue × Str × Int × Unit → Option (Int × Unit)) (f142 : Int × Int × Unit → Option (Int × Unit)) (f181 : Int × List Int × Unit → Option (List Int × Unit)) (t1 : Int × ShD × List Int × List Device × Int × Int × Unit) (rec K : Int × ShD × List Int × List Device × Int × Int × Unit → Option (List Int × Unit)) : Option (List Int × Unit) :=
  cond (decide (t1.2.2.2.2.2.1 < t1.2.2.2.2.1)) (rdL t1.2.2.2.1 t1.2.2.2.2.2.1 fun d2 => iterF (s134_2 f106 f180 f142 f181) fuel (t1.1, (t1.2.1.1, t1.2.1.2.1, t1.2.1.2.2.1, t1.2.1.2.2.2.1, ()), t1.2.2.1, d2, ([] : List Int), ([] : List Int), t1.2.2.2.1, t1.2.2.2.2.1, t1.2.2.2.2.2.1, t1.2.1.1, (Int.ofNat (List.length t1.2.1.1)), 0, ()) fun t8 => cond (decide ((Int.ofNat (List.length t8.2.2.2.2.1)) > 0)) ((f181 (t8.2.2.2.1.Most, t8.2.2.2.2.1, ())).bind fun x9 => iterF (s134_4 f106 f180 f142 f181) fuel (t8.1, (t8.2.1.1, t8.2.1.2.1, t8.2.1.2.2.1, t8.2.1.2.2.2.1, ()), t8.2.2.1, t8.2.2.2.2.2.1, t8.2.2.2.2.2.2.1, t8.2.2.2.2.2.2.2.1, t8.2.2.2.2.2.2.2.2.1, x9.1, (Int.ofNat (List.length x9.1)), 0, ()) fun t14 => rec (t14.1, (t14.2.1.1, t14.2.1.2.1, t14.2.1.2.2.1, t14.2.1.2.2.2.1, ()), t14.2.2.1, t14.2.2.2.2.1, t14.2.2.2.2.2.1, (w64 (t14.2.2.2.2.2.2.1 + 1)), ())) (rec (t8.1, (t8.2.1.1, t8.2.1.2.1, t8.2.1.2.2.1, t8.2.1.2.2.2.1, ()), t8.2.2.1, t8.2.2.2.2.2.2.1, t8.2.2.2.2.2.2.2.1, (w64 (t8.2.2.2.2.2.2.2.2.1 + 1)), ()))) (K (t1.1, (t1.2.1.1, t1.2.1.2.1, t1.2.1.2.2.1, t1.2.1.2.2.2.1, ()), t1.2.2.1, t1.2.2.2.1, t1.2.2.2.2.1, t1.2.2.2.2.2.1, ()))
noncomputable def F134 (f106 : Int × Int × Int × Unit → Option (Bool × Unit)) (f180 : List Cue × Str × Int × Unit → Option (Int × Unit)) (f142 : Int × Int × Unit → Option (Int × Unit)) (f181 : Int × List Int × Unit → Option (List Int × Unit)) (a : ShD × Int × Unit) : Option (List Int × Unit) :=
  okIf (0 ≤ (Int.ofNat (List.length a.1.1))) (capK (Int.toNat (Int.ofNat (List.length a.1.1))) (iterF (s134_0 f106 f180 f142 f181) fuel (a.2.1, (a.1.1, a.1.2.1, a.1.2.2.1, a.1.2.2.2.1, ()), (List.replicate (Int.toNat (Int.ofNat (List.length a.1.1))) (Ty.zero .int)), a.1.1, (Int.ofNat (List.length a.1.1)), 0, ()) fun t15 => some (t15.2.2.1, ())))
def E134 (f106 : Int × Int × Int × Unit → Option (Bool × Unit)) (f180 : List Cue × Str × Int × Unit → Option (Int × Unit)) (f142 : Int × Int × Unit → Option (Int × Unit)) (f181 : Int × List Int × Unit → Option (List Int × Unit)) : Env := envL [(106, mkE p106 r106 false f106), (180, mkE p180 r180 false f180), (142, mkE p142 r142 false f142), (181, mkE p181 r181 false f181)]
noncomputable def L134 (f106 : Int × Int × Int × Unit → Option (Bool × Unit)) (f180 : List Cue × Str × Int × Unit → Option (Int × Unit)) (f142 : Int × Int × Unit → Option (Int × Unit)) (f181 : Int × List Int × Unit → Option (List Int × Unit)) : LEnv (densS (muts p134 ++ r134)) := lenv [(0, loopL (R := densS (muts p134 ++ r134)) q134_0 (s134_0 f106 f180 f142 f181)), (2, loopL (R := densS (muts p134 ++ r134)) q134_2 (s134_2 f106 f180 f142 f181)), (4, loopL (R := densS (muts p134 ++ r134)) q134_4 (s134_4 f106 f180 f142 f181))]
theorem e134_0 (f106 : Int × Int × Int × Unit → Option (Bool × Unit)) (f180 : List Cue × Str × Int × Unit → Option (Int × Unit)) (f142 : Int × Int × Unit → Option (Int × Unit)) (f181 : Int × List Int × Unit → Option (List Int × Unit)) (X : Nat → St → Option (densS (muts p134 ++ r134))) (rec K : densS q134_0 → Option (densS (muts p134 ++ r134))) (t : densS q134_0) :
    ev (E134 f106 f180 f142 f181) tab (fun _ => false) (L134 f106 f180 f142 f181) (retK tab p134 r134 Proofs.Tryz.f134.results.toList) (loopC Proofs.Tryz.f134 0) (fun i s => cond (Nat.beq i 0) (decK 100 q134_0 s K) (X i s)) (fun s => decK 100 q134_0 s rec) (enc q134_0 t) = s134_0 f106 f180 f142 f181 t rec K := by kernel_rfl
theorem e134_2 (f106 : Int × Int × Int × Unit → Option (Bool × Unit)) (f180 : List Cue × Str × Int × Unit → Option (Int × Unit)) (f142 : Int × Int × Unit → Option (Int × Unit)) (f181 : Int × List Int × Unit → Option (List Int × Unit)) (X : Nat → St → Option (densS (muts p134 ++ r134))) (rec K : densS q134_2 → Option (densS (muts p134 ++ r134))) (t : densS q134_2) :
    ev (E134 f106 f180 f142 f181) tab (fun _ => false) (L134 f106 f180 f142 f181) (retK tab p134 r134 Proofs.Tryz.f134.results.toList) (loopC Proofs.Tryz.f134 1) (fun i s => cond (Nat.beq i 2) (decK 100 q134_2 s K) (X i s)) (fun s => decK 100 q134_2 s rec) (enc q134_2 t) = s134_2 f106 f180 f142 f181 t rec K := by kernel_rfl
theorem e134_4 (f106 : Int × Int × Int × Unit → Option (Bool × Unit)) (f180 : List Cue × Str × Int × Unit → Option (Int × Unit)) (f142 : Int × Int × Unit → Option (Int × Unit)) (f181 : Int × List Int × Unit → Option (List Int × Unit)) (X : Nat → St → Option (densS (muts p134 ++ r134))) (rec K : densS q134_4 → Option (densS (muts p134 ++ r134))) (t : densS q134_4) :
    ev (E134 f106 f180 f142 f181) tab (fun _ => false) (L134 f106 f180 f142 f181) (retK tab p134 r134 Proofs.Tryz.f134.results.toList) (loopC Proofs.Tryz.f134 2) (fun i s => cond (Nat.beq i 4) (decK 100 q134_4 s K) (X i s)) (fun s => decK 100 q134_4 s rec) (enc q134_4 t) = s134_4 f106 f180 f142 f181 t rec K := by kernel_rfl
theorem e134 (f106 : Int × Int × Int × Unit → Option (Bool × Unit)) (f180 : List Cue × Str × Int × Unit → Option (Int × Unit)) (f142 : Int × Int × Unit → Option (Int × Unit)) (f181 : Int × List Int × Unit → Option (List Int × Unit)) (a : densS p134) : runF (E134 f106 f180 f142 f181) tab (fun _ => false) p134 r134 Proofs.Tryz.f134 (L134 f106 f180 f142 f181) a = F134 f106 f180 f142 f181 a := by kernel_rfl
theorem ok134 {f106 : Int × Int × Int × Unit → Option (Bool × Unit)} {f180 : List Cue × Str × Int × Unit → Option (Int × Unit)} {f142 : Int × Int × Unit → Option (Int × Unit)} {f181 : Int × List Int × Unit → Option (List Int × Unit)} (h106 : OK Proofs.Tryz.prog 106 (mkE p106 r106 false f106)) (h180 : OK Proofs.Tryz.prog 180 (mkE p180 r180 false f180)) (h142 : OK Proofs.Tryz.prog 142 (mkE p142 r142 false f142)) (h181 : OK Proofs.Tryz.prog 181 (mkE p181 r181 false f181)) : OK Proofs.Tryz.prog 134 (mkE p134 r134 false (F134 f106 f180 f142 f181)) :=
  fn_ok tab_ok (envL_ok (l := [(106, mkE p106 r106 false f106), (180, mkE p180 r180 false f180), (142, mkE p142 r142 false f142), (181, mkE p181 r181 false f181)]) (OKs.cons h106 (OKs.cons h180 (OKs.cons h142 (OKs.cons h181 OKs.nil))))) mixed (ann := (fun _ => false)) (L := L134 f106 f180 f142 f181) (fn := Proofs.Tryz.f134) (c := bodyC Proofs.Tryz.f134) (ls := [(0, loopC Proofs.Tryz.f134 0), (2, loopC Proofs.Tryz.f134 1), (4, loopC Proofs.Tryz.f134 2)]) Proofs.Tryz.func134 (by kernel_rfl) (by kernel_rfl) (by kernel_rfl) (by kernel_rfl)
    (LoopsP.cons q134_0 (s134_0 f106 f180 f142 f181) rfl (e134_0 f106 f180 f142 f181) (LoopsP.cons q134_2 (s134_2 f106 f180 f142 f181) rfl (e134_2 f106 f180 f142 f181) (LoopsP.cons q134_4 (s134_4 f106 f180 f142 f181) rfl (e134_4 f106 f180 f142 f181) LoopsP.nil))) (e134 f106 f180 f142 f181)
/-! spec.l9Jet -/
def p135 : List SP := [.t .device, .one (.int .i64)]
def r135 : List SP := [.t .jet]
noncomputable def F135 (a : Device × Int × Unit) : Option (Jet × Unit) :=
  some ((⟨⟨a.1.At.X, a.1.At.Y⟩, a.1.Heading, a.1.Tilt, a.2.1⟩ : Jet), ())
def E135 : Env := envL []
noncomputable def L135 : LEnv (densS (muts p135 ++ r135)) := lenv []
theorem e135 (a : densS p135) : runF (E135) tab (fun _ => false) p135 r135 Proofs.Tryz.f135 (L135) a = F135 a := by kernel_rfl
theorem ok135 : OK Proofs.Tryz.prog 135 (mkE p135 r135 false (F135)) :=
  fn_ok tab_ok (envL_ok (l := []) OKs.nil) mixed (ann := (fun _ => false)) (L := L135) (fn := Proofs.Tryz.f135) (c := bodyC Proofs.Tryz.f135) (ls := []) Proofs.Tryz.func135 (by kernel_rfl) (by kernel_rfl) (by kernel_rfl) (by kernel_rfl)
    LoopsP.nil (e135)
/-! spec.l9All -/
def p85 : List SP := [.agg [.r .device, .r .cue, .r .gust, .int .i64]]
def r85 : List SP := [.one (.o 0 .throw)]
def q85_2 : List SP := pat 45 0 [(1, .box 5002001 [.r .device, .r .cue, .r .gust, .int .i64]), (3, .one (.o 5002002 .throw)), (4, .one (.int .i64)), (16, .one (.o 5002003 .int)), (17, .one (.int .i64)), (18, .one (.int .i64))]
noncomputable def s85_2 (f134 : ShD × Int × Unit → Option (List Int × Unit)) (f135 : Device × Int × Unit → Option (Jet × Unit)) (t3 : ShD × List Throw × Int × List Int × Int × Int × Unit) (rec K : ShD × List Throw × Int × List Int × Int × Int × Unit → Option (List Throw × Unit)) : Option (List Throw × Unit) :=
  cond (decide (t3.2.2.2.2.2.1 < t3.2.2.2.2.1)) (rdL t3.2.2.2.1 t3.2.2.2.2.2.1 fun _ => (t3.2.2.2.1[(Int.toNat t3.2.2.2.2.2.1)]?).bind fun d4 => cond (decide (d4 > 0)) (rdL t3.1.1 t3.2.2.2.2.2.1 fun d5 => rdL t3.1.1 t3.2.2.2.2.2.1 fun d6 => (f135 (d6, d4, ())).bind fun x7 => capK (List.length t3.2.1 + List.length ([(⟨d5.Name, t3.2.2.1, ⟨⟨x7.1.At.X, x7.1.At.Y⟩, x7.1.Heading, x7.1.Tilt, x7.1.Lift⟩⟩ : Throw)] : List Throw)) (rec ((t3.1.1, t3.1.2.1, t3.1.2.2.1, t3.1.2.2.2.1, ()), (t3.2.1 ++ ([(⟨d5.Name, t3.2.2.1, ⟨⟨x7.1.At.X, x7.1.At.Y⟩, x7.1.Heading, x7.1.Tilt, x7.1.Lift⟩⟩ : Throw)] : List Throw)), t3.2.2.1, t3.2.2.2.1, t3.2.2.2.2.1, (w64 (t3.2.2.2.2.2.1 + 1)), ()))) (rec ((t3.1.1, t3.1.2.1, t3.1.2.2.1, t3.1.2.2.2.1, ()), t3.2.1, t3.2.2.1, t3.2.2.2.1, t3.2.2.2.2.1, (w64 (t3.2.2.2.2.2.1 + 1)), ()))) (K ((t3.1.1, t3.1.2.1, t3.1.2.2.1, t3.1.2.2.2.1, ()), t3.2.1, t3.2.2.1, t3.2.2.2.1, t3.2.2.2.2.1, t3.2.2.2.2.2.1, ()))
def q85_0 : List SP := pat 45 0 [(1, .box 5000001 [.r .device, .r .cue, .r .gust, .int .i64]), (3, .one (.o 5000002 .throw)), (4, .one (.int .i64))]
noncomputable def s85_0 (f134 : ShD × Int × Unit → Option (List Int × Unit)) (f135 : Device × Int × Unit → Option (Jet × Unit)) (t1 : ShD × List Throw × Int × Unit) (rec K : ShD × List Throw × Int × Unit → Option (List Throw × Unit)) : Option (List Throw × Unit) :=
  cond (decide (t1.2.2.1 < t1.1.2.2.2.1)) ((f134 ((t1.1.1, t1.1.2.1, t1.1.2.2.1, t1.1.2.2.2.1, ()), t1.2.2.1, ())).bind fun x2 => iterF (s85_2 f134 f135) fuel ((t1.1.1, t1.1.2.1, t1.1.2.2.1, t1.1.2.2.2.1, ()), t1.2.1, t1.2.2.1, x2.1, (Int.ofNat (List.length x2.1)), 0, ()) fun t8 => rec ((t8.1.1, t8.1.2.1, t8.1.2.2.1, t8.1.2.2.2.1, ()), t8.2.1, (w64 (t8.2.2.1 + 1)), ())) (K ((t1.1.1, t1.1.2.1, t1.1.2.2.1, t1.1.2.2.2.1, ()), t1.2.1, t1.2.2.1, ()))
noncomputable def F85 (f134 : ShD × Int × Unit → Option (List Int × Unit)) (f135 : Device × Int × Unit → Option (Jet × Unit)) (a : ShD × Unit) : Option (List Throw × Unit) :=
  iterF (s85_0 f134 f135) fuel ((a.1.1, a.1.2.1, a.1.2.2.1, a.1.2.2.2.1, ()), ([] : List Throw), 0, ()) fun t9 => some (t9.2.1, ())
def E85 (f134 : ShD × Int × Unit → Option (List Int × Unit)) (f135 : Device × Int × Unit → Option (Jet × Unit)) : Env := envL [(134, mkE p134 r134 false f134), (135, mkE p135 r135 false f135)]
noncomputable def L85 (f134 : ShD × Int × Unit → Option (List Int × Unit)) (f135 : Device × Int × Unit → Option (Jet × Unit)) : LEnv (densS (muts p85 ++ r85)) := lenv [(0, loopL (R := densS (muts p85 ++ r85)) q85_0 (s85_0 f134 f135)), (2, loopL (R := densS (muts p85 ++ r85)) q85_2 (s85_2 f134 f135))]
theorem e85_0 (f134 : ShD × Int × Unit → Option (List Int × Unit)) (f135 : Device × Int × Unit → Option (Jet × Unit)) (X : Nat → St → Option (densS (muts p85 ++ r85))) (rec K : densS q85_0 → Option (densS (muts p85 ++ r85))) (t : densS q85_0) :
    ev (E85 f134 f135) tab (fun _ => false) (L85 f134 f135) (retK tab p85 r85 Proofs.Tryz.f85.results.toList) (loopC Proofs.Tryz.f85 0) (fun i s => cond (Nat.beq i 0) (decK 100 q85_0 s K) (X i s)) (fun s => decK 100 q85_0 s rec) (enc q85_0 t) = s85_0 f134 f135 t rec K := by kernel_rfl
theorem e85_2 (f134 : ShD × Int × Unit → Option (List Int × Unit)) (f135 : Device × Int × Unit → Option (Jet × Unit)) (X : Nat → St → Option (densS (muts p85 ++ r85))) (rec K : densS q85_2 → Option (densS (muts p85 ++ r85))) (t : densS q85_2) :
    ev (E85 f134 f135) tab (fun _ => false) (L85 f134 f135) (retK tab p85 r85 Proofs.Tryz.f85.results.toList) (loopC Proofs.Tryz.f85 1) (fun i s => cond (Nat.beq i 2) (decK 100 q85_2 s K) (X i s)) (fun s => decK 100 q85_2 s rec) (enc q85_2 t) = s85_2 f134 f135 t rec K := by kernel_rfl
theorem e85 (f134 : ShD × Int × Unit → Option (List Int × Unit)) (f135 : Device × Int × Unit → Option (Jet × Unit)) (a : densS p85) : runF (E85 f134 f135) tab (fun _ => false) p85 r85 Proofs.Tryz.f85 (L85 f134 f135) a = F85 f134 f135 a := by kernel_rfl
theorem ok85 {f134 : ShD × Int × Unit → Option (List Int × Unit)} {f135 : Device × Int × Unit → Option (Jet × Unit)} (h134 : OK Proofs.Tryz.prog 134 (mkE p134 r134 false f134)) (h135 : OK Proofs.Tryz.prog 135 (mkE p135 r135 false f135)) : OK Proofs.Tryz.prog 85 (mkE p85 r85 false (F85 f134 f135)) :=
  fn_ok tab_ok (envL_ok (l := [(134, mkE p134 r134 false f134), (135, mkE p135 r135 false f135)]) (OKs.cons h134 (OKs.cons h135 OKs.nil))) mixed (ann := (fun _ => false)) (L := L85 f134 f135) (fn := Proofs.Tryz.f85) (c := bodyC Proofs.Tryz.f85) (ls := [(0, loopC Proofs.Tryz.f85 0), (2, loopC Proofs.Tryz.f85 1)]) Proofs.Tryz.func85 (by kernel_rfl) (by kernel_rfl) (by kernel_rfl) (by kernel_rfl)
    (LoopsP.cons q85_0 (s85_0 f134 f135) rfl (e85_0 f134 f135) (LoopsP.cons q85_2 (s85_2 f134 f135) rfl (e85_2 f134 f135) LoopsP.nil)) (e85 f134 f135)
/-! spec.FlightOf -/
def p93 : List SP := [.t .jet]
def r93 : List SP := [.one (.int .i64)]
def q93_0 : List SP := pat 24 0 [(3, .one (.int .i64)), (4, .one (.int .i64)), (5, .one (.int .i64))]
noncomputable def s93_0 (f146 : Jet × Unit → Option (Bool × Unit)) (t2 : Int × Int × Int × Unit) (rec K : Int × Int × Int × Unit → Option (Int × Unit)) : Option (Int × Unit) :=
  cond (decide (t2.2.1 > 0)) (rec ((w64 (t2.1 + 1)), (w64 (t2.2.1 + t2.2.2.1)), (w64 (t2.2.2.1 - 2)), ())) (K (t2.1, t2.2.1, t2.2.2.1, ()))
noncomputable def F93 (f146 : Jet × Unit → Option (Bool × Unit)) (a : Jet × Unit) : Option (Int × Unit) :=
  (f146 (a.1, ())).bind fun x1 => cond (!x1.1) (some (0, ())) (iterF (s93_0 f146) fuel (1, a.1.Lift, (w64 (a.1.Lift - 2)), ()) fun t3 => some (t3.1, ()))
def E93 (f146 : Jet × Unit → Option (Bool × Unit)) : Env := envL [(146, mkE p146 r146 false f146)]
noncomputable def L93 (f146 : Jet × Unit → Option (Bool × Unit)) : LEnv (densS (muts p93 ++ r93)) := lenv [(0, loopL (R := densS (muts p93 ++ r93)) q93_0 (s93_0 f146))]
theorem e93_0 (f146 : Jet × Unit → Option (Bool × Unit)) (X : Nat → St → Option (densS (muts p93 ++ r93))) (rec K : densS q93_0 → Option (densS (muts p93 ++ r93))) (t : densS q93_0) :
    ev (E93 f146) tab (fun _ => false) (L93 f146) (retK tab p93 r93 Proofs.Tryz.f93.results.toList) (loopC Proofs.Tryz.f93 0) (fun i s => cond (Nat.beq i 0) (decK 100 q93_0 s K) (X i s)) (fun s => decK 100 q93_0 s rec) (enc q93_0 t) = s93_0 f146 t rec K := by kernel_rfl
theorem e93 (f146 : Jet × Unit → Option (Bool × Unit)) (a : densS p93) : runF (E93 f146) tab (fun _ => false) p93 r93 Proofs.Tryz.f93 (L93 f146) a = F93 f146 a := by kernel_rfl
theorem ok93 {f146 : Jet × Unit → Option (Bool × Unit)} (h146 : OK Proofs.Tryz.prog 146 (mkE p146 r146 false f146)) : OK Proofs.Tryz.prog 93 (mkE p93 r93 false (F93 f146)) :=
  fn_ok tab_ok (envL_ok (l := [(146, mkE p146 r146 false f146)]) (OKs.cons h146 OKs.nil)) mixed (ann := (fun _ => false)) (L := L93 f146) (fn := Proofs.Tryz.f93) (c := bodyC Proofs.Tryz.f93) (ls := [(0, loopC Proofs.Tryz.f93 0)]) Proofs.Tryz.func93 (by kernel_rfl) (by kernel_rfl) (by kernel_rfl) (by kernel_rfl)
    (LoopsP.cons q93_0 (s93_0 f146) rfl (e93_0 f146) LoopsP.nil) (e93 f146)
/-! spec.l2Mod -/
def p218 : List SP := [.one (.int .i64)]
def r218 : List SP := [.one (.int .i64)]
noncomputable def F218 (a : Int × Unit) : Option (Int × Unit) :=
  cond (decide ((Int.tmod a.1 4) < 0)) (some ((w64 ((Int.tmod a.1 4) + 4)), ())) (some ((Int.tmod a.1 4), ()))
def E218 : Env := envL []
noncomputable def L218 : LEnv (densS (muts p218 ++ r218)) := lenv []
theorem e218 (a : densS p218) : runF (E218) tab (fun _ => false) p218 r218 Proofs.Tryz.f218 (L218) a = F218 a := by kernel_rfl
theorem ok218 : OK Proofs.Tryz.prog 218 (mkE p218 r218 false (F218)) :=
  fn_ok tab_ok (envL_ok (l := []) OKs.nil) mixed (ann := (fun _ => false)) (L := L218) (fn := Proofs.Tryz.f218) (c := bodyC Proofs.Tryz.f218) (ls := []) Proofs.Tryz.func218 (by kernel_rfl) (by kernel_rfl) (by kernel_rfl) (by kernel_rfl)
    LoopsP.nil (e218)
/-! spec.l2Turn -/
def p188 : List SP := [.t .place, .one (.int .i64)]
def r188 : List SP := [.t .place]
def q188_0 : List SP := pat 19 0 [(2, .boxt 5000001 .place), (4, .boxt 5000002 .place), (5, .one (.int .i64))]
noncomputable def s188_0 (f218 : Int × Unit → Option (Int × Unit)) (t2 : Place × Place × Int × Unit) (rec K : Place × Place × Int × Unit → Option (Place × Unit)) : Option (Place × Unit) :=
  cond (decide (t2.2.2.1 > 0)) (rec ((⟨(w64 (0 - t2.1.Y)), t2.1.X⟩ : Place), t2.2.1, (w64 (t2.2.2.1 - 1)), ())) (K (t2.1, t2.2.1, t2.2.2.1, ()))
noncomputable def F188 (f218 : Int × Unit → Option (Int × Unit)) (a : Place × Int × Unit) : Option (Place × Unit) :=
  (f218 (a.2.1, ())).bind fun x1 => iterF (s188_0 f218) fuel (a.1, (⟨0, 0⟩ : Place), x1.1, ()) fun t3 => some (t3.1, ())
def E188 (f218 : Int × Unit → Option (Int × Unit)) : Env := envL [(218, mkE p218 r218 false f218)]
noncomputable def L188 (f218 : Int × Unit → Option (Int × Unit)) : LEnv (densS (muts p188 ++ r188)) := lenv [(0, loopL (R := densS (muts p188 ++ r188)) q188_0 (s188_0 f218))]
theorem e188_0 (f218 : Int × Unit → Option (Int × Unit)) (X : Nat → St → Option (densS (muts p188 ++ r188))) (rec K : densS q188_0 → Option (densS (muts p188 ++ r188))) (t : densS q188_0) :
    ev (E188 f218) tab (fun _ => false) (L188 f218) (retK tab p188 r188 Proofs.Tryz.f188.results.toList) (loopC Proofs.Tryz.f188 0) (fun i s => cond (Nat.beq i 0) (decK 100 q188_0 s K) (X i s)) (fun s => decK 100 q188_0 s rec) (enc q188_0 t) = s188_0 f218 t rec K := by kernel_rfl
theorem e188 (f218 : Int × Unit → Option (Int × Unit)) (a : densS p188) : runF (E188 f218) tab (fun _ => false) p188 r188 Proofs.Tryz.f188 (L188 f218) a = F188 f218 a := by kernel_rfl
theorem ok188 {f218 : Int × Unit → Option (Int × Unit)} (h218 : OK Proofs.Tryz.prog 218 (mkE p218 r218 false f218)) : OK Proofs.Tryz.prog 188 (mkE p188 r188 false (F188 f218)) :=
  fn_ok tab_ok (envL_ok (l := [(218, mkE p218 r218 false f218)]) (OKs.cons h218 OKs.nil)) mixed (ann := (fun _ => false)) (L := L188 f218) (fn := Proofs.Tryz.f188) (c := bodyC Proofs.Tryz.f188) (ls := [(0, loopC Proofs.Tryz.f188 0)]) Proofs.Tryz.func188 (by kernel_rfl) (by kernel_rfl) (by kernel_rfl) (by kernel_rfl)
    (LoopsP.cons q188_0 (s188_0 f218) rfl (e188_0 f218) LoopsP.nil) (e188 f218)
/-! spec.l2Add -/
def p148 : List SP := [.t .place, .t .place]
def r148 : List SP := [.t .place]
noncomputable def F148 (a : Place × Place × Unit) : Option (Place × Unit) :=
  some ((⟨(w64 (a.1.X + a.2.1.X)), (w64 (a.1.Y + a.2.1.Y))⟩ : Place), ())
def E148 : Env := envL []
noncomputable def L148 : LEnv (densS (muts p148 ++ r148)) := lenv []
theorem e148 (a : densS p148) : runF (E148) tab (fun _ => false) p148 r148 Proofs.Tryz.f148 (L148) a = F148 a := by kernel_rfl
theorem ok148 : OK Proofs.Tryz.prog 148 (mkE p148 r148 false (F148)) :=
  fn_ok tab_ok (envL_ok (l := []) OKs.nil) mixed (ann := (fun _ => false)) (L := L148) (fn := Proofs.Tryz.f148) (c := bodyC Proofs.Tryz.f148) (ls := []) Proofs.Tryz.func148 (by kernel_rfl) (by kernel_rfl) (by kernel_rfl) (by kernel_rfl)
    LoopsP.nil (e148)
/-! spec.l3Place -/
def p149 : List SP := [.t .jet, .one (.int .i64)]
def r149 : List SP := [.t .place]
noncomputable def F149 (f188 : Place × Int × Unit → Option (Place × Unit)) (f148 : Place × Place × Unit → Option (Place × Unit)) (a : Jet × Int × Unit) : Option (Place × Unit) :=
  (f188 ((⟨(w64 (a.2.1 * a.1.Tilt)), 0⟩ : Place), a.1.Heading, ())).bind fun x1 => (f148 (a.1.At, x1.1, ())).bind fun x2 => some (x2.1, ())
def E149 (f188 : Place × Int × Unit → Option (Place × Unit)) (f148 : Place × Place × Unit → Option (Place × Unit)) : Env := envL [(188, mkE p188 r188 false f188), (148, mkE p148 r148 false f148)]
noncomputable def L149 (f188 : Place × Int × Unit → Option (Place × Unit)) (f148 : Place × Place × Unit → Option (Place × Unit)) : LEnv (densS (muts p149 ++ r149)) := lenv []
theorem e149 (f188 : Place × Int × Unit → Option (Place × Unit)) (f148 : Place × Place × Unit → Option (Place × Unit)) (a : densS p149) : runF (E149 f188 f148) tab (fun _ => false) p149 r149 Proofs.Tryz.f149 (L149 f188 f148) a = F149 f188 f148 a := by kernel_rfl
theorem ok149 {f188 : Place × Int × Unit → Option (Place × Unit)} {f148 : Place × Place × Unit → Option (Place × Unit)} (h188 : OK Proofs.Tryz.prog 188 (mkE p188 r188 false f188)) (h148 : OK Proofs.Tryz.prog 148 (mkE p148 r148 false f148)) : OK Proofs.Tryz.prog 149 (mkE p149 r149 false (F149 f188 f148)) :=
  fn_ok tab_ok (envL_ok (l := [(188, mkE p188 r188 false f188), (148, mkE p148 r148 false f148)]) (OKs.cons h188 (OKs.cons h148 OKs.nil))) mixed (ann := (fun _ => false)) (L := L149 f188 f148) (fn := Proofs.Tryz.f149) (c := bodyC Proofs.Tryz.f149) (ls := []) Proofs.Tryz.func149 (by kernel_rfl) (by kernel_rfl) (by kernel_rfl) (by kernel_rfl)
    LoopsP.nil (e149 f188 f148)
/-! spec.PlaceAt -/
def p194 : List SP := [.t .jet, .one (.int .i64)]
def r194 : List SP := [.t .place, .one (.bool)]
noncomputable def F194 (f146 : Jet × Unit → Option (Bool × Unit)) (f93 : Jet × Unit → Option (Int × Unit)) (f149 : Jet × Int × Unit → Option (Place × Unit)) (a : Jet × Int × Unit) : Option (Place × Bool × Unit) :=
  (f146 (a.1, ())).bind fun x1 => cond (!(!x1.1)) (cond (!(decide (a.2.1 < 0))) ((f93 (a.1, ())).bind fun x2 => cond (decide (a.2.1 > x2.1)) (some ((⟨0, 0⟩ : Place), false, ())) ((f149 (a.1, a.2.1, ())).bind fun x3 => some (x3.1, true, ()))) (some ((⟨0, 0⟩ : Place), false, ()))) (some ((⟨0, 0⟩ : Place), false, ()))
def E194 (f146 : Jet × Unit → Option (Bool × Unit)) (f93 : Jet × Unit → Option (Int × Unit)) (f149 : Jet × Int × Unit → Option (Place × Unit)) : Env := envL [(146, mkE p146 r146 false f146), (93, mkE p93 r93 false f93), (149, mkE p149 r149 false f149)]
noncomputable def L194 (f146 : Jet × Unit → Option (Bool × Unit)) (f93 : Jet × Unit → Option (Int × Unit)) (f149 : Jet × Int × Unit → Option (Place × Unit)) : LEnv (densS (muts p194 ++ r194)) := lenv []
theorem e194 (f146 : Jet × Unit → Option (Bool × Unit)) (f93 : Jet × Unit → Option (Int × Unit)) (f149 : Jet × Int × Unit → Option (Place × Unit)) (a : densS p194) : runF (E194 f146 f93 f149) tab (fun _ => false) p194 r194 Proofs.Tryz.f194 (L194 f146 f93 f149) a = F194 f146 f93 f149 a := by kernel_rfl
theorem ok194 {f146 : Jet × Unit → Option (Bool × Unit)} {f93 : Jet × Unit → Option (Int × Unit)} {f149 : Jet × Int × Unit → Option (Place × Unit)} (h146 : OK Proofs.Tryz.prog 146 (mkE p146 r146 false f146)) (h93 : OK Proofs.Tryz.prog 93 (mkE p93 r93 false f93)) (h149 : OK Proofs.Tryz.prog 149 (mkE p149 r149 false f149)) : OK Proofs.Tryz.prog 194 (mkE p194 r194 false (F194 f146 f93 f149)) :=
  fn_ok tab_ok (envL_ok (l := [(146, mkE p146 r146 false f146), (93, mkE p93 r93 false f93), (149, mkE p149 r149 false f149)]) (OKs.cons h146 (OKs.cons h93 (OKs.cons h149 OKs.nil)))) mixed (ann := (fun _ => false)) (L := L194 f146 f93 f149) (fn := Proofs.Tryz.f194) (c := bodyC Proofs.Tryz.f194) (ls := []) Proofs.Tryz.func194 (by kernel_rfl) (by kernel_rfl) (by kernel_rfl) (by kernel_rfl)
    LoopsP.nil (e194 f146 f93 f149)
/-! spec.LandingOf -/
def p158 : List SP := [.t .jet]
def r158 : List SP := [.t .place, .one (.bool)]
noncomputable def F158 (f93 : Jet × Unit → Option (Int × Unit)) (f194 : Jet × Int × Unit → Option (Place × Bool × Unit)) (a : Jet × Unit) : Option (Place × Bool × Unit) :=
  (f93 (a.1, ())).bind fun x1 => (f194 (a.1, x1.1, ())).bind fun x2 => some (x2.1, x2.2.1, ())
def E158 (f93 : Jet × Unit → Option (Int × Unit)) (f194 : Jet × Int × Unit → Option (Place × Bool × Unit)) : Env := envL [(93, mkE p93 r93 false f93), (194, mkE p194 r194 false f194)]
noncomputable def L158 (f93 : Jet × Unit → Option (Int × Unit)) (f194 : Jet × Int × Unit → Option (Place × Bool × Unit)) : LEnv (densS (muts p158 ++ r158)) := lenv []
theorem e158 (f93 : Jet × Unit → Option (Int × Unit)) (f194 : Jet × Int × Unit → Option (Place × Bool × Unit)) (a : densS p158) : runF (E158 f93 f194) tab (fun _ => false) p158 r158 Proofs.Tryz.f158 (L158 f93 f194) a = F158 f93 f194 a := by kernel_rfl
theorem ok158 {f93 : Jet × Unit → Option (Int × Unit)} {f194 : Jet × Int × Unit → Option (Place × Bool × Unit)} (h93 : OK Proofs.Tryz.prog 93 (mkE p93 r93 false f93)) (h194 : OK Proofs.Tryz.prog 194 (mkE p194 r194 false f194)) : OK Proofs.Tryz.prog 158 (mkE p158 r158 false (F158 f93 f194)) :=
  fn_ok tab_ok (envL_ok (l := [(93, mkE p93 r93 false f93), (194, mkE p194 r194 false f194)]) (OKs.cons h93 (OKs.cons h194 OKs.nil))) mixed (ann := (fun _ => false)) (L := L158 f93 f194) (fn := Proofs.Tryz.f158) (c := bodyC Proofs.Tryz.f158) (ls := []) Proofs.Tryz.func158 (by kernel_rfl) (by kernel_rfl) (by kernel_rfl) (by kernel_rfl)
    LoopsP.nil (e158 f93 f194)
/-! spec.l1Max -/
def p87 : List SP := [.one (.int .i64), .one (.int .i64)]
def r87 : List SP := [.one (.int .i64)]
noncomputable def F87 (a : Int × Int × Unit) : Option (Int × Unit) :=
  cond (decide (a.1 > a.2.1)) (some (a.1, ())) (some (a.2.1, ()))
def E87 : Env := envL []
noncomputable def L87 : LEnv (densS (muts p87 ++ r87)) := lenv []
theorem e87 (a : densS p87) : runF (E87) tab (fun _ => false) p87 r87 Proofs.Tryz.f87 (L87) a = F87 a := by kernel_rfl
theorem ok87 : OK Proofs.Tryz.prog 87 (mkE p87 r87 false (F87)) :=
  fn_ok tab_ok (envL_ok (l := []) OKs.nil) mixed (ann := (fun _ => false)) (L := L87) (fn := Proofs.Tryz.f87) (c := bodyC Proofs.Tryz.f87) (ls := []) Proofs.Tryz.func87 (by kernel_rfl) (by kernel_rfl) (by kernel_rfl) (by kernel_rfl)
    LoopsP.nil (e87)
/-! spec.BoxOf -/
def p100 : List SP := [.one (.r .place)]
def r100 : List SP := [.t .box, .one (.bool)]
def q100_0 : List SP := pat 57 0 [(0, .one (.r .place)), (2, .boxt 5000001 .box), (4, .boxt 5000002 .box), (8, .one (.r .place)), (9, .one (.int .i64)), (10, .one (.int .i64))]
noncomputable def s100_0 (f120 : Place × Unit → Option (Bool × Unit)) (f142 : Int × Int × Unit → Option (Int × Unit)) (f87 : Int × Int × Unit → Option (Int × Unit)) (t1 : List Place × Box × Box × List Place × Int × Int × Unit) (rec K : List Place × Box × Box × List Place × Int × Int × Unit → Option (Box × Bool × Unit)) : Option (Box × Bool × Unit) :=
  cond (decide (t1.2.2.2.2.2.1 < t1.2.2.2.2.1)) (rdL t1.2.2.2.1 t1.2.2.2.2.2.1 fun d2 => (f120 (d2, ())).bind fun x3 => cond (!x3.1) (some ((⟨⟨0, 0⟩, ⟨0, 0⟩⟩ : Box), false, ())) (cond (decide (t1.2.2.2.2.2.1 = 0)) ((f142 (d2.X, d2.X, ())).bind fun x4 => (f142 (d2.Y, d2.Y, ())).bind fun x5 => (f87 (d2.X, d2.X, ())).bind fun x6 => (f87 (d2.Y, d2.Y, ())).bind fun x7 => rec (t1.1, t1.2.1, (⟨⟨x4.1, x5.1⟩, ⟨x6.1, x7.1⟩⟩ : Box), t1.2.2.2.1, t1.2.2.2.2.1, (w64 (t1.2.2.2.2.2.1 + 1)), ())) ((f142 (t1.2.2.1.Low.X, d2.X, ())).bind fun x8 => (f142 (t1.2.2.1.Low.Y, d2.Y, ())).bind fun x9 => (f87 (t1.2.2.1.High.X, d2.X, ())).bind fun x10 => (f87 (t1.2.2.1.High.Y, d2.Y, ())).bind fun x11 => rec (t1.1, t1.2.1, (⟨⟨x8.1, x9.1⟩, ⟨x10.1, x11.1⟩⟩ : Box), t1.2.2.2.1, t1.2.2.2.2.1, (w64 (t1.2.2.2.2.2.1 + 1)), ())))) (K (t1.1, t1.2.1, t1.2.2.1, t1.2.2.2.1, t1.2.2.2.2.1, t1.2.2.2.2.2.1, ()))
noncomputable def F100 (f120 : Place × Unit → Option (Bool × Unit)) (f142 : Int × Int × Unit → Option (Int × Unit)) (f87 : Int × Int × Unit → Option (Int × Unit)) (a : List Place × Unit) : Option (Box × Bool × Unit) :=
  iterF (s100_0 f120 f142 f87) fuel (a.1, (⟨⟨0, 0⟩, ⟨0, 0⟩⟩ : Box), (⟨⟨0, 0⟩, ⟨0, 0⟩⟩ : Box), a.1, (Int.ofNat (List.length a.1)), 0, ()) fun t12 => some (t12.2.2.1, (decide ((Int.ofNat (List.length t12.1)) > 0)), ())
def E100 (f120 : Place × Unit → Option (Bool × Unit)) (f142 : Int × Int × Unit → Option (Int × Unit)) (f87 : Int × Int × Unit → Option (Int × Unit)) : Env := envL [(120, mkE p120 r120 false f120), (142, mkE p142 r142 false f142), (87, mkE p87 r87 false f87)]
noncomputable def L100 (f120 : Place × Unit → Option (Bool × Unit)) (f142 : Int × Int × Unit → Option (Int × Unit)) (f87 : Int × Int × Unit → Option (Int × Unit)) : LEnv (densS (muts p100 ++ r100)) := lenv [(0, loopL (R := densS (muts p100 ++ r100)) q100_0 (s100_0 f120 f142 f87))]
theorem e100_0 (f120 : Place × Unit → Option (Bool × Unit)) (f142 : Int × Int × Unit → Option (Int × Unit)) (f87 : Int × Int × Unit → Option (Int × Unit)) (X : Nat → St → Option (densS (muts p100 ++ r100))) (rec K : densS q100_0 → Option (densS (muts p100 ++ r100))) (t : densS q100_0) :
    ev (E100 f120 f142 f87) tab (fun _ => false) (L100 f120 f142 f87) (retK tab p100 r100 Proofs.Tryz.f100.results.toList) (loopC Proofs.Tryz.f100 0) (fun i s => cond (Nat.beq i 0) (decK 100 q100_0 s K) (X i s)) (fun s => decK 100 q100_0 s rec) (enc q100_0 t) = s100_0 f120 f142 f87 t rec K := by kernel_rfl
theorem e100 (f120 : Place × Unit → Option (Bool × Unit)) (f142 : Int × Int × Unit → Option (Int × Unit)) (f87 : Int × Int × Unit → Option (Int × Unit)) (a : densS p100) : runF (E100 f120 f142 f87) tab (fun _ => false) p100 r100 Proofs.Tryz.f100 (L100 f120 f142 f87) a = F100 f120 f142 f87 a := by kernel_rfl
theorem ok100 {f120 : Place × Unit → Option (Bool × Unit)} {f142 : Int × Int × Unit → Option (Int × Unit)} {f87 : Int × Int × Unit → Option (Int × Unit)} (h120 : OK Proofs.Tryz.prog 120 (mkE p120 r120 false f120)) (h142 : OK Proofs.Tryz.prog 142 (mkE p142 r142 false f142)) (h87 : OK Proofs.Tryz.prog 87 (mkE p87 r87 false f87)) : OK Proofs.Tryz.prog 100 (mkE p100 r100 false (F100 f120 f142 f87)) :=
  fn_ok tab_ok (envL_ok (l := [(120, mkE p120 r120 false f120), (142, mkE p142 r142 false f142), (87, mkE p87 r87 false f87)]) (OKs.cons h120 (OKs.cons h142 (OKs.cons h87 OKs.nil)))) mixed (ann := (fun _ => false)) (L := L100 f120 f142 f87) (fn := Proofs.Tryz.f100) (c := bodyC Proofs.Tryz.f100) (ls := [(0, loopC Proofs.Tryz.f100 0)]) Proofs.Tryz.func100 (by kernel_rfl) (by kernel_rfl) (by kernel_rfl) (by kernel_rfl)
    (LoopsP.cons q100_0 (s100_0 f120 f142 f87) rfl (e100_0 f120 f142 f87) LoopsP.nil) (e100 f120 f142 f87)
/-! spec.RoseBox -/
def p159 : List SP := [.one (.r .place), .one (.int .i64)]
def r159 : List SP := [.t .box, .one (.bool)]
noncomputable def F159 (f100 : List Place × Unit → Option (Box × Bool × Unit)) (f108 : List Place × Unit → Option (Bool × Unit)) (a : List Place × Int × Unit) : Option (Box × Bool × Unit) :=
  (f100 (a.1, ())).bind fun x1 => (f108 (a.1, ())).bind fun x2 => cond (!(!x2.1)) (cond (!(decide (a.2.1 < 0))) (cond (decide (a.2.1 > 128)) (some ((⟨⟨0, 0⟩, ⟨0, 0⟩⟩ : Box), false, ())) (some ((⟨⟨(w64 (a.2.1 * x1.1.Low.X)), (w64 (a.2.1 * x1.1.Low.Y))⟩, ⟨(w64 (a.2.1 * x1.1.High.X)), (w64 (a.2.1 * x1.1.High.Y))⟩⟩ : Box), true, ()))) (some ((⟨⟨0, 0⟩, ⟨0, 0⟩⟩ : Box), false, ()))) (some ((⟨⟨0, 0⟩, ⟨0, 0⟩⟩ : Box), false, ()))
def E159 (f100 : List Place × Unit → Option (Box × Bool × Unit)) (f108 : List Place × Unit → Option (Bool × Unit)) : Env := envL [(100, mkE p100 r100 false f100), (108, mkE p108 r108 false f108)]
noncomputable def L159 (f100 : List Place × Unit → Option (Box × Bool × Unit)) (f108 : List Place × Unit → Option (Bool × Unit)) : LEnv (densS (muts p159 ++ r159)) := lenv []
theorem e159 (f100 : List Place × Unit → Option (Box × Bool × Unit)) (f108 : List Place × Unit → Option (Bool × Unit)) (a : densS p159) : runF (E159 f100 f108) tab (fun _ => false) p159 r159 Proofs.Tryz.f159 (L159 f100 f108) a = F159 f100 f108 a := by kernel_rfl
theorem ok159 {f100 : List Place × Unit → Option (Box × Bool × Unit)} {f108 : List Place × Unit → Option (Bool × Unit)} (h100 : OK Proofs.Tryz.prog 100 (mkE p100 r100 false f100)) (h108 : OK Proofs.Tryz.prog 108 (mkE p108 r108 false f108)) : OK Proofs.Tryz.prog 159 (mkE p159 r159 false (F159 f100 f108)) :=
  fn_ok tab_ok (envL_ok (l := [(100, mkE p100 r100 false f100), (108, mkE p108 r108 false f108)]) (OKs.cons h100 (OKs.cons h108 OKs.nil))) mixed (ann := (fun _ => false)) (L := L159 f100 f108) (fn := Proofs.Tryz.f159) (c := bodyC Proofs.Tryz.f159) (ls := []) Proofs.Tryz.func159 (by kernel_rfl) (by kernel_rfl) (by kernel_rfl) (by kernel_rfl)
    LoopsP.nil (e159 f100 f108)
/-! spec.LandingBox -/
def p109 : List SP := [.t .jet, .one (.r .place)]
def r109 : List SP := [.t .box, .one (.bool)]
noncomputable def F109 (f158 : Jet × Unit → Option (Place × Bool × Unit)) (f93 : Jet × Unit → Option (Int × Unit)) (f159 : List Place × Int × Unit → Option (Box × Bool × Unit)) (f148 : Place × Place × Unit → Option (Place × Unit)) (a : Jet × List Place × Unit) : Option (Box × Bool × Unit) :=
  (f158 (a.1, ())).bind fun x1 => (f93 (a.1, ())).bind fun x2 => (f159 (a.2.1, x2.1, ())).bind fun x3 => cond (!(!x1.2.1)) (cond (!x3.2.1) (some ((⟨⟨0, 0⟩, ⟨0, 0⟩⟩ : Box), false, ())) ((f148 (x1.1, x3.1.Low, ())).bind fun x4 => (f148 (x1.1, x3.1.High, ())).bind fun x5 => some ((⟨⟨x4.1.X, x4.1.Y⟩, ⟨x5.1.X, x5.1.Y⟩⟩ : Box), true, ()))) (some ((⟨⟨0, 0⟩, ⟨0, 0⟩⟩ : Box), false, ()))
def E109 (f158 : Jet × Unit → Option (Place × Bool × Unit)) (f93 : Jet × Unit → Option (Int × Unit)) (f159 : List Place × Int × Unit → Option (Box × Bool × Unit)) (f148 : Place × Place × Unit → Option (Place × Unit)) : Env := envL [(158, mkE p158 r158 false f158), (93, mkE p93 r93 false f93), (159, mkE p159 r159 false f159), (148, mkE p148 r148 false f148)]
noncomputable def L109 (f158 : Jet × Unit → Option (Place × Bool × Unit)) (f93 : Jet × Unit → Option (Int × Unit)) (f159 : List Place × Int × Unit → Option (Box × Bool × Unit)) (f148 : Place × Place × Unit → Option (Place × Unit)) : LEnv (densS (muts p109 ++ r109)) := lenv []
theorem e109 (f158 : Jet × Unit → Option (Place × Bool × Unit)) (f93 : Jet × Unit → Option (Int × Unit)) (f159 : List Place × Int × Unit → Option (Box × Bool × Unit)) (f148 : Place × Place × Unit → Option (Place × Unit)) (a : densS p109) : runF (E109 f158 f93 f159 f148) tab (fun _ => false) p109 r109 Proofs.Tryz.f109 (L109 f158 f93 f159 f148) a = F109 f158 f93 f159 f148 a := by kernel_rfl
theorem ok109 {f158 : Jet × Unit → Option (Place × Bool × Unit)} {f93 : Jet × Unit → Option (Int × Unit)} {f159 : List Place × Int × Unit → Option (Box × Bool × Unit)} {f148 : Place × Place × Unit → Option (Place × Unit)} (h158 : OK Proofs.Tryz.prog 158 (mkE p158 r158 false f158)) (h93 : OK Proofs.Tryz.prog 93 (mkE p93 r93 false f93)) (h159 : OK Proofs.Tryz.prog 159 (mkE p159 r159 false f159)) (h148 : OK Proofs.Tryz.prog 148 (mkE p148 r148 false f148)) : OK Proofs.Tryz.prog 109 (mkE p109 r109 false (F109 f158 f93 f159 f148)) :=
  fn_ok tab_ok (envL_ok (l := [(158, mkE p158 r158 false f158), (93, mkE p93 r93 false f93), (159, mkE p159 r159 false f159), (148, mkE p148 r148 false f148)]) (OKs.cons h158 (OKs.cons h93 (OKs.cons h159 (OKs.cons h148 OKs.nil))))) mixed (ann := (fun _ => false)) (L := L109 f158 f93 f159 f148) (fn := Proofs.Tryz.f109) (c := bodyC Proofs.Tryz.f109) (ls := []) Proofs.Tryz.func109 (by kernel_rfl) (by kernel_rfl) (by kernel_rfl) (by kernel_rfl)
    LoopsP.nil (e109 f158 f93 f159 f148)
/-! spec.LeastBasin -/
def p55 : List SP := [.agg [.r .device, .r .cue, .r .gust, .int .i64], .one (.r .place)]
def r55 : List SP := [.t .box, .one (.bool)]
def q55_0 : List SP := pat 47 0 [(1, .one (.r .place)), (4, .boxt 5000001 .box), (6, .one (.o 5000002 .place)), (22, .one (.o 5000003 .throw)), (23, .one (.int .i64)), (24, .one (.int .i64))]
noncomputable def s55_0 (f49 : ShD × Unit → Option (Bool × Unit)) (f108 : List Place × Unit → Option (Bool × Unit)) (f85 : ShD × Unit → Option (List Throw × Unit)) (f109 : Jet × List Place × Unit → Option (Box × Bool × Unit)) (f100 : List Place × Unit → Option (Box × Bool × Unit)) (t4 : List Place × Box × List Place × List Throw × Int × Int × Unit) (rec K : List Place × Box × List Place × List Throw × Int × Int × Unit → Option (Box × Bool × Unit)) : Option (Box × Bool × Unit) :=
  cond (decide (t4.2.2.2.2.2.1 < t4.2.2.2.2.1)) (rdL t4.2.2.2.1 t4.2.2.2.2.2.1 fun _ => (t4.2.2.2.1[(Int.toNat t4.2.2.2.2.2.1)]?).bind fun d5 => (f109 (d5.jet, t4.1, ())).bind fun x6 => capK (List.length t4.2.2.1 + List.length ([x6.1.Low, x6.1.High] : List Place)) (rec (t4.1, t4.2.1, (t4.2.2.1 ++ ([x6.1.Low, x6.1.High] : List Place)), t4.2.2.2.1, t4.2.2.2.2.1, (w64 (t4.2.2.2.2.2.1 + 1)), ()))) (K (t4.1, t4.2.1, t4.2.2.1, t4.2.2.2.1, t4.2.2.2.2.1, t4.2.2.2.2.2.1, ()))
noncomputable def F55 (f49 : ShD × Unit → Option (Bool × Unit)) (f108 : List Place × Unit → Option (Bool × Unit)) (f85 : ShD × Unit → Option (List Throw × Unit)) (f109 : Jet × List Place × Unit → Option (Box × Bool × Unit)) (f100 : List Place × Unit → Option (Box × Bool × Unit)) (a : ShD × List Place × Unit) : Option (Box × Bool × Unit) :=
  (f49 ((a.1.1, a.1.2.1, a.1.2.2.1, a.1.2.2.2.1, ()), ())).bind fun x1 => cond (!(!x1.1)) ((f108 (a.2.1, ())).bind fun x2 => cond (!x2.1) (some ((⟨⟨0, 0⟩, ⟨0, 0⟩⟩ : Box), false, ())) ((f85 ((a.1.1, a.1.2.1, a.1.2.2.1, a.1.2.2.2.1, ()), ())).bind fun x3 => iterF (s55_0 f49 f108 f85 f109 f100) fuel (a.2.1, (⟨⟨0, 0⟩, ⟨0, 0⟩⟩ : Box), ([] : List Place), x3.1, (Int.ofNat (List.length x3.1)), 0, ()) fun t7 => (f100 (t7.2.2.1, ())).bind fun x8 => some (x8.1, x8.2.1, ()))) (some ((⟨⟨0, 0⟩, ⟨0, 0⟩⟩ : Box), false, ()))
def E55 (f49 : ShD × Unit → Option (Bool × Unit)) (f108 : List Place × Unit → Option (Bool × Unit)) (f85 : ShD × Unit → Option (List Throw × Unit)) (f109 : Jet × List Place × Unit → Option (Box × Bool × Unit)) (f100 : List Place × Unit → Option (Box × Bool × Unit)) : Env := envL [(49, mkE p49 r49 false f49), (108, mkE p108 r108 false f108), (85, mkE p85 r85 false f85), (109, mkE p109 r109 false f109), (100, mkE p100 r100 false f100)]
noncomputable def L55 (f49 : ShD × Unit → Option (Bool × Unit)) (f108 : List Place × Unit → Option (Bool × Unit)) (f85 : ShD × Unit → Option (List Throw × Unit)) (f109 : Jet × List Place × Unit → Option (Box × Bool × Unit)) (f100 : List Place × Unit → Option (Box × Bool × Unit)) : LEnv (densS (muts p55 ++ r55)) := lenv [(0, loopL (R := densS (muts p55 ++ r55)) q55_0 (s55_0 f49 f108 f85 f109 f100))]
theorem e55_0 (f49 : ShD × Unit → Option (Bool × Unit)) (f108 : List Place × Unit → Option (Bool × Unit)) (f85 : ShD × Unit → Option (List Throw × Unit)) (f109 : Jet × List Place × Unit → Option (Box × Bool × Unit)) (f100 : List Place × Unit → Option (Box × Bool × Unit)) (X : Nat → St → Option (densS (muts p55 ++ r55))) (rec K : densS q55_0 → Option (densS (muts p55 ++ r55))) (t : densS q55_0) :
    ev (E55 f49 f108 f85 f109 f100) tab (fun _ => false) (L55 f49 f108 f85 f109 f100) (retK tab p55 r55 Proofs.Tryz.f55.results.toList) (loopC Proofs.Tryz.f55 0) (fun i s => cond (Nat.beq i 0) (decK 100 q55_0 s K) (X i s)) (fun s => decK 100 q55_0 s rec) (enc q55_0 t) = s55_0 f49 f108 f85 f109 f100 t rec K := by kernel_rfl
theorem e55 (f49 : ShD × Unit → Option (Bool × Unit)) (f108 : List Place × Unit → Option (Bool × Unit)) (f85 : ShD × Unit → Option (List Throw × Unit)) (f109 : Jet × List Place × Unit → Option (Box × Bool × Unit)) (f100 : List Place × Unit → Option (Box × Bool × Unit)) (a : densS p55) : runF (E55 f49 f108 f85 f109 f100) tab (fun _ => false) p55 r55 Proofs.Tryz.f55 (L55 f49 f108 f85 f109 f100) a = F55 f49 f108 f85 f109 f100 a := by kernel_rfl
theorem ok55 {f49 : ShD × Unit → Option (Bool × Unit)} {f108 : List Place × Unit → Option (Bool × Unit)} {f85 : ShD × Unit → Option (List Throw × Unit)} {f109 : Jet × List Place × Unit → Option (Box × Bool × Unit)} {f100 : List Place × Unit → Option (Box × Bool × Unit)} (h49 : OK Proofs.Tryz.prog 49 (mkE p49 r49 false f49)) (h108 : OK Proofs.Tryz.prog 108 (mkE p108 r108 false f108)) (h85 : OK Proofs.Tryz.prog 85 (mkE p85 r85 false f85)) (h109 : OK Proofs.Tryz.prog 109 (mkE p109 r109 false f109)) (h100 : OK Proofs.Tryz.prog 100 (mkE p100 r100 false f100)) : OK Proofs.Tryz.prog 55 (mkE p55 r55 false (F55 f49 f108 f85 f109 f100)) :=
  fn_ok tab_ok (envL_ok (l := [(49, mkE p49 r49 false f49), (108, mkE p108 r108 false f108), (85, mkE p85 r85 false f85), (109, mkE p109 r109 false f109), (100, mkE p100 r100 false f100)]) (OKs.cons h49 (OKs.cons h108 (OKs.cons h85 (OKs.cons h109 (OKs.cons h100 OKs.nil)))))) mixed (ann := (fun _ => false)) (L := L55 f49 f108 f85 f109 f100) (fn := Proofs.Tryz.f55) (c := bodyC Proofs.Tryz.f55) (ls := [(0, loopC Proofs.Tryz.f55 0)]) Proofs.Tryz.func55 (by kernel_rfl) (by kernel_rfl) (by kernel_rfl) (by kernel_rfl)
    (LoopsP.cons q55_0 (s55_0 f49 f108 f85 f109 f100) rfl (e55_0 f49 f108 f85 f109 f100) LoopsP.nil) (e55 f49 f108 f85 f109 f100)
/-! spec.l1Odd -/
def p137 : List SP := [.box 0 [.r .u8, .int .i64, .int .i64]]
def r137 : List SP := [.one (.int .i64)]
noncomputable def F137 (f141 : CuD × List Int × Unit → Option (CuD × Int × Unit)) (a : CuD × Unit) : Option (CuD × Int × Unit) :=
  (f141 ((a.1.1, a.1.2.1, a.1.2.2.1, ()), ([(-1), 0, 1, 2, 3, 7, 8, 9, 15, 16, 17, 63, 64, 65, 999, 1000, 4096, 4097, 9223372036854775807, (-9223372036854775808)] : List Int), ())).bind fun x1 => some ((x1.1.1, x1.1.2.1, x1.1.2.2.1, ()), x1.2.1, ())
def E137 (f141 : CuD × List Int × Unit → Option (CuD × Int × Unit)) : Env := envL [(141, mkE p141 r141 true f141)]
noncomputable def L137 (f141 : CuD × List Int × Unit → Option (CuD × Int × Unit)) : LEnv (densS (muts p137 ++ r137)) := lenv []
theorem e137 (f141 : CuD × List Int × Unit → Option (CuD × Int × Unit)) (a : densS p137) : runF (E137 f141) tab (fun _ => false) p137 r137 Proofs.Tryz.f137 (L137 f141) a = F137 f141 a := by kernel_rfl
theorem ok137 {f141 : CuD × List Int × Unit → Option (CuD × Int × Unit)} (h141 : OK Proofs.Tryz.prog 141 (mkE p141 r141 true f141)) : OK Proofs.Tryz.prog 137 (mkE p137 r137 true (F137 f141)) :=
  fn_ok tab_ok (envL_ok (l := [(141, mkE p141 r141 true f141)]) (OKs.cons h141 OKs.nil)) mixed (ann := (fun _ => false)) (L := L137 f141) (fn := Proofs.Tryz.f137) (c := bodyC Proofs.Tryz.f137) (ls := []) Proofs.Tryz.func137 (by kernel_rfl) (by kernel_rfl) (by kernel_rfl) (by kernel_rfl)
    LoopsP.nil (e137 f141)
/-! spec.l2Any -/
def p189 : List SP := [.box 0 [.r .u8, .int .i64, .int .i64]]
def r189 : List SP := [.t .place]
noncomputable def F189 (f167 : CuD × Unit → Option (CuD × Place × Unit)) (f101 : CuD × Int × Unit → Option (CuD × Bool × Unit)) (f137 : CuD × Unit → Option (CuD × Int × Unit)) (f141 : CuD × List Int × Unit → Option (CuD × Int × Unit)) (a : CuD × Unit) : Option (CuD × Place × Unit) :=
  (f167 ((a.1.1, a.1.2.1, a.1.2.2.1, ()), ())).bind fun x1 => (f101 ((x1.1.1, x1.1.2.1, x1.1.2.2.1, ()), 9, ())).bind fun x2 => cond x2.2.1 ((f137 ((x2.1.1, x2.1.2.1, x2.1.2.2.1, ()), ())).bind fun x3 => (f101 ((x3.1.1, x3.1.2.1, x3.1.2.2.1, ()), 9, ())).bind fun x4 => cond x4.2.1 ((f141 ((x4.1.1, x4.1.2.1, x4.1.2.2.1, ()), ([4096, (-4096), 4097, (-4097), 4090] : List Int), ())).bind fun x5 => some ((x5.1.1, x5.1.2.1, x5.1.2.2.1, ()), (⟨x3.2.1, x5.2.1⟩ : Place), ())) (some ((x4.1.1, x4.1.2.1, x4.1.2.2.1, ()), (⟨x3.2.1, x1.2.1.Y⟩ : Place), ()))) ((f101 ((x2.1.1, x2.1.2.1, x2.1.2.2.1, ()), 9, ())).bind fun x6 => cond x6.2.1 ((f141 ((x6.1.1, x6.1.2.1, x6.1.2.2.1, ()), ([4096, (-4096), 4097, (-4097), 4090] : List Int), ())).bind fun x7 => some ((x7.1.1, x7.1.2.1, x7.1.2.2.1, ()), (⟨x1.2.1.X, x7.2.1⟩ : Place), ())) (some ((x6.1.1, x6.1.2.1, x6.1.2.2.1, ()), x1.2.1, ())))
def E189 (f167 : CuD × Unit → Option (CuD × Place × Unit)) (f101 : CuD × Int × Unit → Option (CuD × Bool × Unit)) (f137 : CuD × Unit → Option (CuD × Int × Unit)) (f141 : CuD × List Int × Unit → Option (CuD × Int × Unit)) : Env := envL [(167, mkE p167 r167 true f167), (101, mkE p101 r101 true f101), (137, mkE p137 r137 true f137), (141, mkE p141 r141 true f141)]
noncomputable def L189 (f167 : CuD × Unit → Option (CuD × Place × Unit)) (f101 : CuD × Int × Unit → Option (CuD × Bool × Unit)) (f137 : CuD × Unit → Option (CuD × Int × Unit)) (f141 : CuD × List Int × Unit → Option (CuD × Int × Unit)) : LEnv (densS (muts p189 ++ r189)) := lenv []
theorem e189 (f167 : CuD × Unit → Option (CuD × Place × Unit)) (f101 : CuD × Int × Unit → Option (CuD × Bool × Unit)) (f137 : CuD × Unit → Option (CuD × Int × Unit)) (f141 : CuD × List Int × Unit → Option (CuD × Int × Unit)) (a : densS p189) : runF (E189 f167 f101 f137 f141) tab (fun _ => false) p189 r189 Proofs.Tryz.f189 (L189 f167 f101 f137 f141) a = F189 f167 f101 f137 f141 a := by kernel_rfl
theorem ok189 {f167 : CuD × Unit → Option (CuD × Place × Unit)} {f101 : CuD × Int × Unit → Option (CuD × Bool × Unit)} {f137 : CuD × Unit → Option (CuD × Int × Unit)} {f141 : CuD × List Int × Unit → Option (CuD × Int × Unit)} (h167 : OK Proofs.Tryz.prog 167 (mkE p167 r167 true f167)) (h101 : OK Proofs.Tryz.prog 101 (mkE p101 r101 true f101)) (h137 : OK Proofs.Tryz.prog 137 (mkE p137 r137 true f137)) (h141 : OK Proofs.Tryz.prog 141 (mkE p141 r141 true f141)) : OK Proofs.Tryz.prog 189 (mkE p189 r189 true (F189 f167 f101 f137 f141)) :=
  fn_ok tab_ok (envL_ok (l := [(167, mkE p167 r167 true f167), (101, mkE p101 r101 true f101), (137, mkE p137 r137 true f137), (141, mkE p141 r141 true f141)]) (OKs.cons h167 (OKs.cons h101 (OKs.cons h137 (OKs.cons h141 OKs.nil))))) mixed (ann := (fun _ => false)) (L := L189 f167 f101 f137 f141) (fn := Proofs.Tryz.f189) (c := bodyC Proofs.Tryz.f189) (ls := []) Proofs.Tryz.func189 (by kernel_rfl) (by kernel_rfl) (by kernel_rfl) (by kernel_rfl)
    LoopsP.nil (e189 f167 f101 f137 f141)
/-! spec.l2Box -/
def p150 : List SP := [.box 0 [.r .u8, .int .i64, .int .i64]]
def r150 : List SP := [.t .box]
noncomputable def F150 (f167 : CuD × Unit → Option (CuD × Place × Unit)) (f84 : CuD × Int × Unit → Option (CuD × Int × Unit)) (f189 : CuD × Unit → Option (CuD × Place × Unit)) (a : CuD × Unit) : Option (CuD × Box × Unit) :=
  (f167 ((a.1.1, a.1.2.1, a.1.2.2.1, ()), ())).bind fun x1 => (f84 ((x1.1.1, x1.1.2.1, x1.1.2.2.1, ()), 90, ())).bind fun x2 => both ((f84 ((x2.1.1, x2.1.2.1, x2.1.2.2.1, ()), 90, ())).bind fun x3 => (f84 ((x3.1.1, x3.1.2.1, x3.1.2.2.1, ()), 14, ())).bind fun x4 => cond (decide (x4.2.1 = 0)) ((f189 ((x4.1.1, x4.1.2.1, x4.1.2.2.1, ()), ())).bind fun x5 => some ((x5.1.1, x5.1.2.1, x5.1.2.2.1, ()), (⟨⟨x1.2.1.X, x1.2.1.Y⟩, ⟨x5.2.1.X, x5.2.1.Y⟩⟩ : Box), ())) (cond (decide (x4.2.1 = 1)) ((f189 ((x4.1.1, x4.1.2.1, x4.1.2.2.1, ()), ())).bind fun x6 => some ((x6.1.1, x6.1.2.1, x6.1.2.2.1, ()), (⟨⟨x6.2.1.X, x6.2.1.Y⟩, ⟨(w64 (x1.2.1.X + x2.2.1)), (w64 (x1.2.1.Y + x3.2.1))⟩⟩ : Box), ())) (some ((x4.1.1, x4.1.2.1, x4.1.2.2.1, ()), (⟨⟨x1.2.1.X, x1.2.1.Y⟩, ⟨(w64 (x1.2.1.X + x2.2.1)), (w64 (x1.2.1.Y + x3.2.1))⟩⟩ : Box), ())))) ((f84 ((x2.1.1, x2.1.2.1, x2.1.2.2.1, ()), 90, ())).bind fun x7 => both ((f84 ((x7.1.1, x7.1.2.1, x7.1.2.2.1, ()), 14, ())).bind fun x8 => cond (decide (x8.2.1 = 0)) ((f189 ((x8.1.1, x8.1.2.1, x8.1.2.2.1, ()), ())).bind fun x9 => some ((x9.1.1, x9.1.2.1, x9.1.2.2.1, ()), (⟨⟨x1.2.1.X, x1.2.1.Y⟩, ⟨x9.2.1.X, x9.2.1.Y⟩⟩ : Box), ())) (cond (decide (x8.2.1 = 1)) ((f189 ((x8.1.1, x8.1.2.1, x8.1.2.2.1, ()), ())).bind fun x10 => some ((x10.1.1, x10.1.2.1, x10.1.2.2.1, ()), (⟨⟨x10.2.1.X, x10.2.1.Y⟩, ⟨(w64 (x1.2.1.X + x2.2.1)), (w64 (x1.2.1.Y + x7.2.1))⟩⟩ : Box), ())) (some ((x8.1.1, x8.1.2.1, x8.1.2.2.1, ()), (⟨⟨x1.2.1.X, x1.2.1.Y⟩, ⟨(w64 (x1.2.1.X + x2.2.1)), (w64 (x1.2.1.Y + x7.2.1))⟩⟩ : Box), ())))) ((f84 ((x7.1.1, x7.1.2.1, x7.1.2.2.1, ()), 14, ())).bind fun x11 => cond (decide (x11.2.1 = 0)) ((f189 ((x11.1.1, x11.1.2.1, x11.1.2.2.1, ()), ())).bind fun x12 => some ((x12.1.1, x12.1.2.1, x12.1.2.2.1, ()), (⟨⟨x1.2.1.X, x1.2.1.Y⟩, ⟨x12.2.1.X, x12.2.1.Y⟩⟩ : Box), ())) (cond (decide (x11.2.1 = 1)) ((f189 ((x11.1.1, x11.1.2.1, x11.1.2.2.1, ()), ())).bind fun x13 => some ((x13.1.1, x13.1.2.1, x13.1.2.2.1, ()), (⟨⟨x13.2.1.X, x13.2.1.Y⟩, ⟨(w64 (x1.2.1.X + x2.2.1)), (w64 (x1.2.1.Y + x7.2.1))⟩⟩ : Box), ())) (some ((x11.1.1, x11.1.2.1, x11.1.2.2.1, ()), (⟨⟨x1.2.1.X, x1.2.1.Y⟩, ⟨(w64 (x1.2.1.X + x2.2.1)), (w64 (x1.2.1.Y + x7.2.1))⟩⟩ : Box), ())))))
def E150 (f167 : CuD × Unit → Option (CuD × Place × Unit)) (f84 : CuD × Int × Unit → Option (CuD × Int × Unit)) (f189 : CuD × Unit → Option (CuD × Place × Unit)) : Env := envL [(167, mkE p167 r167 true f167), (84, mkE p84 r84 true f84), (189, mkE p189 r189 true f189)]
noncomputable def L150 (f167 : CuD × Unit → Option (CuD × Place × Unit)) (f84 : CuD × Int × Unit → Option (CuD × Int × Unit)) (f189 : CuD × Unit → Option (CuD × Place × Unit)) : LEnv (densS (muts p150 ++ r150)) := lenv []
theorem e150 (f167 : CuD × Unit → Option (CuD × Place × Unit)) (f84 : CuD × Int × Unit → Option (CuD × Int × Unit)) (f189 : CuD × Unit → Option (CuD × Place × Unit)) (a : densS p150) : runF (E150 f167 f84 f189) tab (fun n => Nat.beq n 1200000 || Nat.beq n 1299998) p150 r150 Proofs.Tryz.f150 (L150 f167 f84 f189) a = F150 f167 f84 f189 a := by kernel_rfl
theorem ok150 {f167 : CuD × Unit → Option (CuD × Place × Unit)} {f84 : CuD × Int × Unit → Option (CuD × Int × Unit)} {f189 : CuD × Unit → Option (CuD × Place × Unit)} (h167 : OK Proofs.Tryz.prog 167 (mkE p167 r167 true f167)) (h84 : OK Proofs.Tryz.prog 84 (mkE p84 r84 true f84)) (h189 : OK Proofs.Tryz.prog 189 (mkE p189 r189 true f189)) : OK Proofs.Tryz.prog 150 (mkE p150 r150 true (F150 f167 f84 f189)) :=
  fn_ok tab_ok (envL_ok (l := [(167, mkE p167 r167 true f167), (84, mkE p84 r84 true f84), (189, mkE p189 r189 true f189)]) (OKs.cons h167 (OKs.cons h84 (OKs.cons h189 OKs.nil)))) mixed (ann := (fun n => Nat.beq n 1200000 || Nat.beq n 1299998)) (L := L150 f167 f84 f189) (fn := Proofs.Tryz.f150) (c := bodyC Proofs.Tryz.f150) (ls := []) Proofs.Tryz.func150 (by kernel_rfl) (by kernel_rfl) (by kernel_rfl) (by kernel_rfl)
    LoopsP.nil (e150 f167 f84 f189)
/-! spec.l10Basin -/
def p102 : List SP := [.box 0 [.r .u8, .int .i64, .int .i64]]
def r102 : List SP := [.t .box]
noncomputable def F102 (f84 : CuD × Int × Unit → Option (CuD × Int × Unit)) (f150 : CuD × Unit → Option (CuD × Box × Unit)) (a : CuD × Unit) : Option (CuD × Box × Unit) :=
  (f84 ((a.1.1, a.1.2.1, a.1.2.2.1, ()), 400, ())).bind fun x1 => (f84 ((x1.1.1, x1.1.2.1, x1.1.2.2.1, ()), 400, ())).bind fun x2 => (f84 ((x2.1.1, x2.1.2.1, x2.1.2.2.1, ()), 400, ())).bind fun x3 => (f84 ((x3.1.1, x3.1.2.1, x3.1.2.2.1, ()), 400, ())).bind fun x4 => (f84 ((x4.1.1, x4.1.2.1, x4.1.2.2.1, ()), 12, ())).bind fun x5 => cond (decide (x5.2.1 = 0)) ((f150 ((x5.1.1, x5.1.2.1, x5.1.2.2.1, ()), ())).bind fun x6 => some ((x6.1.1, x6.1.2.1, x6.1.2.2.1, ()), x6.2.1, ())) (cond (decide (x5.2.1 = 1)) (some ((x5.1.1, x5.1.2.1, x5.1.2.2.1, ()), (⟨⟨(-1900), (-1900)⟩, ⟨1900, 1900⟩⟩ : Box), ())) (some ((x5.1.1, x5.1.2.1, x5.1.2.2.1, ()), (⟨⟨(w64 (0 - x1.2.1)), (w64 (0 - x2.2.1))⟩, ⟨x3.2.1, x4.2.1⟩⟩ : Box), ())))
def E102 (f84 : CuD × Int × Unit → Option (CuD × Int × Unit)) (f150 : CuD × Unit → Option (CuD × Box × Unit)) : Env := envL [(84, mkE p84 r84 true f84), (150, mkE p150 r150 true f150)]
noncomputable def L102 (f84 : CuD × Int × Unit → Option (CuD × Int × Unit)) (f150 : CuD × Unit → Option (CuD × Box × Unit)) : LEnv (densS (muts p102 ++ r102)) := lenv []
theorem e102 (f84 : CuD × Int × Unit → Option (CuD × Int × Unit)) (f150 : CuD × Unit → Option (CuD × Box × Unit)) (a : densS p102) : runF (E102 f84 f150) tab (fun _ => false) p102 r102 Proofs.Tryz.f102 (L102 f84 f150) a = F102 f84 f150 a := by kernel_rfl
theorem ok102 {f84 : CuD × Int × Unit → Option (CuD × Int × Unit)} {f150 : CuD × Unit → Option (CuD × Box × Unit)} (h84 : OK Proofs.Tryz.prog 84 (mkE p84 r84 true f84)) (h150 : OK Proofs.Tryz.prog 150 (mkE p150 r150 true f150)) : OK Proofs.Tryz.prog 102 (mkE p102 r102 true (F102 f84 f150)) :=
  fn_ok tab_ok (envL_ok (l := [(84, mkE p84 r84 true f84), (150, mkE p150 r150 true f150)]) (OKs.cons h84 (OKs.cons h150 OKs.nil))) mixed (ann := (fun _ => false)) (L := L102 f84 f150) (fn := Proofs.Tryz.f102) (c := bodyC Proofs.Tryz.f102) (ls := []) Proofs.Tryz.func102 (by kernel_rfl) (by kernel_rfl) (by kernel_rfl) (by kernel_rfl)
    LoopsP.nil (e102 f84 f150)
/-! spec.l10Near -/
def p60 : List SP := [.box 0 [.r .u8, .int .i64, .int .i64], .agg [.r .device, .r .cue, .r .gust, .int .i64], .one (.r .place)]
def r60 : List SP := [.t .box]
noncomputable def F60 (f55 : ShD × List Place × Unit → Option (Box × Bool × Unit)) (f101 : CuD × Int × Unit → Option (CuD × Bool × Unit)) (f102 : CuD × Unit → Option (CuD × Box × Unit)) (f84 : CuD × Int × Unit → Option (CuD × Int × Unit)) (a : CuD × ShD × List Place × Unit) : Option (CuD × Box × Unit) :=
  (f55 ((a.2.1.1, a.2.1.2.1, a.2.1.2.2.1, a.2.1.2.2.2.1, ()), a.2.2.1, ())).bind fun x1 => cond (!(!x1.2.1)) ((f101 ((a.1.1, a.1.2.1, a.1.2.2.1, ()), 3, ())).bind fun x2 => cond x2.2.1 ((f102 ((x2.1.1, x2.1.2.1, x2.1.2.2.1, ()), ())).bind fun x3 => some ((x3.1.1, x3.1.2.1, x3.1.2.2.1, ()), x3.2.1, ())) ((f84 ((x2.1.1, x2.1.2.1, x2.1.2.2.1, ()), 7, ())).bind fun x4 => cond (decide (x4.2.1 = 0)) (some ((x4.1.1, x4.1.2.1, x4.1.2.2.1, ()), (⟨⟨(w64 (x1.1.Low.X + 1)), x1.1.Low.Y⟩, ⟨x1.1.High.X, x1.1.High.Y⟩⟩ : Box), ())) (cond (decide (x4.2.1 = 1)) (some ((x4.1.1, x4.1.2.1, x4.1.2.2.1, ()), (⟨⟨x1.1.Low.X, (w64 (x1.1.Low.Y + 1))⟩, ⟨x1.1.High.X, x1.1.High.Y⟩⟩ : Box), ())) (cond (decide (x4.2.1 = 2)) (some ((x4.1.1, x4.1.2.1, x4.1.2.2.1, ()), (⟨⟨x1.1.Low.X, x1.1.Low.Y⟩, ⟨(w64 (x1.1.High.X - 1)), x1.1.High.Y⟩⟩ : Box), ())) (cond (decide (x4.2.1 = 3)) (some ((x4.1.1, x4.1.2.1, x4.1.2.2.1, ()), (⟨⟨x1.1.Low.X, x1.1.Low.Y⟩, ⟨x1.1.High.X, (w64 (x1.1.High.Y - 1))⟩⟩ : Box), ())) (some ((x4.1.1, x4.1.2.1, x4.1.2.2.1, ()), x1.1, ()))))))) ((f102 ((a.1.1, a.1.2.1, a.1.2.2.1, ()), ())).bind fun x5 => some ((x5.1.1, x5.1.2.1, x5.1.2.2.1, ()), x5.2.1, ()))
def E60 (f55 : ShD × List Place × Unit → Option (Box × Bool × Unit)) (f101 : CuD × Int × Unit → Option (CuD × Bool × Unit)) (f102 : CuD × Unit → Option (CuD × Box × Unit)) (f84 : CuD × Int × Unit → Option (CuD × Int × Unit)) : Env := envL [(55, mkE p55 r55 false f55), (101, mkE p101 r101 true f101), (102, mkE p102 r102 true f102), (84, mkE p84 r84 true f84)]
noncomputable def L60 (f55 : ShD × List Place × Unit → Option (Box × Bool × Unit)) (f101 : CuD × Int × Unit → Option (CuD × Bool × Unit)) (f102 : CuD × Unit → Option (CuD × Box × Unit)) (f84 : CuD × Int × Unit → Option (CuD × Int × Unit)) : LEnv (densS (muts p60 ++ r60)) := lenv []
theorem e60 (f55 : ShD × List Place × Unit → Option (Box × Bool × Unit)) (f101 : CuD × Int × Unit → Option (CuD × Bool × Unit)) (f102 : CuD × Unit → Option (CuD × Box × Unit)) (f84 : CuD × Int × Unit → Option (CuD × Int × Unit)) (a : densS p60) : runF (E60 f55 f101 f102 f84) tab (fun _ => false) p60 r60 Proofs.Tryz.f60 (L60 f55 f101 f102 f84) a = F60 f55 f101 f102 f84 a := by kernel_rfl
theorem ok60 {f55 : ShD × List Place × Unit → Option (Box × Bool × Unit)} {f101 : CuD × Int × Unit → Option (CuD × Bool × Unit)} {f102 : CuD × Unit → Option (CuD × Box × Unit)} {f84 : CuD × Int × Unit → Option (CuD × Int × Unit)} (h55 : OK Proofs.Tryz.prog 55 (mkE p55 r55 false f55)) (h101 : OK Proofs.Tryz.prog 101 (mkE p101 r101 true f101)) (h102 : OK Proofs.Tryz.prog 102 (mkE p102 r102 true f102)) (h84 : OK Proofs.Tryz.prog 84 (mkE p84 r84 true f84)) : OK Proofs.Tryz.prog 60 (mkE p60 r60 true (F60 f55 f101 f102 f84)) :=
  fn_ok tab_ok (envL_ok (l := [(55, mkE p55 r55 false f55), (101, mkE p101 r101 true f101), (102, mkE p102 r102 true f102), (84, mkE p84 r84 true f84)]) (OKs.cons h55 (OKs.cons h101 (OKs.cons h102 (OKs.cons h84 OKs.nil))))) mixed (ann := (fun _ => false)) (L := L60 f55 f101 f102 f84) (fn := Proofs.Tryz.f60) (c := bodyC Proofs.Tryz.f60) (ls := []) Proofs.Tryz.func60 (by kernel_rfl) (by kernel_rfl) (by kernel_rfl) (by kernel_rfl)
    LoopsP.nil (e60 f55 f101 f102 f84)
/-! spec.IsBox -/
def p61 : List SP := [.t .box]
def r61 : List SP := [.one (.bool)]
noncomputable def F61 (f120 : Place × Unit → Option (Bool × Unit)) (a : Box × Unit) : Option (Bool × Unit) :=
  (f120 (a.1.Low, ())).bind fun x1 => cond x1.1 ((f120 (a.1.High, ())).bind fun x2 => cond x2.1 (cond (decide (a.1.Low.X ≤ a.1.High.X)) (some ((decide (a.1.Low.Y ≤ a.1.High.Y)), ())) (some (false, ()))) (some (false, ()))) (some (false, ()))
def E61 (f120 : Place × Unit → Option (Bool × Unit)) : Env := envL [(120, mkE p120 r120 false f120)]
noncomputable def L61 (f120 : Place × Unit → Option (Bool × Unit)) : LEnv (densS (muts p61 ++ r61)) := lenv []
theorem e61 (f120 : Place × Unit → Option (Bool × Unit)) (a : densS p61) : runF (E61 f120) tab (fun _ => false) p61 r61 Proofs.Tryz.f61 (L61 f120) a = F61 f120 a := by kernel_rfl
theorem ok61 {f120 : Place × Unit → Option (Bool × Unit)} (h120 : OK Proofs.Tryz.prog 120 (mkE p120 r120 false f120)) : OK Proofs.Tryz.prog 61 (mkE p61 r61 false (F61 f120)) :=
  fn_ok tab_ok (envL_ok (l := [(120, mkE p120 r120 false f120)]) (OKs.cons h120 OKs.nil)) mixed (ann := (fun _ => false)) (L := L61 f120) (fn := Proofs.Tryz.f61) (c := bodyC Proofs.Tryz.f61) (ls := []) Proofs.Tryz.func61 (by kernel_rfl) (by kernel_rfl) (by kernel_rfl) (by kernel_rfl)
    LoopsP.nil (e61 f120)
/-! spec.l12Fitting -/
def p62 : List SP := [.box 0 [.r .u8, .int .i64, .int .i64], .one (.r .place)]
def r62 : List SP := [.one (.o 1 .gust)]
def q62_0 : List SP := pat 34 0 [(0, .box 0 [.r .u8, .int .i64, .int .i64]), (1, .one (.r .place)), (5, .one (.o 5000001 .gust)), (6, .one (.int .i64)), (7, .one (.int .i64))]
noncomputable def s62_0 (f84 : CuD × Int × Unit → Option (CuD × Int × Unit)) (t2 : CuD × List Place × List Gust × Int × Int × Unit) (rec K : CuD × List Place × List Gust × Int × Int × Unit → Option (CuD × List Gust × Unit)) : Option (CuD × List Gust × Unit) :=
  cond (decide (t2.2.2.2.2.1 > 0)) ((f84 ((t2.1.1, t2.1.2.1, t2.1.2.2.1, ()), (Int.ofNat (List.length t2.2.1)), ())).bind fun x3 => rdL t2.2.1 x3.2.1 fun d4 => capK (List.length t2.2.2.1 + List.length ([(⟨t2.2.2.2.1, ⟨d4.X, d4.Y⟩⟩ : Gust)] : List Gust)) ((f84 ((x3.1.1, x3.1.2.1, x3.1.2.2.1, ()), 6, ())).bind fun x5 => rec ((x5.1.1, x5.1.2.1, x5.1.2.2.1, ()), t2.2.1, (t2.2.2.1 ++ ([(⟨t2.2.2.2.1, ⟨d4.X, d4.Y⟩⟩ : Gust)] : List Gust)), (w64 ((w64 (t2.2.2.2.1 + 1)) + x5.2.1)), (w64 (t2.2.2.2.2.1 - 1)), ()))) (K ((t2.1.1, t2.1.2.1, t2.1.2.2.1, ()), t2.2.1, t2.2.2.1, t2.2.2.2.1, t2.2.2.2.2.1, ()))
noncomputable def F62 (f84 : CuD × Int × Unit → Option (CuD × Int × Unit)) (a : CuD × List Place × Unit) : Option (CuD × List Gust × Unit) :=
  (f84 ((a.1.1, a.1.2.1, a.1.2.2.1, ()), 6, ())).bind fun x1 => iterF (s62_0 f84) fuel ((x1.1.1, x1.1.2.1, x1.1.2.2.1, ()), a.2.1, ([] : List Gust), 0, (w64 (1 + x1.2.1)), ()) fun t6 => some ((t6.1.1, t6.1.2.1, t6.1.2.2.1, ()), t6.2.2.1, ())
def E62 (f84 : CuD × Int × Unit → Option (CuD × Int × Unit)) : Env := envL [(84, mkE p84 r84 true f84)]
noncomputable def L62 (f84 : CuD × Int × Unit → Option (CuD × Int × Unit)) : LEnv (densS (muts p62 ++ r62)) := lenv [(0, loopL (R := densS (muts p62 ++ r62)) q62_0 (s62_0 f84))]
theorem e62_0 (f84 : CuD × Int × Unit → Option (CuD × Int × Unit)) (X : Nat → St → Option (densS (muts p62 ++ r62))) (rec K : densS q62_0 → Option (densS (muts p62 ++ r62))) (t : densS q62_0) :
    ev (E62 f84) tab (fun _ => false) (L62 f84) (retK tab p62 r62 Proofs.Tryz.f62.results.toList) (loopC Proofs.Tryz.f62 0) (fun i s => cond (Nat.beq i 0) (decK 100 q62_0 s K) (X i s)) (fun s => decK 100 q62_0 s rec) (enc q62_0 t) = s62_0 f84 t rec K := by kernel_rfl
theorem e62 (f84 : CuD × Int × Unit → Option (CuD × Int × Unit)) (a : densS p62) : runF (E62 f84) tab (fun _ => false) p62 r62 Proofs.Tryz.f62 (L62 f84) a = F62 f84 a := by kernel_rfl
theorem ok62 {f84 : CuD × Int × Unit → Option (CuD × Int × Unit)} (h84 : OK Proofs.Tryz.prog 84 (mkE p84 r84 true f84)) : OK Proofs.Tryz.prog 62 (mkE p62 r62 true (F62 f84)) :=
  fn_ok tab_ok (envL_ok (l := [(84, mkE p84 r84 true f84)]) (OKs.cons h84 OKs.nil)) mixed (ann := (fun _ => false)) (L := L62 f84) (fn := Proofs.Tryz.f62) (c := bodyC Proofs.Tryz.f62) (ls := [(0, loopC Proofs.Tryz.f62 0)]) Proofs.Tryz.func62 (by kernel_rfl) (by kernel_rfl) (by kernel_rfl) (by kernel_rfl)
    (LoopsP.cons q62_0 (s62_0 f84) rfl (e62_0 f84) LoopsP.nil) (e62 f84)
/-! spec.DrawBasin -/
def p15 : List SP := [.one (.r .u8)]
def r15 : List SP := [.agg [.r .device, .r .cue, .r .gust, .int .i64], .one (.r .place), .t .box, .one (.o 0 .gust)]
noncomputable def F15 (f57 : List Int × Unit → Option (CuD × Unit)) (f58 : CuD × Unit → Option (CuD × ShD × Unit)) (f59 : CuD × Unit → Option (CuD × List Place × Unit)) (f60 : CuD × ShD × List Place × Unit → Option (CuD × Box × Unit)) (f61 : Box × Unit → Option (Bool × Unit)) (f62 : CuD × List Place × Unit → Option (CuD × List Gust × Unit)) (a : List Int × Unit) : Option (ShD × List Place × Box × List Gust × Unit) :=
  (f57 (a.1, ())).bind fun x1 => (f58 ((x1.1.1, x1.1.2.1, x1.1.2.2.1, ()), ())).bind fun x2 => (f59 ((x2.1.1, x2.1.2.1, x2.1.2.2.1, ()), ())).bind fun x3 => (f60 ((x3.1.1, x3.1.2.1, x3.1.2.2.1, ()), (x2.2.1.1, x2.2.1.2.1, x2.2.1.2.2.1, x2.2.1.2.2.2.1, ()), x3.2.1, ())).bind fun x4 => (f61 (x4.2.1, ())).bind fun x5 => cond (!x5.1) ((f62 ((x4.1.1, x4.1.2.1, x4.1.2.2.1, ()), x3.2.1, ())).bind fun x6 => some ((x2.2.1.1, x2.2.1.2.1, x2.2.1.2.2.1, x2.2.1.2.2.2.1, ()), x3.2.1, (⟨⟨(-300), (-300)⟩, ⟨300, 300⟩⟩ : Box), x6.2.1, ())) ((f62 ((x4.1.1, x4.1.2.1, x4.1.2.2.1, ()), x3.2.1, ())).bind fun x7 => some ((x2.2.1.1, x2.2.1.2.1, x2.2.1.2.2.1, x2.2.1.2.2.2.1, ()), x3.2.1, x4.2.1, x7.2.1, ()))
def E15 (f57 : List Int × Unit → Option (CuD × Unit)) (f58 : CuD × Unit → Option (CuD × ShD × Unit)) (f59 : CuD × Unit → Option (CuD × List Place × Unit)) (f60 : CuD × ShD × List Place × Unit → Option (CuD × Box × Unit)) (f61 : Box × Unit → Option (Bool × Unit)) (f62 : CuD × List Place × Unit → Option (CuD × List Gust × Unit)) : Env := envL [(57, mkE p57 r57 true f57), (58, mkE p58 r58 true f58), (59, mkE p59 r59 true f59), (60, mkE p60 r60 true f60), (61, mkE p61 r61 false f61), (62, mkE p62 r62 true f62)]
noncomputable def L15 (f57 : List Int × Unit → Option (CuD × Unit)) (f58 : CuD × Unit → Option (CuD × ShD × Unit)) (f59 : CuD × Unit → Option (CuD × List Place × Unit)) (f60 : CuD × ShD × List Place × Unit → Option (CuD × Box × Unit)) (f61 : Box × Unit → Option (Bool × Unit)) (f62 : CuD × List Place × Unit → Option (CuD × List Gust × Unit)) : LEnv (densS (muts p15 ++ r15)) := lenv []
theorem e15 (f57 : List Int × Unit → Option (CuD × Unit)) (f58 : CuD × Unit → Option (CuD × ShD × Unit)) (f59 : CuD × Unit → Option (CuD × List Place × Unit)) (f60 : CuD × ShD × List Place × Unit → Option (CuD × Box × Unit)) (f61 : Box × Unit → Option (Bool × Unit)) (f62 : CuD × List Place × Unit → Option (CuD × List Gust × Unit)) (a : densS p15) : runF (E15 f57 f58 f59 f60 f61 f62) tab (fun n => Nat.beq n 1700102 || Nat.beq n 1700111 || Nat.beq n 1799998) p15 r15 Proofs.Tryz.f15 (L15 f57 f58 f59 f60 f61 f62) a = F15 f57 f58 f59 f60 f61 f62 a := by kernel_rfl
theorem ok15 {f57 : List Int × Unit → Option (CuD × Unit)} {f58 : CuD × Unit → Option (CuD × ShD × Unit)} {f59 : CuD × Unit → Option (CuD × List Place × Unit)} {f60 : CuD × ShD × List Place × Unit → Option (CuD × Box × Unit)} {f61 : Box × Unit → Option (Bool × Unit)} {f62 : CuD × List Place × Unit → Option (CuD × List Gust × Unit)} (h57 : OK Proofs.Tryz.prog 57 (mkE p57 r57 true f57)) (h58 : OK Proofs.Tryz.prog 58 (mkE p58 r58 true f58)) (h59 : OK Proofs.Tryz.prog 59 (mkE p59 r59 true f59)) (h60 : OK Proofs.Tryz.prog 60 (mkE p60 r60 true f60)) (h61 : OK Proofs.Tryz.prog 61 (mkE p61 r61 false f61)) (h62 : OK Proofs.Tryz.prog 62 (mkE p62 r62 true f62)) : OK Proofs.Tryz.prog 15 (mkE p15 r15 true (F15 f57 f58 f59 f60 f61 f62)) :=
  fn_ok tab_ok (envL_ok (l := [(57, mkE p57 r57 true f57), (58, mkE p58 r58 true f58), (59, mkE p59 r59 true f59), (60, mkE p60 r60 true f60), (61, mkE p61 r61 false f61), (62, mkE p62 r62 true f62)]) (OKs.cons h57 (OKs.cons h58 (OKs.cons h59 (OKs.cons h60 (OKs.cons h61 (OKs.cons h62 OKs.nil))))))) mixed (ann := (fun n => Nat.beq n 1700102 || Nat.beq n 1700111 || Nat.beq n 1799998)) (L := L15 f57 f58 f59 f60 f61 f62) (fn := Proofs.Tryz.f15) (c := bodyC Proofs.Tryz.f15) (ls := []) Proofs.Tryz.func15 (by kernel_rfl) (by kernel_rfl) (by kernel_rfl) (by kernel_rfl)
    LoopsP.nil (e15 f57 f58 f59 f60 f61 f62)
end Ev
