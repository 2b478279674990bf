/- Functions of the program, as the evaluator sees them. -/
import Derived.Test.YtpnlcamcnhpbhaaGreatDoorPatA
set_option linter.unusedVariables false
set_option maxRecDepth 100000
namespace Ev
open Go
def tab : Tab := [(3, ⟨1, false, 8, [.int .i64 0], [], .int .i64, false⟩),
  (5, ⟨1, false, 1, [.int .u8 0], [], .int .u8, false⟩),
  (9, ⟨1, false, 16, [.str []], [], .str, false⟩),
  (35, ⟨1, false, 24, [.nils], [], .sl .device, false⟩),
  (36, ⟨1, false, 24, [.nils], [], .sl .cue, false⟩),
  (37, ⟨1, false, 24, [.nils], [], .sl .gust, false⟩),
  (39, ⟨4, true, 80, [.nils, .nils, .nils, .int .i64 0], [(0, 1, false), (1, 1, false), (2, 1, false), (3, 1, false)], .struct, false⟩),
  (41, ⟨1, false, 24, [.nils], [], .sl .place, false⟩),
  (43, ⟨2, true, 16, [.int .i64 0, .int .i64 0], [(0, 1, false), (1, 1, false)], .struct, true⟩),
  (45, ⟨4, true, 32, [.int .i64 0, .int .i64 0, .int .i64 0, .int .i64 0], [(0, 2, true), (2, 2, true)], .struct, false⟩),
  (50, ⟨1, false, 24, [.nils], [], .sl .u8, false⟩),
  (64, ⟨5, true, 40, [.int .i64 0, .int .i64 0, .int .i64 0, .int .i64 0, .int .i64 0], [(0, 2, true), (2, 1, false), (3, 1, false), (4, 1, false)], .struct, false⟩),
  (66, ⟨7, true, 64, [.str [], .int .i64 0, .int .i64 0, .int .i64 0, .int .i64 0, .int .i64 0, .int .i64 0], [(0, 1, false), (1, 1, false), (2, 5, true)], .struct, false⟩),
  (90, ⟨3, true, 24, [.int .i64 0, .int .i64 0, .int .i64 0], [(0, 1, false), (1, 2, true)], .struct, false⟩),
  (106, ⟨1, false, 24, [.nils], [], .sl .throw, false⟩),
  (114, ⟨8, true, 80, [.str [], .int .i64 0, .str [], .int .i64 0, .int .i64 0, .int .i64 0, .int .i64 0, .int .i64 0], [(0, 1, false), (1, 1, false), (2, 1, false), (3, 2, true), (5, 1, false), (6, 1, false), (7, 1, false)], .struct, true⟩),
  (116, ⟨4, true, 40, [.int .i64 0, .str [], .int .i64 0, .int .i64 0], [(0, 1, false), (1, 1, false), (2, 1, false), (3, 1, false)], .struct, false⟩),
  (138, ⟨1, false, 24, [.nils], [], .sl .int, false⟩),
  (144, ⟨1, false, 24, [.nils], [], .sl .str, false⟩),
  (149, ⟨3, true, 40, [.nils, .int .i64 0, .int .i64 0], [(0, 1, false), (1, 1, false), (2, 1, false)], .struct, false⟩)]
theorem tab_ok : TabOK Proofs.Tryz.prog tab := tab_of2 (by kernel_rfl) (by kernel_rfl)
theorem mixed : Proofs.Tryz.prog.follows .mixedOrders = true := by kernel_rfl
/-! spec.l1New -/
def p85 : List SP := [.one (.r .u8)]
def r85 : List SP := [.box 0 [.r .u8, .int .i64, .int .i64]]
abbrev T85 := List Int × Unit → Option (CuD × Unit)
abbrev N85 (f : T85) : Entry := mkE p85 r85 true f
def q85_0 : List SP := pat 33 0 [(0, .one (.r .u8)), (3, .one (.int .i64)), (4, .one (.int .i64))]
noncomputable def s85_0 (t1 : List Int × Int × Int × Unit) (rec K : List Int × Int × Int × Unit → Option (CuD × Unit)) : Option (CuD × Unit) :=
  cond (decide (t1.2.2.1 < (Int.ofNat (List.length t1.1)))) (cond (decide (t1.2.2.1 < 4000)) (rdL t1.1 t1.2.2.1 fun d2 => rec (t1.1, (bitsOp .and .i64 (w64 ((w64 ((w64 (t1.2.1 * 167)) + (w64 d2))) + 29)) 1073741823), (w64 (t1.2.2.1 + 1)), ())) (K (t1.1, t1.2.1, t1.2.2.1, ()))) (K (t1.1, t1.2.1, t1.2.2.1, ()))
noncomputable def F85 (a : List Int × Unit) : Option (CuD × Unit) :=
  iterF (s85_0) fuel (a.1, (w64 (620033 + (w64 (3 * (Int.ofNat (List.length a.1)))))), 0, ()) fun t3 => some ((t3.1, 0, t3.2.1, ()), ())
def E85 : Env := envL []
noncomputable def L85 : LEnv (densS (muts p85 ++ r85)) := lenv [(0, loopL (R := densS (muts p85 ++ r85)) q85_0 (s85_0))]
theorem e85_0 (X : Nat → St → Option (densS (muts p85 ++ r85))) (rec K : densS q85_0 → Option (densS (muts p85 ++ r85))) (t : densS q85_0) :
    ev (E85) tab (fun _ => false) (L85) (retK tab p85 r85 Proofs.Tryz.f85.results.toList) (loopC Proofs.Tryz.f85 0) (fun i s => cond (Nat.beq i 0) (decK 100 q85_0 s K) (X i s)) (fun s => decK 100 q85_0 s rec) (enc q85_0 t) = s85_0 t rec K := by kernel_rfl
theorem e85 (a : densS p85) : runF (E85) tab (fun _ => false) p85 r85 Proofs.Tryz.f85 (L85) a = F85 a := by kernel_rfl
theorem ok85 : OK Proofs.Tryz.prog 85 (mkE p85 r85 true (F85)) :=
  fn_ok (E := E85) tab_ok (envL_ok OKs.nil) mixed (ann := (fun _ => false)) (L := L85) (fn := Proofs.Tryz.f85) (c := bodyC Proofs.Tryz.f85) (ls := [(0, loopC Proofs.Tryz.f85 0)]) Proofs.Tryz.func85 (by kernel_rfl) (by kernel_rfl) (by kernel_rfl) (by kernel_rfl)
    (LoopsP.cons q85_0 (s85_0) rfl (e85_0) LoopsP.nil) (e85)
/-! spec.l1Byte -/
def p154 : List SP := [.box 0 [.r .u8, .int .i64, .int .i64]]
def r154 : List SP := [.one (.int .i64)]
abbrev T154 := CuD × Unit → Option (CuD × Int × Unit)
abbrev N154 (f : T154) : Entry := mkE p154 r154 true f
noncomputable def F154 (a : CuD × Unit) : Option (CuD × Int × Unit) :=
  cond (decide (a.1.2.1 < (Int.ofNat (List.length a.1.1)))) (rdL a.1.1 a.1.2.1 fun d1 => some ((a.1.1, (w64 (a.1.2.1 + 1)), (w64 ((w64 (a.1.2.2.1 * 6364136223846793005)) + 1442695040888963407)), ()), (bitsOp .and .i64 (w64 ((bitsOp .and .i64 (bitsOp .xor .i64 (shrOp .i64 (w64 ((w64 (a.1.2.2.1 * 6364136223846793005)) + 1442695040888963407)) 35) (shrOp .i64 (w64 ((w64 (a.1.2.2.1 * 6364136223846793005)) + 1442695040888963407)) 45)) 255) + (w64 d1))) 255), ())) (some ((a.1.1, a.1.2.1, (w64 ((w64 (a.1.2.2.1 * 6364136223846793005)) + 1442695040888963407)), ()), (bitsOp .and .i64 (bitsOp .xor .i64 (shrOp .i64 (w64 ((w64 (a.1.2.2.1 * 6364136223846793005)) + 1442695040888963407)) 35) (shrOp .i64 (w64 ((w64 (a.1.2.2.1 * 6364136223846793005)) + 1442695040888963407)) 45)) 255), ()))
def E154 : Env := envL []
noncomputable def L154 : LEnv (densS (muts p154 ++ r154)) := lenv []
theorem e154 (a : densS p154) : runF (E154) tab (fun _ => false) p154 r154 Proofs.Tryz.f154 (L154) a = F154 a := by kernel_rfl
theorem ok154 : OK Proofs.Tryz.prog 154 (mkE p154 r154 true (F154)) :=
  fn_ok (E := E154) tab_ok (envL_ok OKs.nil) mixed (ann := (fun _ => false)) (L := L154) (fn := Proofs.Tryz.f154) (c := bodyC Proofs.Tryz.f154) (ls := []) Proofs.Tryz.func154 (by kernel_rfl) (by kernel_rfl) (by kernel_rfl) (by kernel_rfl)
    LoopsP.nil (e154)
/-! spec.l1Below -/
def p116 : List SP := [.box 0 [.r .u8, .int .i64, .int .i64], .one (.int .i64)]
def r116 : List SP := [.one (.int .i64)]
abbrev T116 := CuD × Int × Unit → Option (CuD × Int × Unit)
abbrev N116 (f : T116) : Entry := mkE p116 r116 true f
noncomputable def F116 (f154 : T154) (a : CuD × Int × Unit) : Option (CuD × Int × Unit) :=
  cond (decide (a.2.1 ≤ 0)) (some ((a.1.1, a.1.2.1, a.1.2.2.1, ()), 0, ())) (cond (decide (a.2.1 ≤ 256)) ((f154 ((a.1.1, a.1.2.1, a.1.2.2.1, ()), ())).bind fun x1 => cond (decide (a.2.1 = 0)) none (some ((x1.1.1, x1.1.2.1, x1.1.2.2.1, ()), (Int.tmod x1.2.1 a.2.1), ()))) ((f154 ((a.1.1, a.1.2.1, a.1.2.2.1, ()), ())).bind fun x2 => (f154 ((x2.1.1, x2.1.2.1, x2.1.2.2.1, ()), ())).bind fun x3 => (f154 ((x3.1.1, x3.1.2.1, x3.1.2.2.1, ()), ())).bind fun x4 => cond (decide (a.2.1 = 0)) none (some ((x4.1.1, x4.1.2.1, x4.1.2.2.1, ()), (Int.tmod (w64 ((w64 ((w64 (x2.2.1 * 65536)) + (w64 (x3.2.1 * 256)))) + x4.2.1)) a.2.1), ()))))
def E116 (f154 : T154) : Env := envL [(154, N154 f154)]
noncomputable def L116 (f154 : T154) : LEnv (densS (muts p116 ++ r116)) := lenv []
theorem e116 (f154 : T154) (a : densS p116) : runF (E116 f154) tab (fun _ => false) p116 r116 Proofs.Tryz.f116 (L116 f154) a = F116 f154 a := by kernel_rfl
theorem ok116 {f154 : T154} (h154 : OK Proofs.Tryz.prog 154 (N154 f154)) : OK Proofs.Tryz.prog 116 (mkE p116 r116 true (F116 f154)) :=
  fn_ok (E := E116 f154) tab_ok (envL_ok (OKs.cons h154 OKs.nil)) mixed (ann := (fun _ => false)) (L := L116 f154) (fn := Proofs.Tryz.f116) (c := bodyC Proofs.Tryz.f116) (ls := []) Proofs.Tryz.func116 (by kernel_rfl) (by kernel_rfl) (by kernel_rfl) (by kernel_rfl)
    LoopsP.nil (e116 f154)
/-! spec.IsName -/
def p129 : List SP := [.one (.str)]
def r129 : List SP := [.one (.bool)]
abbrev T129 := Str × Unit → Option (Bool × Unit)
abbrev N129 (f : T129) : Entry := mkE p129 r129 false f
def q129_0 : List SP := pat 50 0 [(0, .one (.str)), (3, .one (.int .i64))]
noncomputable def s129_0 (t1 : Str × Int × Unit) (rec K : Str × Int × Unit → Option (Bool × Unit)) : Option (Bool × Unit) :=
  cond (decide (t1.2.1 < (Int.ofNat (List.length t1.1)))) (rdL t1.1 t1.2.1 fun d2 => cond (decide ((Int.ofNat (UInt8.toNat d2)) ≥ 97)) (rdL t1.1 t1.2.1 fun d3 => rdL t1.1 t1.2.1 fun d4 => cond (decide ((Int.ofNat (UInt8.toNat d4)) ≥ 48)) (rdL t1.1 t1.2.1 fun d5 => cond (!(decide ((Int.ofNat (UInt8.toNat d3)) ≤ 122))) (cond (!(!(decide ((Int.ofNat (UInt8.toNat d5)) ≤ 57)))) (cond (decide (t1.2.1 = 0)) (some (false, ())) (rec (t1.1, (w64 (t1.2.1 + 1)), ()))) (some (false, ()))) (rec (t1.1, (w64 (t1.2.1 + 1)), ()))) (cond (!(decide ((Int.ofNat (UInt8.toNat d3)) ≤ 122))) (some (false, ())) (rec (t1.1, (w64 (t1.2.1 + 1)), ())))) (rdL t1.1 t1.2.1 fun d6 => cond (decide ((Int.ofNat (UInt8.toNat d6)) ≥ 48)) (rdL t1.1 t1.2.1 fun d7 => cond (!(!(decide ((Int.ofNat (UInt8.toNat d7)) ≤ 57)))) (cond (decide (t1.2.1 = 0)) (some (false, ())) (rec (t1.1, (w64 (t1.2.1 + 1)), ()))) (some (false, ()))) (some (false, ())))) (K (t1.1, t1.2.1, ()))
noncomputable def F129 (a : Str × Unit) : Option (Bool × Unit) :=
  iterF (s129_0) fuel (a.1, 0, ()) fun t8 => cond (decide ((Int.ofNat (List.length t8.1)) > 0)) (some ((decide ((Int.ofNat (List.length t8.1)) ≤ 8)), ())) (some (false, ()))
def E129 : Env := envL []
noncomputable def L129 : LEnv (densS (muts p129 ++ r129)) := lenv [(0, loopL (R := densS (muts p129 ++ r129)) q129_0 (s129_0))]
theorem e129_0 (X : Nat → St → Option (densS (muts p129 ++ r129))) (rec K : densS q129_0 → Option (densS (muts p129 ++ r129))) (t : densS q129_0) :
    ev (E129) tab (fun _ => false) (L129) (retK tab p129 r129 Proofs.Tryz.f129.results.toList) (loopC Proofs.Tryz.f129 0) (fun i s => cond (Nat.beq i 0) (decK 100 q129_0 s K) (X i s)) (fun s => decK 100 q129_0 s rec) (enc q129_0 t) = s129_0 t rec K := by kernel_rfl
theorem e129 (a : densS p129) : runF (E129) tab (fun _ => false) p129 r129 Proofs.Tryz.f129 (L129) a = F129 a := by kernel_rfl
theorem ok129 : OK Proofs.Tryz.prog 129 (mkE p129 r129 false (F129)) :=
  fn_ok (E := E129) tab_ok (envL_ok OKs.nil) mixed (ann := (fun _ => false)) (L := L129) (fn := Proofs.Tryz.f129) (c := bodyC Proofs.Tryz.f129) (ls := [(0, loopC Proofs.Tryz.f129 0)]) Proofs.Tryz.func129 (by kernel_rfl) (by kernel_rfl) (by kernel_rfl) (by kernel_rfl)
    (LoopsP.cons q129_0 (s129_0) rfl (e129_0) LoopsP.nil) (e129)
/-! spec.l1In -/
def p54 : List SP := [.one (.int .i64), .one (.int .i64), .one (.int .i64)]
def r54 : List SP := [.one (.bool)]
abbrev T54 := Int × Int × Int × Unit → Option (Bool × Unit)
abbrev N54 (f : T54) : Entry := mkE p54 r54 false f
noncomputable def F54 (a : Int × Int × Int × Unit) : Option (Bool × Unit) :=
  cond (decide (a.1 ≥ a.2.1)) (some ((decide (a.1 ≤ a.2.2.1)), ())) (some (false, ()))
def E54 : Env := envL []
noncomputable def L54 : LEnv (densS (muts p54 ++ r54)) := lenv []
theorem e54 (a : densS p54) : runF (E54) tab (fun _ => false) p54 r54 Proofs.Tryz.f54 (L54) a = F54 a := by kernel_rfl
theorem ok54 : OK Proofs.Tryz.prog 54 (mkE p54 r54 false (F54)) :=
  fn_ok (E := E54) tab_ok (envL_ok OKs.nil) mixed (ann := (fun _ => false)) (L := L54) (fn := Proofs.Tryz.f54) (c := bodyC Proofs.Tryz.f54) (ls := []) Proofs.Tryz.func54 (by kernel_rfl) (by kernel_rfl) (by kernel_rfl) (by kernel_rfl)
    LoopsP.nil (e54)
/-! spec.l5Supply -/
def p130 : List SP := [.one (.int .i64)]
def r130 : List SP := [.one (.bool)]
abbrev T130 := Int × Unit → Option (Bool × Unit)
abbrev N130 (f : T130) : Entry := mkE p130 r130 false f
noncomputable def F130 (f54 : T54) (a : Int × Unit) : Option (Bool × Unit) :=
  (f54 (a.1, 0, 512, ())).bind fun x1 => some (x1.1, ())
def E130 (f54 : T54) : Env := envL [(54, N54 f54)]
noncomputable def L130 (f54 : T54) : LEnv (densS (muts p130 ++ r130)) := lenv []
theorem e130 (f54 : T54) (a : densS p130) : runF (E130 f54) tab (fun _ => false) p130 r130 Proofs.Tryz.f130 (L130 f54) a = F130 f54 a := by kernel_rfl
theorem ok130 {f54 : T54} (h54 : OK Proofs.Tryz.prog 54 (N54 f54)) : OK Proofs.Tryz.prog 130 (mkE p130 r130 false (F130 f54)) :=
  fn_ok (E := E130 f54) tab_ok (envL_ok (OKs.cons h54 OKs.nil)) mixed (ann := (fun _ => false)) (L := L130 f54) (fn := Proofs.Tryz.f130) (c := bodyC Proofs.Tryz.f130) (ls := []) Proofs.Tryz.func130 (by kernel_rfl) (by kernel_rfl) (by kernel_rfl) (by kernel_rfl)
    LoopsP.nil (e130 f54)
/-! spec.IsHeading -/
def p60 : List SP := [.one (.int .i64)]
def r60 : List SP := [.one (.bool)]
abbrev T60 := Int × Unit → Option (Bool × Unit)
abbrev N60 (f : T60) : Entry := mkE p60 r60 false f
noncomputable def F60 (a : Int × Unit) : Option (Bool × Unit) :=
  cond (decide (a.1 ≥ 0)) (some ((decide (a.1 ≤ 3)), ())) (some (false, ()))
def E60 : Env := envL []
noncomputable def L60 : LEnv (densS (muts p60 ++ r60)) := lenv []
theorem e60 (a : densS p60) : runF (E60) tab (fun _ => false) p60 r60 Proofs.Tryz.f60 (L60) a = F60 a := by kernel_rfl
theorem ok60 : OK Proofs.Tryz.prog 60 (mkE p60 r60 false (F60)) :=
  fn_ok (E := E60) tab_ok (envL_ok OKs.nil) mixed (ann := (fun _ => false)) (L := L60) (fn := Proofs.Tryz.f60) (c := bodyC Proofs.Tryz.f60) (ls := []) Proofs.Tryz.func60 (by kernel_rfl) (by kernel_rfl) (by kernel_rfl) (by kernel_rfl)
    LoopsP.nil (e60)
/-! spec.IsJet -/
def p63 : List SP := [.t .jet]
def r63 : List SP := [.one (.bool)]
abbrev T63 := Jet × Unit → Option (Bool × Unit)
abbrev N63 (f : T63) : Entry := mkE p63 r63 false f
noncomputable def F63 (f54 : T54) (f60 : T60) (a : Jet × Unit) : Option (Bool × Unit) :=
  (f54 (a.1.At.X, (-1024), 1024, ())).bind fun x1 => cond x1.1 ((f54 (a.1.At.Y, (-1024), 1024, ())).bind fun x2 => cond x2.1 ((f60 (a.1.Heading, ())).bind fun x3 => cond x3.1 ((f54 (a.1.Tilt, 0, 16, ())).bind fun x4 => cond x4.1 ((f54 (a.1.Lift, 1, 32, ())).bind fun x5 => some (x5.1, ())) (some (false, ()))) (some (false, ()))) (some (false, ()))) (some (false, ()))
def E63 (f54 : T54) (f60 : T60) : Env := envL [(54, N54 f54), (60, N60 f60)]
noncomputable def L63 (f54 : T54) (f60 : T60) : LEnv (densS (muts p63 ++ r63)) := lenv []
theorem e63 (f54 : T54) (f60 : T60) (a : densS p63) : runF (E63 f54 f60) tab (fun _ => false) p63 r63 Proofs.Tryz.f63 (L63 f54 f60) a = F63 f54 f60 a := by kernel_rfl
theorem ok63 {f54 : T54} {f60 : T60} (h54 : OK Proofs.Tryz.prog 54 (N54 f54)) (h60 : OK Proofs.Tryz.prog 60 (N60 f60)) : OK Proofs.Tryz.prog 63 (mkE p63 r63 false (F63 f54 f60)) :=
  fn_ok (E := E63 f54 f60) tab_ok (envL_ok (OKs.cons h54 (OKs.cons h60 OKs.nil))) mixed (ann := (fun _ => false)) (L := L63 f54 f60) (fn := Proofs.Tryz.f63) (c := bodyC Proofs.Tryz.f63) (ls := []) Proofs.Tryz.func63 (by kernel_rfl) (by kernel_rfl) (by kernel_rfl) (by kernel_rfl)
    LoopsP.nil (e63 f54 f60)
/-! spec.l6Jet -/
def p131 : List SP := [.t .device]
def r131 : List SP := [.one (.bool)]
abbrev T131 := Device × Unit → Option (Bool × Unit)
abbrev N131 (f : T131) : Entry := mkE p131 r131 false f
noncomputable def F131 (f63 : T63) (a : Device × Unit) : Option (Bool × Unit) :=
  (f63 ((⟨⟨a.1.At.X, a.1.At.Y⟩, a.1.Heading, a.1.Tilt, 1⟩ : Jet), ())).bind fun x1 => some (x1.1, ())
def E131 (f63 : T63) : Env := envL [(63, N63 f63)]
noncomputable def L131 (f63 : T63) : LEnv (densS (muts p131 ++ r131)) := lenv []
theorem e131 (f63 : T63) (a : densS p131) : runF (E131 f63) tab (fun _ => false) p131 r131 Proofs.Tryz.f131 (L131 f63) a = F131 f63 a := by kernel_rfl
theorem ok131 {f63 : T63} (h63 : OK Proofs.Tryz.prog 63 (N63 f63)) : OK Proofs.Tryz.prog 131 (mkE p131 r131 false (F131 f63)) :=
  fn_ok (E := E131 f63) tab_ok (envL_ok (OKs.cons h63 OKs.nil)) mixed (ann := (fun _ => false)) (L := L131 f63) (fn := Proofs.Tryz.f131) (c := bodyC Proofs.Tryz.f131) (ls := []) Proofs.Tryz.func131 (by kernel_rfl) (by kernel_rfl) (by kernel_rfl) (by kernel_rfl)
    LoopsP.nil (e131 f63)
/-! spec.IsMeasure -/
def p96 : List SP := [.one (.int .i64)]
def r96 : List SP := [.one (.bool)]
abbrev T96 := Int × Unit → Option (Bool × Unit)
abbrev N96 (f : T96) : Entry := mkE p96 r96 false f
noncomputable def F96 (a : Int × Unit) : Option (Bool × Unit) :=
  cond (decide (a.1 ≥ (-4096))) (some ((decide (a.1 ≤ 4096)), ())) (some (false, ()))
def E96 : Env := envL []
noncomputable def L96 : LEnv (densS (muts p96 ++ r96)) := lenv []
theorem e96 (a : densS p96) : runF (E96) tab (fun _ => false) p96 r96 Proofs.Tryz.f96 (L96) a = F96 a := by kernel_rfl
theorem ok96 : OK Proofs.Tryz.prog 96 (mkE p96 r96 false (F96)) :=
  fn_ok (E := E96) tab_ok (envL_ok OKs.nil) mixed (ann := (fun _ => false)) (L := L96) (fn := Proofs.Tryz.f96) (c := bodyC Proofs.Tryz.f96) (ls := []) Proofs.Tryz.func96 (by kernel_rfl) (by kernel_rfl) (by kernel_rfl) (by kernel_rfl)
    LoopsP.nil (e96)
/-! spec.IsPlace -/
def p57 : List SP := [.t .place]
def r57 : List SP := [.one (.bool)]
abbrev T57 := Place × Unit → Option (Bool × Unit)
abbrev N57 (f : T57) : Entry := mkE p57 r57 false f
noncomputable def F57 (f96 : T96) (a : Place × Unit) : Option (Bool × Unit) :=
  (f96 (a.1.X, ())).bind fun x1 => cond x1.1 ((f96 (a.1.Y, ())).bind fun x2 => some (x2.1, ())) (some (false, ()))
def E57 (f96 : T96) : Env := envL [(96, N96 f96)]
noncomputable def L57 (f96 : T96) : LEnv (densS (muts p57 ++ r57)) := lenv []
theorem e57 (f96 : T96) (a : densS p57) : runF (E57 f96) tab (fun _ => false) p57 r57 Proofs.Tryz.f57 (L57 f96) a = F57 f96 a := by kernel_rfl
theorem ok57 {f96 : T96} (h96 : OK Proofs.Tryz.prog 96 (N96 f96)) : OK Proofs.Tryz.prog 57 (mkE p57 r57 false (F57 f96)) :=
  fn_ok (E := E57 f96) tab_ok (envL_ok (OKs.cons h96 OKs.nil)) mixed (ann := (fun _ => false)) (L := L57 f96) (fn := Proofs.Tryz.f57) (c := bodyC Proofs.Tryz.f57) (ls := []) Proofs.Tryz.func57 (by kernel_rfl) (by kernel_rfl) (by kernel_rfl) (by kernel_rfl)
    LoopsP.nil (e57 f96)
/-! spec.IsDevice -/
def p92 : List SP := [.t .device]
def r92 : List SP := [.one (.bool)]
abbrev T92 := Device × Unit → Option (Bool × Unit)
abbrev N92 (f : T92) : Entry := mkE p92 r92 false f
noncomputable def F92 (f129 : T129) (f130 : T130) (f131 : T131) (f54 : T54) (f57 : T57) (a : Device × Unit) : Option (Bool × Unit) :=
  (f129 (a.1.Line, ())).bind fun x1 => cond x1.1 ((f129 (a.1.Name, ())).bind fun x2 => cond (!x2.1) (some (false, ())) (cond (decide (a.1.Kind = 1)) ((f130 (a.1.Most, ())).bind fun x3 => cond x3.1 (some ((decide (a.1.Name = a.1.Name) && (decide (a.1.Kind = a.1.Kind) && (decide (a.1.Line = []) && (decide (a.1.At.X = 0) && (decide (a.1.At.Y = 0) && (decide (a.1.Heading = 0) && (decide (a.1.Tilt = 0) && (decide (a.1.Most = a.1.Most) && true)))))))), ())) (some (false, ()))) (cond (decide (a.1.Kind = 2)) (cond (!decide (a.1.Line = a.1.Name)) ((f131 (a.1, ())).bind fun x4 => cond x4.1 ((f54 (a.1.Most, 0, 32, ())).bind fun x5 => some (x5.1, ())) (some (false, ()))) (some (false, ()))) (cond (decide (a.1.Kind = 3)) (cond (!decide (a.1.Line = a.1.Name)) ((f57 (a.1.At, ())).bind fun x6 => cond x6.1 (some ((decide (a.1.Name = a.1.Name) && (decide (a.1.Kind = a.1.Kind) && (decide (a.1.Line = a.1.Line) && (decide (a.1.At.X = a.1.At.X) && (decide (a.1.At.Y = a.1.At.Y) && (decide (a.1.Heading = 0) && (decide (a.1.Tilt = 0) && (decide (a.1.Most = 0) && true)))))))), ())) (some (false, ()))) (some (false, ()))) (some (false, ())))))) ((f129 (a.1.Name, ())).bind fun x7 => cond (!x7.1) (some (false, ())) (cond (decide (a.1.Kind = 1)) ((f130 (a.1.Most, ())).bind fun x8 => cond x8.1 (some ((decide (a.1.Name = a.1.Name) && (decide (a.1.Kind = a.1.Kind) && (decide (a.1.Line = []) && (decide (a.1.At.X = 0) && (decide (a.1.At.Y = 0) && (decide (a.1.Heading = 0) && (decide (a.1.Tilt = 0) && (decide (a.1.Most = a.1.Most) && true)))))))), ())) (some (false, ()))) (cond (decide (a.1.Kind = 2)) (some (false, ())) (cond (decide (a.1.Kind = 3)) (some (false, ())) (some (false, ()))))))
def E92 (f129 : T129) (f130 : T130) (f131 : T131) (f54 : T54) (f57 : T57) : Env := envL [(129, N129 f129), (130, N130 f130), (131, N131 f131), (54, N54 f54), (57, N57 f57)]
noncomputable def L92 (f129 : T129) (f130 : T130) (f131 : T131) (f54 : T54) (f57 : T57) : LEnv (densS (muts p92 ++ r92)) := lenv []
theorem e92 (f129 : T129) (f130 : T130) (f131 : T131) (f54 : T54) (f57 : T57) (a : densS p92) : runF (E92 f129 f130 f131 f54 f57) tab (fun _ => false) p92 r92 Proofs.Tryz.f92 (L92 f129 f130 f131 f54 f57) a = F92 f129 f130 f131 f54 f57 a := by kernel_rfl
theorem ok92 {f129 : T129} {f130 : T130} {f131 : T131} {f54 : T54} {f57 : T57} (h129 : OK Proofs.Tryz.prog 129 (N129 f129)) (h130 : OK Proofs.Tryz.prog 130 (N130 f130)) (h131 : OK Proofs.Tryz.prog 131 (N131 f131)) (h54 : OK Proofs.Tryz.prog 54 (N54 f54)) (h57 : OK Proofs.Tryz.prog 57 (N57 f57)) : OK Proofs.Tryz.prog 92 (mkE p92 r92 false (F92 f129 f130 f131 f54 f57)) :=
  fn_ok (E := E92 f129 f130 f131 f54 f57) tab_ok (envL_ok (OKs.cons h129 (OKs.cons h130 (OKs.cons h131 (OKs.cons h54 (OKs.cons h57 OKs.nil)))))) mixed (ann := (fun _ => false)) (L := L92 f129 f130 f131 f54 f57) (fn := Proofs.Tryz.f92) (c := bodyC Proofs.Tryz.f92) (ls := []) Proofs.Tryz.func92 (by kernel_rfl) (by kernel_rfl) (by kernel_rfl) (by kernel_rfl)
    LoopsP.nil (e92 f129 f130 f131 f54 f57)
/-! spec.FindDevice -/
def p132 : List SP := [.one (.r .device), .one (.str)]
def r132 : List SP := [.one (.int .i64)]
abbrev T132 := List Device × Str × Unit → Option (Int × Unit)
abbrev N132 (f : T132) : Entry := mkE p132 r132 false f
def q132_0 : List SP := pat 20 0 [(1, .one (.str)), (7, .one (.r .device)), (8, .one (.int .i64)), (9, .one (.int .i64))]
noncomputable def s132_0 (t1 : Str × List Device × Int × Int × Unit) (rec K : Str × List Device × Int × Int × Unit → Option (Int × Unit)) : Option (Int × Unit) :=
  cond (decide (t1.2.2.2.1 < t1.2.2.1)) (rdL t1.2.1 t1.2.2.2.1 fun d2 => cond (decide (d2.Name = t1.1)) (some (t1.2.2.2.1, ())) (rec (t1.1, t1.2.1, t1.2.2.1, (w64 (t1.2.2.2.1 + 1)), ()))) (K (t1.1, t1.2.1, t1.2.2.1, t1.2.2.2.1, ()))
noncomputable def F132 (a : List Device × Str × Unit) : Option (Int × Unit) :=
  iterF (s132_0) fuel (a.2.1, a.1, (Int.ofNat (List.length a.1)), 0, ()) fun t3 => some ((-1), ())
def E132 : Env := envL []
noncomputable def L132 : LEnv (densS (muts p132 ++ r132)) := lenv [(0, loopL (R := densS (muts p132 ++ r132)) q132_0 (s132_0))]
theorem e132_0 (X : Nat → St → Option (densS (muts p132 ++ r132))) (rec K : densS q132_0 → Option (densS (muts p132 ++ r132))) (t : densS q132_0) :
    ev (E132) tab (fun _ => false) (L132) (retK tab p132 r132 Proofs.Tryz.f132.results.toList) (loopC Proofs.Tryz.f132 0) (fun i s => cond (Nat.beq i 0) (decK 100 q132_0 s K) (X i s)) (fun s => decK 100 q132_0 s rec) (enc q132_0 t) = s132_0 t rec K := by kernel_rfl
theorem e132 (a : densS p132) : runF (E132) tab (fun _ => false) p132 r132 Proofs.Tryz.f132 (L132) a = F132 a := by kernel_rfl
theorem ok132 : OK Proofs.Tryz.prog 132 (mkE p132 r132 false (F132)) :=
  fn_ok (E := E132) tab_ok (envL_ok OKs.nil) mixed (ann := (fun _ => false)) (L := L132) (fn := Proofs.Tryz.f132) (c := bodyC Proofs.Tryz.f132) (ls := [(0, loopC Proofs.Tryz.f132 0)]) Proofs.Tryz.func132 (by kernel_rfl) (by kernel_rfl) (by kernel_rfl) (by kernel_rfl)
    (LoopsP.cons q132_0 (s132_0) rfl (e132_0) LoopsP.nil) (e132)
/-! spec.l6Hangs -/
def p93 : List SP := [.one (.r .device), .t .device]
def r93 : List SP := [.one (.bool)]
abbrev T93 := List Device × Device × Unit → Option (Bool × Unit)
abbrev N93 (f : T93) : Entry := mkE p93 r93 false f
noncomputable def F93 (f132 : T132) (a : List Device × Device × Unit) : Option (Bool × Unit) :=
  (f132 (a.1, a.2.1.Line, ())).bind fun x1 => cond (decide (a.2.1.Kind = 2)) (cond (decide (x1.1 ≥ 0)) (rdL a.1 x1.1 fun d2 => some ((decide (d2.Kind = 1)), ())) (some (false, ()))) (cond (decide (a.2.1.Kind = 3)) (cond (decide (x1.1 ≥ 0)) (rdL a.1 x1.1 fun d3 => some ((decide (d3.Kind = 2)), ())) (some (false, ()))) (some (true, ())))
def E93 (f132 : T132) : Env := envL [(132, N132 f132)]
noncomputable def L93 (f132 : T132) : LEnv (densS (muts p93 ++ r93)) := lenv []
theorem e93 (f132 : T132) (a : densS p93) : runF (E93 f132) tab (fun _ => false) p93 r93 Proofs.Tryz.f93 (L93 f132) a = F93 f132 a := by kernel_rfl
theorem ok93 {f132 : T132} (h132 : OK Proofs.Tryz.prog 132 (N132 f132)) : OK Proofs.Tryz.prog 93 (mkE p93 r93 false (F93 f132)) :=
  fn_ok (E := E93 f132) tab_ok (envL_ok (OKs.cons h132 OKs.nil)) mixed (ann := (fun _ => false)) (L := L93 f132) (fn := Proofs.Tryz.f93) (c := bodyC Proofs.Tryz.f93) (ls := []) Proofs.Tryz.func93 (by kernel_rfl) (by kernel_rfl) (by kernel_rfl) (by kernel_rfl)
    LoopsP.nil (e93 f132)
/-! spec.IsRig -/
def p51 : List SP := [.one (.r .device)]
def r51 : List SP := [.one (.bool)]
abbrev T51 := List Device × Unit → Option (Bool × Unit)
abbrev N51 (f : T51) : Entry := mkE p51 r51 false f
def q51_0 : List SP := pat 40 0 [(0, .one (.r .device)), (5, .one (.r .device)), (6, .one (.int .i64)), (7, .one (.int .i64))]
noncomputable def s51_0 (f92 : T92) (f93 : T93) (t1 : List Device × List Device × Int × Int × Unit) (rec K : List Device × List Device × Int × Int × Unit → Option (Bool × Unit)) : Option (Bool × Unit) :=
  cond (decide (t1.2.2.2.1 < t1.2.2.1)) (rdL t1.2.1 t1.2.2.2.1 fun d2 => (f92 (d2, ())).bind fun x3 => cond (!(!x3.1)) (cond (decide (t1.2.2.2.1 > 0)) (rdL t1.1 (w64 (t1.2.2.2.1 - 1)) fun d4 => cond (!(!Op.bytesLess d4.Name d2.Name)) ((f93 (t1.1, d2, ())).bind fun x5 => cond (!x5.1) (some (false, ())) (rec (t1.1, t1.2.1, t1.2.2.1, (w64 (t1.2.2.2.1 + 1)), ()))) (some (false, ()))) ((f93 (t1.1, d2, ())).bind fun x6 => cond (!x6.1) (some (false, ())) (rec (t1.1, t1.2.1, t1.2.2.1, (w64 (t1.2.2.2.1 + 1)), ())))) (some (false, ()))) (K (t1.1, t1.2.1, t1.2.2.1, t1.2.2.2.1, ()))
noncomputable def F51 (f92 : T92) (f93 : T93) (a : List Device × Unit) : Option (Bool × Unit) :=
  iterF (s51_0 f92 f93) fuel (a.1, a.1, (Int.ofNat (List.length a.1)), 0, ()) fun t7 => some ((decide ((Int.ofNat (List.length t7.1)) ≤ 8)), ())
def E51 (f92 : T92) (f93 : T93) : Env := envL [(92, N92 f92), (93, N93 f93)]
noncomputable def L51 (f92 : T92) (f93 : T93) : LEnv (densS (muts p51 ++ r51)) := lenv [(0, loopL (R := densS (muts p51 ++ r51)) q51_0 (s51_0 f92 f93))]
theorem e51_0 (f92 : T92) (f93 : T93) (X : Nat → St → Option (densS (muts p51 ++ r51))) (rec K : densS q51_0 → Option (densS (muts p51 ++ r51))) (t : densS q51_0) :
    ev (E51 f92 f93) tab (fun _ => false) (L51 f92 f93) (retK tab p51 r51 Proofs.Tryz.f51.results.toList) (loopC Proofs.Tryz.f51 0) (fun i s => cond (Nat.beq i 0) (decK 100 q51_0 s K) (X i s)) (fun s => decK 100 q51_0 s rec) (enc q51_0 t) = s51_0 f92 f93 t rec K := by kernel_rfl
theorem e51 (f92 : T92) (f93 : T93) (a : densS p51) : runF (E51 f92 f93) tab (fun _ => false) p51 r51 Proofs.Tryz.f51 (L51 f92 f93) a = F51 f92 f93 a := by kernel_rfl
theorem ok51 {f92 : T92} {f93 : T93} (h92 : OK Proofs.Tryz.prog 92 (N92 f92)) (h93 : OK Proofs.Tryz.prog 93 (N93 f93)) : OK Proofs.Tryz.prog 51 (mkE p51 r51 false (F51 f92 f93)) :=
  fn_ok (E := E51 f92 f93) tab_ok (envL_ok (OKs.cons h92 (OKs.cons h93 OKs.nil))) mixed (ann := (fun _ => false)) (L := L51 f92 f93) (fn := Proofs.Tryz.f51) (c := bodyC Proofs.Tryz.f51) (ls := [(0, loopC Proofs.Tryz.f51 0)]) Proofs.Tryz.func51 (by kernel_rfl) (by kernel_rfl) (by kernel_rfl) (by kernel_rfl)
    (LoopsP.cons q51_0 (s51_0 f92 f93) rfl (e51_0 f92 f93) LoopsP.nil) (e51 f92 f93)
/-! spec.l6Copies -/
def p207 : List SP := [.one (.r .device)]
def r207 : List SP := [.one (.o 0 .device)]
abbrev T207 := List Device × Unit → Option (List Device × Unit)
abbrev N207 (f : T207) : Entry := mkE p207 r207 false f
noncomputable def F207 (a : List Device × Unit) : Option (List Device × Unit) :=
  capK (List.length ([] : List Device) + List.length a.1) (some ((([] : List Device) ++ a.1), ()))
def E207 : Env := envL []
noncomputable def L207 : LEnv (densS (muts p207 ++ r207)) := lenv []
theorem e207 (a : densS p207) : runF (E207) tab (fun _ => false) p207 r207 Proofs.Tryz.f207 (L207) a = F207 a := by kernel_rfl
theorem ok207 : OK Proofs.Tryz.prog 207 (mkE p207 r207 false (F207)) :=
  fn_ok (E := E207) tab_ok (envL_ok OKs.nil) mixed (ann := (fun _ => false)) (L := L207) (fn := Proofs.Tryz.f207) (c := bodyC Proofs.Tryz.f207) (ls := []) Proofs.Tryz.func207 (by kernel_rfl) (by kernel_rfl) (by kernel_rfl) (by kernel_rfl)
    LoopsP.nil (e207)
/-! spec.AddDevice -/
def p184 : List SP := [.one (.r .device), .t .device]
def r184 : List SP := [.one (.o 0 .device), .one (.bool)]
abbrev T184 := List Device × Device × Unit → Option (List Device × Bool × Unit)
abbrev N184 (f : T184) : Entry := mkE p184 r184 false f
def q184_0 : List SP := pat 70 0 [(3, .boxt 5000001 .device), (6, .one (.o 5000002 .device)), (7, .one (.bool)), (39, .one (.r .device)), (40, .one (.int .i64)), (41, .one (.int .i64))]
noncomputable def s184_0 (f51 : T51) (f92 : T92) (f132 : T132) (f93 : T93) (f207 : T207) (t6 : Device × List Device × Bool × List Device × Int × Int × Unit) (rec K : Device × List Device × Bool × List Device × Int × Int × Unit → Option (List Device × Bool × Unit)) : Option (List Device × Bool × Unit) :=
  cond (decide (t6.2.2.2.2.2.1 < t6.2.2.2.2.1)) (rdL t6.2.2.2.1 t6.2.2.2.2.2.1 fun d7 => cond (!t6.2.2.1) (cond (!(Op.bytesLess d7.Name t6.1.Name || decide (d7.Name = t6.1.Name))) (capK (List.length t6.2.1 + List.length ([t6.1] : List Device)) (capK (List.length (t6.2.1 ++ ([t6.1] : List Device)) + List.length ([d7] : List Device)) (rec (t6.1, ((t6.2.1 ++ ([t6.1] : List Device)) ++ ([d7] : List Device)), true, t6.2.2.2.1, t6.2.2.2.2.1, (w64 (t6.2.2.2.2.2.1 + 1)), ())))) (capK (List.length t6.2.1 + List.length ([d7] : List Device)) (rec (t6.1, (t6.2.1 ++ ([d7] : List Device)), t6.2.2.1, t6.2.2.2.1, t6.2.2.2.2.1, (w64 (t6.2.2.2.2.2.1 + 1)), ())))) (capK (List.length t6.2.1 + List.length ([d7] : List Device)) (rec (t6.1, (t6.2.1 ++ ([d7] : List Device)), t6.2.2.1, t6.2.2.2.1, t6.2.2.2.2.1, (w64 (t6.2.2.2.2.2.1 + 1)), ())))) (K (t6.1, t6.2.1, t6.2.2.1, t6.2.2.2.1, t6.2.2.2.2.1, t6.2.2.2.2.2.1, ()))
noncomputable def F184 (f51 : T51) (f92 : T92) (f132 : T132) (f93 : T93) (f207 : T207) (a : List Device × Device × Unit) : Option (List Device × Bool × Unit) :=
  (f51 (a.1, ())).bind fun x1 => cond (!(!x1.1)) ((f92 (a.2.1, ())).bind fun x2 => cond (!(!x2.1)) ((f132 (a.1, a.2.1.Name, ())).bind fun x3 => cond (!(decide (x3.1 ≥ 0))) (cond (!(decide ((Int.ofNat (List.length a.1)) = 8))) ((f93 (a.1, a.2.1, ())).bind fun x4 => cond (!x4.1) ((f207 (a.1, ())).bind fun x5 => some (x5.1, false, ())) (iterF (s184_0 f51 f92 f132 f93 f207) fuel (a.2.1, ([] : List Device), false, a.1, (Int.ofNat (List.length a.1)), 0, ()) fun t8 => cond (!t8.2.2.1) (capK (List.length t8.2.1 + List.length ([t8.1] : List Device)) (some ((t8.2.1 ++ ([t8.1] : List Device)), true, ()))) (some (t8.2.1, true, ())))) ((f207 (a.1, ())).bind fun x9 => some (x9.1, false, ()))) ((f207 (a.1, ())).bind fun x10 => some (x10.1, false, ()))) ((f207 (a.1, ())).bind fun x11 => some (x11.1, false, ()))) ((f207 (a.1, ())).bind fun x12 => some (x12.1, false, ()))
def E184 (f51 : T51) (f92 : T92) (f132 : T132) (f93 : T93) (f207 : T207) : Env := envL [(51, N51 f51), (92, N92 f92), (132, N132 f132), (93, N93 f93), (207, N207 f207)]
noncomputable def L184 (f51 : T51) (f92 : T92) (f132 : T132) (f93 : T93) (f207 : T207) : LEnv (densS (muts p184 ++ r184)) := lenv [(0, loopL (R := densS (muts p184 ++ r184)) q184_0 (s184_0 f51 f92 f132 f93 f207))]
theorem e184_0 (f51 : T51) (f92 : T92) (f132 : T132) (f93 : T93) (f207 : T207) (X : Nat → St → Option (densS (muts p184 ++ r184))) (rec K : densS q184_0 → Option (densS (muts p184 ++ r184))) (t : densS q184_0) :
    ev (E184 f51 f92 f132 f93 f207) tab (fun _ => false) (L184 f51 f92 f132 f93 f207) (retK tab p184 r184 Proofs.Tryz.f184.results.toList) (loopC Proofs.Tryz.f184 0) (fun i s => cond (Nat.beq i 0) (decK 100 q184_0 s K) (X i s)) (fun s => decK 100 q184_0 s rec) (enc q184_0 t) = s184_0 f51 f92 f132 f93 f207 t rec K := by kernel_rfl
theorem e184 (f51 : T51) (f92 : T92) (f132 : T132) (f93 : T93) (f207 : T207) (a : densS p184) : runF (E184 f51 f92 f132 f93 f207) tab (fun _ => false) p184 r184 Proofs.Tryz.f184 (L184 f51 f92 f132 f93 f207) a = F184 f51 f92 f132 f93 f207 a := by kernel_rfl
theorem ok184 {f51 : T51} {f92 : T92} {f132 : T132} {f93 : T93} {f207 : T207} (h51 : OK Proofs.Tryz.prog 51 (N51 f51)) (h92 : OK Proofs.Tryz.prog 92 (N92 f92)) (h132 : OK Proofs.Tryz.prog 132 (N132 f132)) (h93 : OK Proofs.Tryz.prog 93 (N93 f93)) (h207 : OK Proofs.Tryz.prog 207 (N207 f207)) : OK Proofs.Tryz.prog 184 (mkE p184 r184 false (F184 f51 f92 f132 f93 f207)) :=
  fn_ok (E := E184 f51 f92 f132 f93 f207) tab_ok (envL_ok (OKs.cons h51 (OKs.cons h92 (OKs.cons h132 (OKs.cons h93 (OKs.cons h207 OKs.nil)))))) mixed (ann := (fun _ => false)) (L := L184 f51 f92 f132 f93 f207) (fn := Proofs.Tryz.f184) (c := bodyC Proofs.Tryz.f184) (ls := [(0, loopC Proofs.Tryz.f184 0)]) Proofs.Tryz.func184 (by kernel_rfl) (by kernel_rfl) (by kernel_rfl) (by kernel_rfl)
    (LoopsP.cons q184_0 (s184_0 f51 f92 f132 f93 f207) rfl (e184_0 f51 f92 f132 f93 f207) LoopsP.nil) (e184 f51 f92 f132 f93 f207)
/-! spec.l1Str -/
def p186 : List SP := [.box 0 [.r .u8, .int .i64, .int .i64], .one (.r .str)]
def r186 : List SP := [.one (.str)]
abbrev T186 := CuD × List Str × Unit → Option (CuD × Str × Unit)
abbrev N186 (f : T186) : Entry := mkE p186 r186 true f
noncomputable def F186 (f116 : T116) (a : CuD × List Str × Unit) : Option (CuD × Str × Unit) :=
  (f116 ((a.1.1, a.1.2.1, a.1.2.2.1, ()), (Int.ofNat (List.length a.2.1)), ())).bind fun x1 => rdL a.2.1 x1.2.1 fun d2 => some ((x1.1.1, x1.1.2.1, x1.1.2.2.1, ()), d2, ())
def E186 (f116 : T116) : Env := envL [(116, N116 f116)]
noncomputable def L186 (f116 : T116) : LEnv (densS (muts p186 ++ r186)) := lenv []
theorem e186 (f116 : T116) (a : densS p186) : runF (E186 f116) tab (fun _ => false) p186 r186 Proofs.Tryz.f186 (L186 f116) a = F186 f116 a := by kernel_rfl
theorem ok186 {f116 : T116} (h116 : OK Proofs.Tryz.prog 116 (N116 f116)) : OK Proofs.Tryz.prog 186 (mkE p186 r186 true (F186 f116)) :=
  fn_ok (E := E186 f116) tab_ok (envL_ok (OKs.cons h116 OKs.nil)) mixed (ann := (fun _ => false)) (L := L186 f116) (fn := Proofs.Tryz.f186) (c := bodyC Proofs.Tryz.f186) (ls := []) Proofs.Tryz.func186 (by kernel_rfl) (by kernel_rfl) (by kernel_rfl) (by kernel_rfl)
    LoopsP.nil (e186 f116)
/-! spec.l1Some -/
def p159 : List SP := [.box 0 [.r .u8, .int .i64, .int .i64], .one (.int .i64), .one (.int .i64)]
def r159 : List SP := [.one (.int .i64)]
abbrev T159 := CuD × Int × Int × Unit → Option (CuD × Int × Unit)
abbrev N159 (f : T159) : Entry := mkE p159 r159 true f
noncomputable def F159 (f116 : T116) (a : CuD × Int × Int × Unit) : Option (CuD × Int × Unit) :=
  (f116 ((a.1.1, a.1.2.1, a.1.2.2.1, ()), (w64 ((w64 (a.2.2.1 - a.2.1)) + 1)), ())).bind fun x1 => some ((x1.1.1, x1.1.2.1, x1.1.2.2.1, ()), (w64 (a.2.1 + x1.2.1)), ())
def E159 (f116 : T116) : Env := envL [(116, N116 f116)]
noncomputable def L159 (f116 : T116) : LEnv (densS (muts p159 ++ r159)) := lenv []
theorem e159 (f116 : T116) (a : densS p159) : runF (E159 f116) tab (fun _ => false) p159 r159 Proofs.Tryz.f159 (L159 f116) a = F159 f116 a := by kernel_rfl
theorem ok159 {f116 : T116} (h116 : OK Proofs.Tryz.prog 116 (N116 f116)) : OK Proofs.Tryz.prog 159 (mkE p159 r159 true (F159 f116)) :=
  fn_ok (E := E159 f116) tab_ok (envL_ok (OKs.cons h116 OKs.nil)) mixed (ann := (fun _ => false)) (L := L159 f116) (fn := Proofs.Tryz.f159) (c := bodyC Proofs.Tryz.f159) (ls := []) Proofs.Tryz.func159 (by kernel_rfl) (by kernel_rfl) (by kernel_rfl) (by kernel_rfl)
    LoopsP.nil (e159 f116)
/-! spec.l2Draw -/
def p187 : List SP := [.box 0 [.r .u8, .int .i64, .int .i64]]
def r187 : List SP := [.t .place]
abbrev T187 := CuD × Unit → Option (CuD × Place × Unit)
abbrev N187 (f : T187) : Entry := mkE p187 r187 true f
noncomputable def F187 (f159 : T159) (a : CuD × Unit) : Option (CuD × Place × Unit) :=
  (f159 ((a.1.1, a.1.2.1, a.1.2.2.1, ()), (-64), 64, ())).bind fun x1 => (f159 ((x1.1.1, x1.1.2.1, x1.1.2.2.1, ()), (-64), 64, ())).bind fun x2 => some ((x2.1.1, x2.1.2.1, x2.1.2.2.1, ()), (⟨x1.2.1, x2.2.1⟩ : Place), ())
def E187 (f159 : T159) : Env := envL [(159, N159 f159)]
noncomputable def L187 (f159 : T159) : LEnv (densS (muts p187 ++ r187)) := lenv []
theorem e187 (f159 : T159) (a : densS p187) : runF (E187 f159) tab (fun _ => false) p187 r187 Proofs.Tryz.f187 (L187 f159) a = F187 f159 a := by kernel_rfl
theorem ok187 {f159 : T159} (h159 : OK Proofs.Tryz.prog 159 (N159 f159)) : OK Proofs.Tryz.prog 187 (mkE p187 r187 true (F187 f159)) :=
  fn_ok (E := E187 f159) tab_ok (envL_ok (OKs.cons h159 OKs.nil)) mixed (ann := (fun _ => false)) (L := L187 f159) (fn := Proofs.Tryz.f187) (c := bodyC Proofs.Tryz.f187) (ls := []) Proofs.Tryz.func187 (by kernel_rfl) (by kernel_rfl) (by kernel_rfl) (by kernel_rfl)
    LoopsP.nil (e187 f159)
/-! spec.l3Draw -/
def p208 : List SP := [.box 0 [.r .u8, .int .i64, .int .i64]]
def r208 : List SP := [.t .jet]
abbrev T208 := CuD × Unit → Option (CuD × Jet × Unit)
abbrev N208 (f : T208) : Entry := mkE p208 r208 true f
noncomputable def F208 (f187 : T187) (f116 : T116) (f159 : T159) (a : CuD × Unit) : Option (CuD × Jet × Unit) :=
  (f187 ((a.1.1, a.1.2.1, a.1.2.2.1, ()), ())).bind fun x1 => (f116 ((x1.1.1, x1.1.2.1, x1.1.2.2.1, ()), 4, ())).bind fun x2 => (f116 ((x2.1.1, x2.1.2.1, x2.1.2.2.1, ()), 17, ())).bind fun x3 => (f159 ((x3.1.1, x3.1.2.1, x3.1.2.2.1, ()), 1, 32, ())).bind fun x4 => some ((x4.1.1, x4.1.2.1, x4.1.2.2.1, ()), (⟨⟨x1.2.1.X, x1.2.1.Y⟩, x2.2.1, x3.2.1, x4.2.1⟩ : Jet), ())
def E208 (f187 : T187) (f116 : T116) (f159 : T159) : Env := envL [(187, N187 f187), (116, N116 f116), (159, N159 f159)]
noncomputable def L208 (f187 : T187) (f116 : T116) (f159 : T159) : LEnv (densS (muts p208 ++ r208)) := lenv []
theorem e208 (f187 : T187) (f116 : T116) (f159 : T159) (a : densS p208) : runF (E208 f187 f116 f159) tab (fun _ => false) p208 r208 Proofs.Tryz.f208 (L208 f187 f116 f159) a = F208 f187 f116 f159 a := by kernel_rfl
theorem ok208 {f187 : T187} {f116 : T116} {f159 : T159} (h187 : OK Proofs.Tryz.prog 187 (N187 f187)) (h116 : OK Proofs.Tryz.prog 116 (N116 f116)) (h159 : OK Proofs.Tryz.prog 159 (N159 f159)) : OK Proofs.Tryz.prog 208 (mkE p208 r208 true (F208 f187 f116 f159)) :=
  fn_ok (E := E208 f187 f116 f159) tab_ok (envL_ok (OKs.cons h187 (OKs.cons h116 (OKs.cons h159 OKs.nil)))) mixed (ann := (fun _ => false)) (L := L208 f187 f116 f159) (fn := Proofs.Tryz.f208) (c := bodyC Proofs.Tryz.f208) (ls := []) Proofs.Tryz.func208 (by kernel_rfl) (by kernel_rfl) (by kernel_rfl) (by kernel_rfl)
    LoopsP.nil (e208 f187 f116 f159)
/-! spec.l6Nozzle -/
def p185 : List SP := [.box 0 [.r .u8, .int .i64, .int .i64], .one (.str), .one (.str)]
def r185 : List SP := [.t .device]
abbrev T185 := CuD × Str × Str × Unit → Option (CuD × Device × Unit)
abbrev N185 (f : T185) : Entry := mkE p185 r185 true f
noncomputable def F185 (f208 : T208) (f159 : T159) (a : CuD × Str × Str × Unit) : Option (CuD × Device × Unit) :=
  (f208 ((a.1.1, a.1.2.1, a.1.2.2.1, ()), ())).bind fun x1 => (f159 ((x1.1.1, x1.1.2.1, x1.1.2.2.1, ()), 0, 32, ())).bind fun x2 => some ((x2.1.1, x2.1.2.1, x2.1.2.2.1, ()), (⟨a.2.1, 2, a.2.2.1, ⟨x1.2.1.At.X, x1.2.1.At.Y⟩, x1.2.1.Heading, x1.2.1.Tilt, x2.2.1⟩ : Device), ())
def E185 (f208 : T208) (f159 : T159) : Env := envL [(208, N208 f208), (159, N159 f159)]
noncomputable def L185 (f208 : T208) (f159 : T159) : LEnv (densS (muts p185 ++ r185)) := lenv []
theorem e185 (f208 : T208) (f159 : T159) (a : densS p185) : runF (E185 f208 f159) tab (fun n => Nat.beq n 1200000 || Nat.beq n 1299999) p185 r185 Proofs.Tryz.f185 (L185 f208 f159) a = F185 f208 f159 a := by kernel_rfl
theorem ok185 {f208 : T208} {f159 : T159} (h208 : OK Proofs.Tryz.prog 208 (N208 f208)) (h159 : OK Proofs.Tryz.prog 159 (N159 f159)) : OK Proofs.Tryz.prog 185 (mkE p185 r185 true (F185 f208 f159)) :=
  fn_ok (E := E185 f208 f159) tab_ok (envL_ok (OKs.cons h208 (OKs.cons h159 OKs.nil))) mixed (ann := (fun n => Nat.beq n 1200000 || Nat.beq n 1299999)) (L := L185 f208 f159) (fn := Proofs.Tryz.f185) (c := bodyC Proofs.Tryz.f185) (ls := []) Proofs.Tryz.func185 (by kernel_rfl) (by kernel_rfl) (by kernel_rfl) (by kernel_rfl)
    LoopsP.nil (e185 f208 f159)
/-! spec.l1Once -/
def p126 : List SP := [.box 0 [.r .u8, .int .i64, .int .i64], .one (.int .i64)]
def r126 : List SP := [.one (.bool)]
abbrev T126 := CuD × Int × Unit → Option (CuD × Bool × Unit)
abbrev N126 (f : T126) : Entry := mkE p126 r126 true f
noncomputable def F126 (f116 : T116) (a : CuD × Int × Unit) : Option (CuD × Bool × Unit) :=
  (f116 ((a.1.1, a.1.2.1, a.1.2.2.1, ()), a.2.1, ())).bind fun x1 => some ((x1.1.1, x1.1.2.1, x1.1.2.2.1, ()), (decide (x1.2.1 = 0)), ())
def E126 (f116 : T116) : Env := envL [(116, N116 f116)]
noncomputable def L126 (f116 : T116) : LEnv (densS (muts p126 ++ r126)) := lenv []
theorem e126 (f116 : T116) (a : densS p126) : runF (E126 f116) tab (fun _ => false) p126 r126 Proofs.Tryz.f126 (L126 f116) a = F126 f116 a := by kernel_rfl
theorem ok126 {f116 : T116} (h116 : OK Proofs.Tryz.prog 116 (N116 f116)) : OK Proofs.Tryz.prog 126 (mkE p126 r126 true (F126 f116)) :=
  fn_ok (E := E126 f116) tab_ok (envL_ok (OKs.cons h116 OKs.nil)) mixed (ann := (fun _ => false)) (L := L126 f116) (fn := Proofs.Tryz.f126) (c := bodyC Proofs.Tryz.f126) (ls := []) Proofs.Tryz.func126 (by kernel_rfl) (by kernel_rfl) (by kernel_rfl) (by kernel_rfl)
    LoopsP.nil (e126 f116)
/-! spec.l6Draw -/
def p150 : List SP := [.box 0 [.r .u8, .int .i64, .int .i64]]
def r150 : List SP := [.one (.o 1 .device)]
abbrev T150 := CuD × Unit → Option (CuD × List Device × Unit)
abbrev N150 (f : T150) : Entry := mkE p150 r150 true f
def q150_0 : List SP := pat 76 0 [(0, .box 0 [.r .u8, .int .i64, .int .i64]), (3, .one (.o 5000001 .device)), (4, .one (.r .str)), (16, .one (.r .str)), (17, .one (.int .i64)), (18, .one (.int .i64))]
noncomputable def s150_0 (f116 : T116) (f184 : T184) (f186 : T186) (f185 : T185) (f126 : T126) (f187 : T187) (t2 : CuD × List Device × List Str × List Str × Int × Int × Unit) (rec K : CuD × List Device × List Str × List Str × Int × Int × Unit → Option (CuD × List Device × Unit)) : Option (CuD × List Device × Unit) :=
  cond (decide (t2.2.2.2.2.2.1 < t2.2.2.2.2.1)) (rdL t2.2.2.2.1 t2.2.2.2.2.2.1 fun d3 => (f116 ((t2.1.1, t2.1.2.1, t2.1.2.2.1, ()), 80, ())).bind fun x4 => (f184 (t2.2.1, (⟨d3, 1, [], ⟨0, 0⟩, 0, 0, x4.2.1⟩ : Device), ())).bind fun x5 => rec ((x4.1.1, x4.1.2.1, x4.1.2.2.1, ()), x5.1, t2.2.2.1, t2.2.2.2.1, t2.2.2.2.2.1, (w64 (t2.2.2.2.2.2.1 + 1)), ())) (K ((t2.1.1, t2.1.2.1, t2.1.2.2.1, ()), t2.2.1, t2.2.2.1, t2.2.2.2.1, t2.2.2.2.2.1, t2.2.2.2.2.2.1, ()))
def q150_2 : List SP := pat 76 0 [(0, .box 0 [.r .u8, .int .i64, .int .i64]), (3, .one (.o 5002001 .device)), (4, .one (.r .str)), (7, .one (.r .str)), (36, .one (.r .str)), (37, .one (.int .i64)), (38, .one (.int .i64))]
noncomputable def s150_2 (f116 : T116) (f184 : T184) (f186 : T186) (f185 : T185) (f126 : T126) (f187 : T187) (t8 : CuD × List Device × List Str × List Str × List Str × Int × Int × Unit) (rec K : CuD × List Device × List Str × List Str × List Str × Int × Int × Unit → Option (CuD × List Device × Unit)) : Option (CuD × List Device × Unit) :=
  cond (decide (t8.2.2.2.2.2.2.1 < t8.2.2.2.2.2.1)) (rdL t8.2.2.2.2.1 t8.2.2.2.2.2.2.1 fun d9 => (f186 ((t8.1.1, t8.1.2.1, t8.1.2.2.1, ()), t8.2.2.1, ())).bind fun x10 => (f185 ((x10.1.1, x10.1.2.1, x10.1.2.2.1, ()), d9, x10.2.1, ())).bind fun x11 => (f184 (t8.2.1, x11.2.1, ())).bind fun x12 => rec ((x11.1.1, x11.1.2.1, x11.1.2.2.1, ()), x12.1, t8.2.2.1, t8.2.2.2.1, t8.2.2.2.2.1, t8.2.2.2.2.2.1, (w64 (t8.2.2.2.2.2.2.1 + 1)), ())) (K ((t8.1.1, t8.1.2.1, t8.1.2.2.1, ()), t8.2.1, t8.2.2.1, t8.2.2.2.1, t8.2.2.2.2.1, t8.2.2.2.2.2.1, t8.2.2.2.2.2.2.1, ()))
noncomputable def F150 (f116 : T116) (f184 : T184) (f186 : T186) (f185 : T185) (f126 : T126) (f187 : T187) (a : CuD × Unit) : Option (CuD × List Device × Unit) :=
  (f116 ((a.1.1, a.1.2.1, a.1.2.2.1, ()), 2, ())).bind fun x1 => okIf ((0 : Int) ≤ (w64 (1 + x1.2.1)) ∧ ((w64 (1 + x1.2.1)) : Int) ≤ List.length ([[112], [113]] : List Str)) (iterF (s150_0 f116 f184 f186 f185 f126 f187) fuel ((x1.1.1, x1.1.2.1, x1.1.2.2.1, ()), ([] : List Device), (List.drop 0 (List.take (Int.toNat (w64 (1 + x1.2.1))) ([[112], [113]] : List Str))), (List.drop 0 (List.take (Int.toNat (w64 (1 + x1.2.1))) ([[112], [113]] : List Str))), (Int.ofNat ((Int.toNat (w64 (1 + x1.2.1))) - 0)), 0, ()) fun t6 => (f116 ((t6.1.1, t6.1.2.1, t6.1.2.2.1, ()), 5, ())).bind fun x7 => okIf ((0 : Int) ≤ x7.2.1 ∧ (x7.2.1 : Int) ≤ List.length ([[97], [98], [99], [114]] : List Str)) (iterF (s150_2 f116 f184 f186 f185 f126 f187) fuel ((x7.1.1, x7.1.2.1, x7.1.2.2.1, ()), t6.2.1, t6.2.2.1, (List.drop 0 (List.take (Int.toNat x7.2.1) ([[97], [98], [99], [114]] : List Str))), (List.drop 0 (List.take (Int.toNat x7.2.1) ([[97], [98], [99], [114]] : List Str))), (Int.ofNat ((Int.toNat x7.2.1) - 0)), 0, ()) fun t13 => cond (decide ((Int.ofNat (List.length t13.2.2.2.1)) > 0)) ((f126 ((t13.1.1, t13.1.2.1, t13.1.2.2.1, ()), 2, ())).bind fun x14 => cond x14.2.1 ((f186 ((x14.1.1, x14.1.2.1, x14.1.2.2.1, ()), ([[108, 97, 109, 112], [122]] : List Str), ())).bind fun x15 => (f186 ((x15.1.1, x15.1.2.1, x15.1.2.2.1, ()), t13.2.2.2.1, ())).bind fun x16 => (f187 ((x16.1.1, x16.1.2.1, x16.1.2.2.1, ()), ())).bind fun x17 => (f184 (t13.2.1, (⟨x15.2.1, 3, x16.2.1, ⟨x17.2.1.X, x17.2.1.Y⟩, 0, 0, 0⟩ : Device), ())).bind fun x18 => some ((x17.1.1, x17.1.2.1, x17.1.2.2.1, ()), x18.1, ())) (some ((x14.1.1, x14.1.2.1, x14.1.2.2.1, ()), t13.2.1, ()))) (some ((t13.1.1, t13.1.2.1, t13.1.2.2.1, ()), t13.2.1, ()))))
def E150 (f116 : T116) (f184 : T184) (f186 : T186) (f185 : T185) (f126 : T126) (f187 : T187) : Env := envL [(116, N116 f116), (184, N184 f184), (186, N186 f186), (185, N185 f185), (126, N126 f126), (187, N187 f187)]
noncomputable def L150 (f116 : T116) (f184 : T184) (f186 : T186) (f185 : T185) (f126 : T126) (f187 : T187) : LEnv (densS (muts p150 ++ r150)) := lenv [(0, loopL (R := densS (muts p150 ++ r150)) q150_0 (s150_0 f116 f184 f186 f185 f126 f187)), (2, loopL (R := densS (muts p150 ++ r150)) q150_2 (s150_2 f116 f184 f186 f185 f126 f187))]
theorem e150_0 (f116 : T116) (f184 : T184) (f186 : T186) (f185 : T185) (f126 : T126) (f187 : T187) (X : Nat → St → Option (densS (muts p150 ++ r150))) (rec K : densS q150_0 → Option (densS (muts p150 ++ r150))) (t : densS q150_0) :
    ev (E150 f116 f184 f186 f185 f126 f187) tab (fun _ => false) (L150 f116 f184 f186 f185 f126 f187) (retK tab p150 r150 Proofs.Tryz.f150.results.toList) (loopC Proofs.Tryz.f150 0) (fun i s => cond (Nat.beq i 0) (decK 100 q150_0 s K) (X i s)) (fun s => decK 100 q150_0 s rec) (enc q150_0 t) = s150_0 f116 f184 f186 f185 f126 f187 t rec K := by kernel_rfl
theorem e150_2 (f116 : T116) (f184 : T184) (f186 : T186) (f185 : T185) (f126 : T126) (f187 : T187) (X : Nat → St → Option (densS (muts p150 ++ r150))) (rec K : densS q150_2 → Option (densS (muts p150 ++ r150))) (t : densS q150_2) :
    ev (E150 f116 f184 f186 f185 f126 f187) tab (fun _ => false) (L150 f116 f184 f186 f185 f126 f187) (retK tab p150 r150 Proofs.Tryz.f150.results.toList) (loopC Proofs.Tryz.f150 1) (fun i s => cond (Nat.beq i 2) (decK 100 q150_2 s K) (X i s)) (fun s => decK 100 q150_2 s rec) (enc q150_2 t) = s150_2 f116 f184 f186 f185 f126 f187 t rec K := by kernel_rfl
theorem e150 (f116 : T116) (f184 : T184) (f186 : T186) (f185 : T185) (f126 : T126) (f187 : T187) (a : densS p150) : runF (E150 f116 f184 f186 f185 f126 f187) tab (fun _ => false) p150 r150 Proofs.Tryz.f150 (L150 f116 f184 f186 f185 f126 f187) a = F150 f116 f184 f186 f185 f126 f187 a := by kernel_rfl
theorem ok150 {f116 : T116} {f184 : T184} {f186 : T186} {f185 : T185} {f126 : T126} {f187 : T187} (h116 : OK Proofs.Tryz.prog 116 (N116 f116)) (h184 : OK Proofs.Tryz.prog 184 (N184 f184)) (h186 : OK Proofs.Tryz.prog 186 (N186 f186)) (h185 : OK Proofs.Tryz.prog 185 (N185 f185)) (h126 : OK Proofs.Tryz.prog 126 (N126 f126)) (h187 : OK Proofs.Tryz.prog 187 (N187 f187)) : OK Proofs.Tryz.prog 150 (mkE p150 r150 true (F150 f116 f184 f186 f185 f126 f187)) :=
  fn_ok (E := E150 f116 f184 f186 f185 f126 f187) tab_ok (envL_ok (OKs.cons h116 (OKs.cons h184 (OKs.cons h186 (OKs.cons h185 (OKs.cons h126 (OKs.cons h187 OKs.nil))))))) mixed (ann := (fun _ => false)) (L := L150 f116 f184 f186 f185 f126 f187) (fn := Proofs.Tryz.f150) (c := bodyC Proofs.Tryz.f150) (ls := [(0, loopC Proofs.Tryz.f150 0), (2, loopC Proofs.Tryz.f150 1)]) Proofs.Tryz.func150 (by kernel_rfl) (by kernel_rfl) (by kernel_rfl) (by kernel_rfl)
    (LoopsP.cons q150_0 (s150_0 f116 f184 f186 f185 f126 f187) rfl (e150_0 f116 f184 f186 f185 f126 f187) (LoopsP.cons q150_2 (s150_2 f116 f184 f186 f185 f126 f187) rfl (e150_2 f116 f184 f186 f185 f126 f187) LoopsP.nil)) (e150 f116 f184 f186 f185 f126 f187)
/-! spec.l1Int -/
def p121 : List SP := [.box 0 [.r .u8, .int .i64, .int .i64], .one (.r .int)]
def r121 : List SP := [.one (.int .i64)]
abbrev T121 := CuD × List Int × Unit → Option (CuD × Int × Unit)
abbrev N121 (f : T121) : Entry := mkE p121 r121 true f
noncomputable def F121 (f116 : T116) (a : CuD × List Int × Unit) : Option (CuD × Int × Unit) :=
  (f116 ((a.1.1, a.1.2.1, a.1.2.2.1, ()), (Int.ofNat (List.length a.2.1)), ())).bind fun x1 => rdL a.2.1 x1.2.1 fun d2 => some ((x1.1.1, x1.1.2.1, x1.1.2.2.1, ()), d2, ())
def E121 (f116 : T116) : Env := envL [(116, N116 f116)]
noncomputable def L121 (f116 : T116) : LEnv (densS (muts p121 ++ r121)) := lenv []
theorem e121 (f116 : T116) (a : densS p121) : runF (E121 f116) tab (fun _ => false) p121 r121 Proofs.Tryz.f121 (L121 f116) a = F121 f116 a := by kernel_rfl
theorem ok121 {f116 : T116} (h116 : OK Proofs.Tryz.prog 116 (N116 f116)) : OK Proofs.Tryz.prog 121 (mkE p121 r121 true (F121 f116)) :=
  fn_ok (E := E121 f116) tab_ok (envL_ok (OKs.cons h116 OKs.nil)) mixed (ann := (fun _ => false)) (L := L121 f116) (fn := Proofs.Tryz.f121) (c := bodyC Proofs.Tryz.f121) (ls := []) Proofs.Tryz.func121 (by kernel_rfl) (by kernel_rfl) (by kernel_rfl) (by kernel_rfl)
    LoopsP.nil (e121 f116)
/-! spec.l4DriftDraw -/
def p124 : List SP := [.box 0 [.r .u8, .int .i64, .int .i64]]
def r124 : List SP := [.t .place]
abbrev T124 := CuD × Unit → Option (CuD × Place × Unit)
abbrev N124 (f : T124) : Entry := mkE p124 r124 true f
noncomputable def F124 (f159 : T159) (a : CuD × Unit) : Option (CuD × Place × Unit) :=
  (f159 ((a.1.1, a.1.2.1, a.1.2.2.1, ()), (-3), 3, ())).bind fun x1 => (f159 ((x1.1.1, x1.1.2.1, x1.1.2.2.1, ()), (-3), 3, ())).bind fun x2 => some ((x2.1.1, x2.1.2.1, x2.1.2.2.1, ()), (⟨x1.2.1, x2.2.1⟩ : Place), ())
def E124 (f159 : T159) : Env := envL [(159, N159 f159)]
noncomputable def L124 (f159 : T159) : LEnv (densS (muts p124 ++ r124)) := lenv []
theorem e124 (f159 : T159) (a : densS p124) : runF (E124 f159) tab (fun _ => false) p124 r124 Proofs.Tryz.f124 (L124 f159) a = F124 f159 a := by kernel_rfl
theorem ok124 {f159 : T159} (h159 : OK Proofs.Tryz.prog 159 (N159 f159)) : OK Proofs.Tryz.prog 124 (mkE p124 r124 true (F124 f159)) :=
  fn_ok (E := E124 f159) tab_ok (envL_ok (OKs.cons h159 OKs.nil)) mixed (ann := (fun _ => false)) (L := L124 f159) (fn := Proofs.Tryz.f124) (c := bodyC Proofs.Tryz.f124) (ls := []) Proofs.Tryz.func124 (by kernel_rfl) (by kernel_rfl) (by kernel_rfl) (by kernel_rfl)
    LoopsP.nil (e124 f159)
/-! spec.l4Draw -/
def p151 : List SP := [.box 0 [.r .u8, .int .i64, .int .i64]]
def r151 : List SP := [.one (.o 1 .gust)]
abbrev T151 := CuD × Unit → Option (CuD × List Gust × Unit)
abbrev N151 (f : T151) : Entry := mkE p151 r151 true f
def q151_0 : List SP := pat 29 0 [(0, .box 0 [.r .u8, .int .i64, .int .i64]), (3, .one (.o 5000001 .gust)), (4, .one (.int .i64)), (5, .one (.int .i64))]
noncomputable def s151_0 (f121 : T121) (f116 : T116) (f124 : T124) (t3 : CuD × List Gust × Int × Int × Unit) (rec K : CuD × List Gust × Int × Int × Unit → Option (CuD × List Gust × Unit)) : Option (CuD × List Gust × Unit) :=
  cond (decide (t3.2.2.2.1 > 0)) ((f124 ((t3.1.1, t3.1.2.1, t3.1.2.2.1, ()), ())).bind fun x4 => capK (List.length t3.2.1 + List.length ([(⟨t3.2.2.1, ⟨x4.2.1.X, x4.2.1.Y⟩⟩ : Gust)] : List Gust)) ((f116 ((x4.1.1, x4.1.2.1, x4.1.2.2.1, ()), 9, ())).bind fun x5 => rec ((x5.1.1, x5.1.2.1, x5.1.2.2.1, ()), (t3.2.1 ++ ([(⟨t3.2.2.1, ⟨x4.2.1.X, x4.2.1.Y⟩⟩ : Gust)] : List Gust)), (w64 ((w64 (t3.2.2.1 + 1)) + x5.2.1)), (w64 (t3.2.2.2.1 - 1)), ()))) (K ((t3.1.1, t3.1.2.1, t3.1.2.2.1, ()), t3.2.1, t3.2.2.1, t3.2.2.2.1, ()))
noncomputable def F151 (f121 : T121) (f116 : T116) (f124 : T124) (a : CuD × Unit) : Option (CuD × List Gust × Unit) :=
  (f121 ((a.1.1, a.1.2.1, a.1.2.2.1, ()), ([0, 0, 1, 5] : List Int), ())).bind fun x1 => (f116 ((x1.1.1, x1.1.2.1, x1.1.2.2.1, ()), 6, ())).bind fun x2 => iterF (s151_0 f121 f116 f124) fuel ((x2.1.1, x2.1.2.1, x2.1.2.2.1, ()), ([] : List Gust), x1.2.1, x2.2.1, ()) fun t6 => some ((t6.1.1, t6.1.2.1, t6.1.2.2.1, ()), t6.2.1, ())
def E151 (f121 : T121) (f116 : T116) (f124 : T124) : Env := envL [(121, N121 f121), (116, N116 f116), (124, N124 f124)]
noncomputable def L151 (f121 : T121) (f116 : T116) (f124 : T124) : LEnv (densS (muts p151 ++ r151)) := lenv [(0, loopL (R := densS (muts p151 ++ r151)) q151_0 (s151_0 f121 f116 f124))]
theorem e151_0 (f121 : T121) (f116 : T116) (f124 : T124) (X : Nat → St → Option (densS (muts p151 ++ r151))) (rec K : densS q151_0 → Option (densS (muts p151 ++ r151))) (t : densS q151_0) :
    ev (E151 f121 f116 f124) tab (fun _ => false) (L151 f121 f116 f124) (retK tab p151 r151 Proofs.Tryz.f151.results.toList) (loopC Proofs.Tryz.f151 0) (fun i s => cond (Nat.beq i 0) (decK 100 q151_0 s K) (X i s)) (fun s => decK 100 q151_0 s rec) (enc q151_0 t) = s151_0 f121 f116 f124 t rec K := by kernel_rfl
theorem e151 (f121 : T121) (f116 : T116) (f124 : T124) (a : densS p151) : runF (E151 f121 f116 f124) tab (fun _ => false) p151 r151 Proofs.Tryz.f151 (L151 f121 f116 f124) a = F151 f121 f116 f124 a := by kernel_rfl
theorem ok151 {f121 : T121} {f116 : T116} {f124 : T124} (h121 : OK Proofs.Tryz.prog 121 (N121 f121)) (h116 : OK Proofs.Tryz.prog 116 (N116 f116)) (h124 : OK Proofs.Tryz.prog 124 (N124 f124)) : OK Proofs.Tryz.prog 151 (mkE p151 r151 true (F151 f121 f116 f124)) :=
  fn_ok (E := E151 f121 f116 f124) tab_ok (envL_ok (OKs.cons h121 (OKs.cons h116 (OKs.cons h124 OKs.nil)))) mixed (ann := (fun _ => false)) (L := L151 f121 f116 f124) (fn := Proofs.Tryz.f151) (c := bodyC Proofs.Tryz.f151) (ls := [(0, loopC Proofs.Tryz.f151 0)]) Proofs.Tryz.func151 (by kernel_rfl) (by kernel_rfl) (by kernel_rfl) (by kernel_rfl)
    (LoopsP.cons q151_0 (s151_0 f121 f116 f124) rfl (e151_0 f121 f116 f124) LoopsP.nil) (e151 f121 f116 f124)
/-! spec.l7Name -/
def p188 : List SP := [.box 0 [.r .u8, .int .i64, .int .i64]]
def r188 : List SP := [.one (.str)]
abbrev T188 := CuD × Unit → Option (CuD × Str × Unit)
abbrev N188 (f : T188) : Entry := mkE p188 r188 true f
noncomputable def F188 (f186 : T186) (a : CuD × Unit) : Option (CuD × Str × Unit) :=
  (f186 ((a.1.1, a.1.2.1, a.1.2.2.1, ()), ([[97], [97], [98], [99], [114], [110, 111]] : List Str), ())).bind fun x1 => some ((x1.1.1, x1.1.2.1, x1.1.2.2.1, ()), x1.2.1, ())
def E188 (f186 : T186) : Env := envL [(186, N186 f186)]
noncomputable def L188 (f186 : T186) : LEnv (densS (muts p188 ++ r188)) := lenv []
theorem e188 (f186 : T186) (a : densS p188) : runF (E188 f186) tab (fun _ => false) p188 r188 Proofs.Tryz.f188 (L188 f186) a = F188 f186 a := by kernel_rfl
theorem ok188 {f186 : T186} (h186 : OK Proofs.Tryz.prog 186 (N186 f186)) : OK Proofs.Tryz.prog 188 (mkE p188 r188 true (F188 f186)) :=
  fn_ok (E := E188 f186) tab_ok (envL_ok (OKs.cons h186 OKs.nil)) mixed (ann := (fun _ => false)) (L := L188 f186) (fn := Proofs.Tryz.f188) (c := bodyC Proofs.Tryz.f188) (ls := []) Proofs.Tryz.func188 (by kernel_rfl) (by kernel_rfl) (by kernel_rfl) (by kernel_rfl)
    LoopsP.nil (e188 f186)
/-! spec.l7Cue -/
def p152 : List SP := [.box 0 [.r .u8, .int .i64, .int .i64]]
def r152 : List SP := [.t .cue]
abbrev T152 := CuD × Unit → Option (CuD × Cue × Unit)
abbrev N152 (f : T152) : Entry := mkE p152 r152 true f
noncomputable def F152 (f116 : T116) (f188 : T188) (f121 : T121) (a : CuD × Unit) : Option (CuD × Cue × Unit) :=
  (f116 ((a.1.1, a.1.2.1, a.1.2.2.1, ()), 14, ())).bind fun x1 => (f188 ((x1.1.1, x1.1.2.1, x1.1.2.2.1, ()), ())).bind fun x2 => (f116 ((x2.1.1, x2.1.2.1, x2.1.2.2.1, ()), 33, ())).bind fun x3 => (f121 ((x3.1.1, x3.1.2.1, x3.1.2.2.1, ()), ([0, 0, 1, 2, 3, 5, 8, 16] : List Int), ())).bind fun x4 => some ((x4.1.1, x4.1.2.1, x4.1.2.2.1, ()), (⟨x1.2.1, x2.2.1, x3.2.1, x4.2.1⟩ : Cue), ())
def E152 (f116 : T116) (f188 : T188) (f121 : T121) : Env := envL [(116, N116 f116), (188, N188 f188), (121, N121 f121)]
noncomputable def L152 (f116 : T116) (f188 : T188) (f121 : T121) : LEnv (densS (muts p152 ++ r152)) := lenv []
theorem e152 (f116 : T116) (f188 : T188) (f121 : T121) (a : densS p152) : runF (E152 f116 f188 f121) tab (fun _ => false) p152 r152 Proofs.Tryz.f152 (L152 f116 f188 f121) a = F152 f116 f188 f121 a := by kernel_rfl
theorem ok152 {f116 : T116} {f188 : T188} {f121 : T121} (h116 : OK Proofs.Tryz.prog 116 (N116 f116)) (h188 : OK Proofs.Tryz.prog 188 (N188 f188)) (h121 : OK Proofs.Tryz.prog 121 (N121 f121)) : OK Proofs.Tryz.prog 152 (mkE p152 r152 true (F152 f116 f188 f121)) :=
  fn_ok (E := E152 f116 f188 f121) tab_ok (envL_ok (OKs.cons h116 (OKs.cons h188 (OKs.cons h121 OKs.nil)))) mixed (ann := (fun _ => false)) (L := L152 f116 f188 f121) (fn := Proofs.Tryz.f152) (c := bodyC Proofs.Tryz.f152) (ls := []) Proofs.Tryz.func152 (by kernel_rfl) (by kernel_rfl) (by kernel_rfl) (by kernel_rfl)
    LoopsP.nil (e152 f116 f188 f121)
/-! spec.CompareCues -/
def p95 : List SP := [.t .cue, .t .cue]
def r95 : List SP := [.one (.int .i64)]
abbrev T95 := Cue × Cue × Unit → Option (Int × Unit)
abbrev N95 (f : T95) : Entry := mkE p95 r95 false f
noncomputable def F95 (a : Cue × Cue × Unit) : Option (Int × Unit) :=
  cond (decide (a.1.Tick < a.2.1.Tick)) (cond (decide (a.1.Tick < a.2.1.Tick)) (some ((-1), ())) (cond (decide (a.1.Tick = a.2.1.Tick)) (cond (decide (a.1.Name = a.2.1.Name)) (some (0, ())) (some (1, ()))) (some (1, ())))) (cond (decide (a.1.Tick = a.2.1.Tick)) (cond (Op.bytesLess a.1.Name a.2.1.Name) (some ((-1), ())) (cond (decide (a.1.Tick = a.2.1.Tick)) (cond (decide (a.1.Name = a.2.1.Name)) (some (0, ())) (some (1, ()))) (some (1, ())))) (cond (decide (a.1.Tick = a.2.1.Tick)) (cond (decide (a.1.Name = a.2.1.Name)) (some (0, ())) (some (1, ()))) (some (1, ()))))
def E95 : Env := envL []
noncomputable def L95 : LEnv (densS (muts p95 ++ r95)) := lenv []
theorem e95 (a : densS p95) : runF (E95) tab (fun _ => false) p95 r95 Proofs.Tryz.f95 (L95) a = F95 a := by kernel_rfl
theorem ok95 : OK Proofs.Tryz.prog 95 (mkE p95 r95 false (F95)) :=
  fn_ok (E := E95) tab_ok (envL_ok OKs.nil) mixed (ann := (fun _ => false)) (L := L95) (fn := Proofs.Tryz.f95) (c := bodyC Proofs.Tryz.f95) (ls := []) Proofs.Tryz.func95 (by kernel_rfl) (by kernel_rfl) (by kernel_rfl) (by kernel_rfl)
    LoopsP.nil (e95)
/-! spec.l7Copies -/
def p190 : List SP := [.one (.r .cue)]
def r190 : List SP := [.one (.o 0 .cue)]
abbrev T190 := List Cue × Unit → Option (List Cue × Unit)
abbrev N190 (f : T190) : Entry := mkE p190 r190 false f
noncomputable def F190 (a : List Cue × Unit) : Option (List Cue × Unit) :=
  capK (List.length ([] : List Cue) + List.length a.1) (some ((([] : List Cue) ++ a.1), ()))
def E190 : Env := envL []
noncomputable def L190 : LEnv (densS (muts p190 ++ r190)) := lenv []
theorem e190 (a : densS p190) : runF (E190) tab (fun _ => false) p190 r190 Proofs.Tryz.f190 (L190) a = F190 a := by kernel_rfl
theorem ok190 : OK Proofs.Tryz.prog 190 (mkE p190 r190 false (F190)) :=
  fn_ok (E := E190) tab_ok (envL_ok OKs.nil) mixed (ann := (fun _ => false)) (L := L190) (fn := Proofs.Tryz.f190) (c := bodyC Proofs.Tryz.f190) (ls := []) Proofs.Tryz.func190 (by kernel_rfl) (by kernel_rfl) (by kernel_rfl) (by kernel_rfl)
    LoopsP.nil (e190)
/-! spec.l7Put -/
def p189 : List SP := [.one (.r .cue), .t .cue]
def r189 : List SP := [.one (.o 0 .cue), .one (.bool)]
abbrev T189 := List Cue × Cue × Unit → Option (List Cue × Bool × Unit)
abbrev N189 (f : T189) : Entry := mkE p189 r189 false f
def q189_0 : List SP := pat 50 0 [(0, .one (.r .cue)), (3, .boxt 5000001 .cue), (6, .one (.int .i64))]
noncomputable def s189_0 (f95 : T95) (f190 : T190) (t1 : List Cue × Cue × Int × Unit) (rec K : List Cue × Cue × Int × Unit → Option (List Cue × Bool × Unit)) : Option (List Cue × Bool × Unit) :=
  cond (decide (t1.2.2.1 < (Int.ofNat (List.length t1.1)))) (rdL t1.1 t1.2.2.1 fun d2 => (f95 (d2, t1.2.1, ())).bind fun x3 => cond (decide (x3.1 < 0)) (rec (t1.1, t1.2.1, (w64 (t1.2.2.1 + 1)), ())) (K (t1.1, t1.2.1, t1.2.2.1, ()))) (K (t1.1, t1.2.1, t1.2.2.1, ()))
noncomputable def F189 (f95 : T95) (f190 : T190) (a : List Cue × Cue × Unit) : Option (List Cue × Bool × Unit) :=
  iterF (s189_0 f95 f190) fuel (a.1, a.2.1, 0, ()) fun t4 => cond (decide (t4.2.2.1 < (Int.ofNat (List.length t4.1)))) (rdL t4.1 t4.2.2.1 fun d5 => (f95 (d5, t4.2.1, ())).bind fun x6 => cond (decide (x6.1 = 0)) ((f190 (t4.1, ())).bind fun x7 => some (x7.1, false, ())) (okIf ((0 : Int) ≤ t4.2.2.1 ∧ (t4.2.2.1 : Int) ≤ List.length t4.1) ((f190 ((List.take (Int.toNat t4.2.2.1) t4.1), ())).bind fun x8 => capK (List.length x8.1 + List.length ([t4.2.1] : List Cue)) (okIf ((0 : Int) ≤ t4.2.2.1 ∧ (t4.2.2.1 : Int) ≤ List.length t4.1) (capK (List.length (x8.1 ++ ([t4.2.1] : List Cue)) + List.length (List.drop (Int.toNat t4.2.2.1) t4.1)) (some (((x8.1 ++ ([t4.2.1] : List Cue)) ++ (List.drop (Int.toNat t4.2.2.1) t4.1)), true, ()))))))) (okIf ((0 : Int) ≤ t4.2.2.1 ∧ (t4.2.2.1 : Int) ≤ List.length t4.1) ((f190 ((List.take (Int.toNat t4.2.2.1) t4.1), ())).bind fun x9 => capK (List.length x9.1 + List.length ([t4.2.1] : List Cue)) (okIf ((0 : Int) ≤ t4.2.2.1 ∧ (t4.2.2.1 : Int) ≤ List.length t4.1) (capK (List.length (x9.1 ++ ([t4.2.1] : List Cue)) + List.length (List.drop (Int.toNat t4.2.2.1) t4.1)) (some (((x9.1 ++ ([t4.2.1] : List Cue)) ++ (List.drop (Int.toNat t4.2.2.1) t4.1)), true, ()))))))
def E189 (f95 : T95) (f190 : T190) : Env := envL [(95, N95 f95), (190, N190 f190)]
noncomputable def L189 (f95 : T95) (f190 : T190) : LEnv (densS (muts p189 ++ r189)) := lenv [(0, loopL (R := densS (muts p189 ++ r189)) q189_0 (s189_0 f95 f190))]
theorem e189_0 (f95 : T95) (f190 : T190) (X : Nat → St → Option (densS (muts p189 ++ r189))) (rec K : densS q189_0 → Option (densS (muts p189 ++ r189))) (t : densS q189_0) :
    ev (E189 f95 f190) tab (fun _ => false) (L189 f95 f190) (retK tab p189 r189 Proofs.Tryz.f189.results.toList) (loopC Proofs.Tryz.f189 0) (fun i s => cond (Nat.beq i 0) (decK 100 q189_0 s K) (X i s)) (fun s => decK 100 q189_0 s rec) (enc q189_0 t) = s189_0 f95 f190 t rec K := by kernel_rfl
theorem e189 (f95 : T95) (f190 : T190) (a : densS p189) : runF (E189 f95 f190) tab (fun _ => false) p189 r189 Proofs.Tryz.f189 (L189 f95 f190) a = F189 f95 f190 a := by kernel_rfl
theorem ok189 {f95 : T95} {f190 : T190} (h95 : OK Proofs.Tryz.prog 95 (N95 f95)) (h190 : OK Proofs.Tryz.prog 190 (N190 f190)) : OK Proofs.Tryz.prog 189 (mkE p189 r189 false (F189 f95 f190)) :=
  fn_ok (E := E189 f95 f190) tab_ok (envL_ok (OKs.cons h95 (OKs.cons h190 OKs.nil))) mixed (ann := (fun _ => false)) (L := L189 f95 f190) (fn := Proofs.Tryz.f189) (c := bodyC Proofs.Tryz.f189) (ls := [(0, loopC Proofs.Tryz.f189 0)]) Proofs.Tryz.func189 (by kernel_rfl) (by kernel_rfl) (by kernel_rfl) (by kernel_rfl)
    (LoopsP.cons q189_0 (s189_0 f95 f190) rfl (e189_0 f95 f190) LoopsP.nil) (e189 f95 f190)
/-! spec.IsCue -/
def p94 : List SP := [.t .cue]
def r94 : List SP := [.one (.bool)]
abbrev T94 := Cue × Unit → Option (Bool × Unit)
abbrev N94 (f : T94) : Entry := mkE p94 r94 false f
noncomputable def F94 (f54 : T54) (f129 : T129) (a : Cue × Unit) : Option (Bool × Unit) :=
  (f54 (a.1.Tick, 0, 64, ())).bind fun x1 => cond x1.1 ((f129 (a.1.Name, ())).bind fun x2 => cond x2.1 ((f54 (a.1.Level, 0, 32, ())).bind fun x3 => cond x3.1 ((f54 (a.1.Ramp, 0, 16, ())).bind fun x4 => some (x4.1, ())) (some (false, ()))) (some (false, ()))) (some (false, ()))
def E94 (f54 : T54) (f129 : T129) : Env := envL [(54, N54 f54), (129, N129 f129)]
noncomputable def L94 (f54 : T54) (f129 : T129) : LEnv (densS (muts p94 ++ r94)) := lenv []
theorem e94 (f54 : T54) (f129 : T129) (a : densS p94) : runF (E94 f54 f129) tab (fun _ => false) p94 r94 Proofs.Tryz.f94 (L94 f54 f129) a = F94 f54 f129 a := by kernel_rfl
theorem ok94 {f54 : T54} {f129 : T129} (h54 : OK Proofs.Tryz.prog 54 (N54 f54)) (h129 : OK Proofs.Tryz.prog 129 (N129 f129)) : OK Proofs.Tryz.prog 94 (mkE p94 r94 false (F94 f54 f129)) :=
  fn_ok (E := E94 f54 f129) tab_ok (envL_ok (OKs.cons h54 (OKs.cons h129 OKs.nil))) mixed (ann := (fun _ => false)) (L := L94 f54 f129) (fn := Proofs.Tryz.f94) (c := bodyC Proofs.Tryz.f94) (ls := []) Proofs.Tryz.func94 (by kernel_rfl) (by kernel_rfl) (by kernel_rfl) (by kernel_rfl)
    LoopsP.nil (e94 f54 f129)
/-! spec.IsScore -/
def p52 : List SP := [.one (.r .cue)]
def r52 : List SP := [.one (.bool)]
abbrev T52 := List Cue × Unit → Option (Bool × Unit)
abbrev N52 (f : T52) : Entry := mkE p52 r52 false f
def q52_0 : List SP := pat 33 0 [(0, .one (.r .cue)), (5, .one (.r .cue)), (6, .one (.int .i64)), (7, .one (.int .i64))]
noncomputable def s52_0 (f94 : T94) (f95 : T95) (t1 : List Cue × List Cue × Int × Int × Unit) (rec K : List Cue × List Cue × Int × Int × Unit → Option (Bool × Unit)) : Option (Bool × Unit) :=
  cond (decide (t1.2.2.2.1 < t1.2.2.1)) (rdL t1.2.1 t1.2.2.2.1 fun d2 => (f94 (d2, ())).bind fun x3 => cond (!(!x3.1)) (cond (decide (t1.2.2.2.1 > 0)) (rdL t1.1 (w64 (t1.2.2.2.1 - 1)) fun d4 => (f95 (d4, d2, ())).bind fun x5 => cond (decide (x5.1 ≥ 0)) (some (false, ())) (rec (t1.1, t1.2.1, t1.2.2.1, (w64 (t1.2.2.2.1 + 1)), ()))) (rec (t1.1, t1.2.1, t1.2.2.1, (w64 (t1.2.2.2.1 + 1)), ()))) (some (false, ()))) (K (t1.1, t1.2.1, t1.2.2.1, t1.2.2.2.1, ()))
noncomputable def F52 (f94 : T94) (f95 : T95) (a : List Cue × Unit) : Option (Bool × Unit) :=
  iterF (s52_0 f94 f95) fuel (a.1, a.1, (Int.ofNat (List.length a.1)), 0, ()) fun t6 => some ((decide ((Int.ofNat (List.length t6.1)) ≤ 12)), ())
def E52 (f94 : T94) (f95 : T95) : Env := envL [(94, N94 f94), (95, N95 f95)]
noncomputable def L52 (f94 : T94) (f95 : T95) : LEnv (densS (muts p52 ++ r52)) := lenv [(0, loopL (R := densS (muts p52 ++ r52)) q52_0 (s52_0 f94 f95))]
theorem e52_0 (f94 : T94) (f95 : T95) (X : Nat → St → Option (densS (muts p52 ++ r52))) (rec K : densS q52_0 → Option (densS (muts p52 ++ r52))) (t : densS q52_0) :
    ev (E52 f94 f95) tab (fun _ => false) (L52 f94 f95) (retK tab p52 r52 Proofs.Tryz.f52.results.toList) (loopC Proofs.Tryz.f52 0) (fun i s => cond (Nat.beq i 0) (decK 100 q52_0 s K) (X i s)) (fun s => decK 100 q52_0 s rec) (enc q52_0 t) = s52_0 f94 f95 t rec K := by kernel_rfl
theorem e52 (f94 : T94) (f95 : T95) (a : densS p52) : runF (E52 f94 f95) tab (fun _ => false) p52 r52 Proofs.Tryz.f52 (L52 f94 f95) a = F52 f94 f95 a := by kernel_rfl
theorem ok52 {f94 : T94} {f95 : T95} (h94 : OK Proofs.Tryz.prog 94 (N94 f94)) (h95 : OK Proofs.Tryz.prog 95 (N95 f95)) : OK Proofs.Tryz.prog 52 (mkE p52 r52 false (F52 f94 f95)) :=
  fn_ok (E := E52 f94 f95) tab_ok (envL_ok (OKs.cons h94 (OKs.cons h95 OKs.nil))) mixed (ann := (fun _ => false)) (L := L52 f94 f95) (fn := Proofs.Tryz.f52) (c := bodyC Proofs.Tryz.f52) (ls := [(0, loopC Proofs.Tryz.f52 0)]) Proofs.Tryz.func52 (by kernel_rfl) (by kernel_rfl) (by kernel_rfl) (by kernel_rfl)
    (LoopsP.cons q52_0 (s52_0 f94 f95) rfl (e52_0 f94 f95) LoopsP.nil) (e52 f94 f95)
/-! spec.AddCue -/
def p153 : List SP := [.one (.r .cue), .t .cue]
def r153 : List SP := [.one (.o 0 .cue), .one (.bool)]
abbrev T153 := List Cue × Cue × Unit → Option (List Cue × Bool × Unit)
abbrev N153 (f : T153) : Entry := mkE p153 r153 false f
noncomputable def F153 (f189 : T189) (f52 : T52) (f94 : T94) (f190 : T190) (a : List Cue × Cue × Unit) : Option (List Cue × Bool × Unit) :=
  (f189 (a.1, a.2.1, ())).bind fun x1 => (f52 (a.1, ())).bind fun x2 => cond (!(!x2.1)) ((f94 (a.2.1, ())).bind fun x3 => cond (!(!x3.1)) (cond (!(!x1.2.1)) (cond (decide ((Int.ofNat (List.length a.1)) = 12)) ((f190 (a.1, ())).bind fun x4 => some (x4.1, false, ())) (some (x1.1, true, ()))) ((f190 (a.1, ())).bind fun x5 => some (x5.1, false, ()))) ((f190 (a.1, ())).bind fun x6 => some (x6.1, false, ()))) ((f190 (a.1, ())).bind fun x7 => some (x7.1, false, ()))
def E153 (f189 : T189) (f52 : T52) (f94 : T94) (f190 : T190) : Env := envL [(189, N189 f189), (52, N52 f52), (94, N94 f94), (190, N190 f190)]
noncomputable def L153 (f189 : T189) (f52 : T52) (f94 : T94) (f190 : T190) : LEnv (densS (muts p153 ++ r153)) := lenv []
theorem e153 (f189 : T189) (f52 : T52) (f94 : T94) (f190 : T190) (a : densS p153) : runF (E153 f189 f52 f94 f190) tab (fun _ => false) p153 r153 Proofs.Tryz.f153 (L153 f189 f52 f94 f190) a = F153 f189 f52 f94 f190 a := by kernel_rfl
theorem ok153 {f189 : T189} {f52 : T52} {f94 : T94} {f190 : T190} (h189 : OK Proofs.Tryz.prog 189 (N189 f189)) (h52 : OK Proofs.Tryz.prog 52 (N52 f52)) (h94 : OK Proofs.Tryz.prog 94 (N94 f94)) (h190 : OK Proofs.Tryz.prog 190 (N190 f190)) : OK Proofs.Tryz.prog 153 (mkE p153 r153 false (F153 f189 f52 f94 f190)) :=
  fn_ok (E := E153 f189 f52 f94 f190) tab_ok (envL_ok (OKs.cons h189 (OKs.cons h52 (OKs.cons h94 (OKs.cons h190 OKs.nil))))) mixed (ann := (fun _ => false)) (L := L153 f189 f52 f94 f190) (fn := Proofs.Tryz.f153) (c := bodyC Proofs.Tryz.f153) (ls := []) Proofs.Tryz.func153 (by kernel_rfl) (by kernel_rfl) (by kernel_rfl) (by kernel_rfl)
    LoopsP.nil (e153 f189 f52 f94 f190)
/-! spec.l9Draw -/
def p115 : List SP := [.box 0 [.r .u8, .int .i64, .int .i64]]
def r115 : List SP := [.agg [.o 1 .device, .o 2 .cue, .o 3 .gust, .int .i64]]
abbrev T115 := CuD × Unit → Option (CuD × ShD × Unit)
abbrev N115 (f : T115) : Entry := mkE p115 r115 true f
def q115_0 : List SP := pat 33 0 [(0, .box 0 [.r .u8, .int .i64, .int .i64]), (2, .box 5000001 [.o 5000002 .device, .o 5000003 .cue, .o 5000004 .gust, .int .i64]), (3, .box 5000005 [.o 5000006 .device, .o 5000007 .cue, .o 5000008 .gust, .int .i64]), (4, .one (.int .i64))]
noncomputable def s115_0 (f150 : T150) (f151 : T151) (f116 : T116) (f152 : T152) (f153 : T153) (t5 : CuD × ShD × ShD × Int × Unit) (rec K : CuD × ShD × ShD × Int × Unit → Option (CuD × ShD × Unit)) : Option (CuD × ShD × Unit) :=
  cond (decide (t5.2.2.2.1 > 0)) ((f152 ((t5.1.1, t5.1.2.1, t5.1.2.2.1, ()), ())).bind fun x6 => (f116 ((x6.1.1, x6.1.2.1, x6.1.2.2.1, ()), 8, ())).bind fun x7 => (f153 (t5.2.2.1.2.1, (⟨x7.2.1, x6.2.1.Name, x6.2.1.Level, x6.2.1.Ramp⟩ : Cue), ())).bind fun x8 => rec ((x7.1.1, x7.1.2.1, x7.1.2.2.1, ()), (t5.2.1.1, t5.2.1.2.1, t5.2.1.2.2.1, t5.2.1.2.2.2.1, ()), (t5.2.2.1.1, x8.1, t5.2.2.1.2.2.1, t5.2.2.1.2.2.2.1, ()), (w64 (t5.2.2.2.1 - 1)), ())) (K ((t5.1.1, t5.1.2.1, t5.1.2.2.1, ()), (t5.2.1.1, t5.2.1.2.1, t5.2.1.2.2.1, t5.2.1.2.2.2.1, ()), (t5.2.2.1.1, t5.2.2.1.2.1, t5.2.2.1.2.2.1, t5.2.2.1.2.2.2.1, ()), t5.2.2.2.1, ()))
noncomputable def F115 (f150 : T150) (f151 : T151) (f116 : T116) (f152 : T152) (f153 : T153) (a : CuD × Unit) : Option (CuD × ShD × Unit) :=
  (f150 ((a.1.1, a.1.2.1, a.1.2.2.1, ()), ())).bind fun x1 => (f151 ((x1.1.1, x1.1.2.1, x1.1.2.2.1, ()), ())).bind fun x2 => (f116 ((x2.1.1, x2.1.2.1, x2.1.2.2.1, ()), 14, ())).bind fun x3 => (f116 ((x3.1.1, x3.1.2.1, x3.1.2.2.1, ()), 6, ())).bind fun x4 => iterF (s115_0 f150 f151 f116 f152 f153) fuel ((x4.1.1, x4.1.2.1, x4.1.2.2.1, ()), ([], [], [], 0, ()), (x1.2.1, [], x2.2.1, x3.2.1, ()), x4.2.1, ()) fun t9 => some ((t9.1.1, t9.1.2.1, t9.1.2.2.1, ()), (t9.2.2.1.1, t9.2.2.1.2.1, t9.2.2.1.2.2.1, t9.2.2.1.2.2.2.1, ()), ())
def E115 (f150 : T150) (f151 : T151) (f116 : T116) (f152 : T152) (f153 : T153) : Env := envL [(150, N150 f150), (151, N151 f151), (116, N116 f116), (152, N152 f152), (153, N153 f153)]
noncomputable def L115 (f150 : T150) (f151 : T151) (f116 : T116) (f152 : T152) (f153 : T153) : LEnv (densS (muts p115 ++ r115)) := lenv [(0, loopL (R := densS (muts p115 ++ r115)) q115_0 (s115_0 f150 f151 f116 f152 f153))]
theorem e115_0 (f150 : T150) (f151 : T151) (f116 : T116) (f152 : T152) (f153 : T153) (X : Nat → St → Option (densS (muts p115 ++ r115))) (rec K : densS q115_0 → Option (densS (muts p115 ++ r115))) (t : densS q115_0) :
    ev (E115 f150 f151 f116 f152 f153) tab (fun _ => false) (L115 f150 f151 f116 f152 f153) (retK tab p115 r115 Proofs.Tryz.f115.results.toList) (loopC Proofs.Tryz.f115 0) (fun i s => cond (Nat.beq i 0) (decK 100 q115_0 s K) (X i s)) (fun s => decK 100 q115_0 s rec) (enc q115_0 t) = s115_0 f150 f151 f116 f152 f153 t rec K := by kernel_rfl
theorem e115 (f150 : T150) (f151 : T151) (f116 : T116) (f152 : T152) (f153 : T153) (a : densS p115) : runF (E115 f150 f151 f116 f152 f153) tab (fun _ => false) p115 r115 Proofs.Tryz.f115 (L115 f150 f151 f116 f152 f153) a = F115 f150 f151 f116 f152 f153 a := by kernel_rfl
theorem ok115 {f150 : T150} {f151 : T151} {f116 : T116} {f152 : T152} {f153 : T153} (h150 : OK Proofs.Tryz.prog 150 (N150 f150)) (h151 : OK Proofs.Tryz.prog 151 (N151 f151)) (h116 : OK Proofs.Tryz.prog 116 (N116 f116)) (h152 : OK Proofs.Tryz.prog 152 (N152 f152)) (h153 : OK Proofs.Tryz.prog 153 (N153 f153)) : OK Proofs.Tryz.prog 115 (mkE p115 r115 true (F115 f150 f151 f116 f152 f153)) :=
  fn_ok (E := E115 f150 f151 f116 f152 f153) tab_ok (envL_ok (OKs.cons h150 (OKs.cons h151 (OKs.cons h116 (OKs.cons h152 (OKs.cons h153 OKs.nil)))))) mixed (ann := (fun _ => false)) (L := L115 f150 f151 f116 f152 f153) (fn := Proofs.Tryz.f115) (c := bodyC Proofs.Tryz.f115) (ls := [(0, loopC Proofs.Tryz.f115 0)]) Proofs.Tryz.func115 (by kernel_rfl) (by kernel_rfl) (by kernel_rfl) (by kernel_rfl)
    (LoopsP.cons q115_0 (s115_0 f150 f151 f116 f152 f153) rfl (e115_0 f150 f151 f116 f152 f153) LoopsP.nil) (e115 f150 f151 f116 f152 f153)
/-! spec.l1Odd -/
def p117 : List SP := [.box 0 [.r .u8, .int .i64, .int .i64]]
def r117 : List SP := [.one (.int .i64)]
abbrev T117 := CuD × Unit → Option (CuD × Int × Unit)
abbrev N117 (f : T117) : Entry := mkE p117 r117 true f
noncomputable def F117 (f121 : T121) (a : CuD × Unit) : Option (CuD × Int × Unit) :=
  (f121 ((a.1.1, a.1.2.1, a.1.2.2.1, ()), ([(-1), 0, 1, 2, 3, 7, 8, 9, 15, 16, 17, 63, 64, 65, 999, 1000, 4096, 4097, 9223372036854775807, (-9223372036854775808)] : List Int), ())).bind fun x1 => some ((x1.1.1, x1.1.2.1, x1.1.2.2.1, ()), x1.2.1, ())
def E117 (f121 : T121) : Env := envL [(121, N121 f121)]
noncomputable def L117 (f121 : T121) : LEnv (densS (muts p117 ++ r117)) := lenv []
theorem e117 (f121 : T121) (a : densS p117) : runF (E117 f121) tab (fun _ => false) p117 r117 Proofs.Tryz.f117 (L117 f121) a = F117 f121 a := by kernel_rfl
theorem ok117 {f121 : T121} (h121 : OK Proofs.Tryz.prog 121 (N121 f121)) : OK Proofs.Tryz.prog 117 (mkE p117 r117 true (F117 f121)) :=
  fn_ok (E := E117 f121) tab_ok (envL_ok (OKs.cons h121 OKs.nil)) mixed (ann := (fun _ => false)) (L := L117 f121) (fn := Proofs.Tryz.f117) (c := bodyC Proofs.Tryz.f117) (ls := []) Proofs.Tryz.func117 (by kernel_rfl) (by kernel_rfl) (by kernel_rfl) (by kernel_rfl)
    LoopsP.nil (e117 f121)
/-! spec.l1Min -/
def p122 : List SP := [.one (.int .i64), .one (.int .i64)]
def r122 : List SP := [.one (.int .i64)]
abbrev T122 := Int × Int × Unit → Option (Int × Unit)
abbrev N122 (f : T122) : Entry := mkE p122 r122 false f
noncomputable def F122 (a : Int × Int × Unit) : Option (Int × Unit) :=
  cond (decide (a.1 < a.2.1)) (some (a.1, ())) (some (a.2.1, ()))
def E122 : Env := envL []
noncomputable def L122 : LEnv (densS (muts p122 ++ r122)) := lenv []
theorem e122 (a : densS p122) : runF (E122) tab (fun _ => false) p122 r122 Proofs.Tryz.f122 (L122) a = F122 a := by kernel_rfl
theorem ok122 : OK Proofs.Tryz.prog 122 (mkE p122 r122 false (F122)) :=
  fn_ok (E := E122) tab_ok (envL_ok OKs.nil) mixed (ann := (fun _ => false)) (L := L122) (fn := Proofs.Tryz.f122) (c := bodyC Proofs.Tryz.f122) (ls := []) Proofs.Tryz.func122 (by kernel_rfl) (by kernel_rfl) (by kernel_rfl) (by kernel_rfl)
    LoopsP.nil (e122)
/-! spec.l6Name -/
def p191 : List SP := [.box 0 [.r .u8, .int .i64, .int .i64]]
def r191 : List SP := [.one (.str)]
abbrev T191 := CuD × Unit → Option (CuD × Str × Unit)
abbrev N191 (f : T191) : Entry := mkE p191 r191 true f
noncomputable def F191 (f186 : T186) (a : CuD × Unit) : Option (CuD × Str × Unit) :=
  (f186 ((a.1.1, a.1.2.1, a.1.2.2.1, ()), ([[97], [98], [99], [114], [112], [113], [108, 97, 109, 112], [122], [110, 111]] : List Str), ())).bind fun x1 => some ((x1.1.1, x1.1.2.1, x1.1.2.2.1, ()), x1.2.1, ())
def E191 (f186 : T186) : Env := envL [(186, N186 f186)]
noncomputable def L191 (f186 : T186) : LEnv (densS (muts p191 ++ r191)) := lenv []
theorem e191 (f186 : T186) (a : densS p191) : runF (E191 f186) tab (fun _ => false) p191 r191 Proofs.Tryz.f191 (L191 f186) a = F191 f186 a := by kernel_rfl
theorem ok191 {f186 : T186} (h186 : OK Proofs.Tryz.prog 186 (N186 f186)) : OK Proofs.Tryz.prog 191 (mkE p191 r191 true (F191 f186)) :=
  fn_ok (E := E191 f186) tab_ok (envL_ok (OKs.cons h186 OKs.nil)) mixed (ann := (fun _ => false)) (L := L191 f186) (fn := Proofs.Tryz.f191) (c := bodyC Proofs.Tryz.f191) (ls := []) Proofs.Tryz.func191 (by kernel_rfl) (by kernel_rfl) (by kernel_rfl) (by kernel_rfl)
    LoopsP.nil (e191 f186)
/-! spec.l1Word -/
def p193 : List SP := [.box 0 [.r .u8, .int .i64, .int .i64]]
def r193 : List SP := [.one (.str)]
abbrev T193 := CuD × Unit → Option (CuD × Str × Unit)
abbrev N193 (f : T193) : Entry := mkE p193 r193 true f
noncomputable def F193 (f186 : T186) (a : CuD × Unit) : Option (CuD × Str × Unit) :=
  (f186 ((a.1.1, a.1.2.1, a.1.2.2.1, ()), ([[97], [98], [106, 101, 116, 49], [112], [122, 122, 57], [108, 97, 109, 112], [97, 98, 99, 100, 101, 102, 103, 104], [97, 98, 99, 100, 101, 102, 103, 104, 105], [], [57, 97], [65], [97, 32, 98], [97, 45, 98]] : List Str), ())).bind fun x1 => some ((x1.1.1, x1.1.2.1, x1.1.2.2.1, ()), x1.2.1, ())
def E193 (f186 : T186) : Env := envL [(186, N186 f186)]
noncomputable def L193 (f186 : T186) : LEnv (densS (muts p193 ++ r193)) := lenv []
theorem e193 (f186 : T186) (a : densS p193) : runF (E193 f186) tab (fun _ => false) p193 r193 Proofs.Tryz.f193 (L193 f186) a = F193 f186 a := by kernel_rfl
theorem ok193 {f186 : T186} (h186 : OK Proofs.Tryz.prog 186 (N186 f186)) : OK Proofs.Tryz.prog 193 (mkE p193 r193 true (F193 f186)) :=
  fn_ok (E := E193 f186) tab_ok (envL_ok (OKs.cons h186 OKs.nil)) mixed (ann := (fun _ => false)) (L := L193 f186) (fn := Proofs.Tryz.f193) (c := bodyC Proofs.Tryz.f193) (ls := []) Proofs.Tryz.func193 (by kernel_rfl) (by kernel_rfl) (by kernel_rfl) (by kernel_rfl)
    LoopsP.nil (e193 f186)
/-! spec.l2Any -/
def p192 : List SP := [.box 0 [.r .u8, .int .i64, .int .i64]]
def r192 : List SP := [.t .place]
abbrev T192 := CuD × Unit → Option (CuD × Place × Unit)
abbrev N192 (f : T192) : Entry := mkE p192 r192 true f
noncomputable def F192 (f187 : T187) (f126 : T126) (f117 : T117) (f121 : T121) (a : CuD × Unit) : Option (CuD × Place × Unit) :=
  (f187 ((a.1.1, a.1.2.1, a.1.2.2.1, ()), ())).bind fun x1 => (f126 ((x1.1.1, x1.1.2.1, x1.1.2.2.1, ()), 9, ())).bind fun x2 => cond x2.2.1 ((f117 ((x2.1.1, x2.1.2.1, x2.1.2.2.1, ()), ())).bind fun x3 => (f126 ((x3.1.1, x3.1.2.1, x3.1.2.2.1, ()), 9, ())).bind fun x4 => cond x4.2.1 ((f121 ((x4.1.1, x4.1.2.1, x4.1.2.2.1, ()), ([4096, (-4096), 4097, (-4097), 4090] : List Int), ())).bind fun x5 => some ((x5.1.1, x5.1.2.1, x5.1.2.2.1, ()), (⟨x3.2.1, x5.2.1⟩ : Place), ())) (some ((x4.1.1, x4.1.2.1, x4.1.2.2.1, ()), (⟨x3.2.1, x1.2.1.Y⟩ : Place), ()))) ((f126 ((x2.1.1, x2.1.2.1, x2.1.2.2.1, ()), 9, ())).bind fun x6 => cond x6.2.1 ((f121 ((x6.1.1, x6.1.2.1, x6.1.2.2.1, ()), ([4096, (-4096), 4097, (-4097), 4090] : List Int), ())).bind fun x7 => some ((x7.1.1, x7.1.2.1, x7.1.2.2.1, ()), (⟨x1.2.1.X, x7.2.1⟩ : Place), ())) (some ((x6.1.1, x6.1.2.1, x6.1.2.2.1, ()), x1.2.1, ())))
def E192 (f187 : T187) (f126 : T126) (f117 : T117) (f121 : T121) : Env := envL [(187, N187 f187), (126, N126 f126), (117, N117 f117), (121, N121 f121)]
noncomputable def L192 (f187 : T187) (f126 : T126) (f117 : T117) (f121 : T121) : LEnv (densS (muts p192 ++ r192)) := lenv []
theorem e192 (f187 : T187) (f126 : T126) (f117 : T117) (f121 : T121) (a : densS p192) : runF (E192 f187 f126 f117 f121) tab (fun _ => false) p192 r192 Proofs.Tryz.f192 (L192 f187 f126 f117 f121) a = F192 f187 f126 f117 f121 a := by kernel_rfl
theorem ok192 {f187 : T187} {f126 : T126} {f117 : T117} {f121 : T121} (h187 : OK Proofs.Tryz.prog 187 (N187 f187)) (h126 : OK Proofs.Tryz.prog 126 (N126 f126)) (h117 : OK Proofs.Tryz.prog 117 (N117 f117)) (h121 : OK Proofs.Tryz.prog 121 (N121 f121)) : OK Proofs.Tryz.prog 192 (mkE p192 r192 true (F192 f187 f126 f117 f121)) :=
  fn_ok (E := E192 f187 f126 f117 f121) tab_ok (envL_ok (OKs.cons h187 (OKs.cons h126 (OKs.cons h117 (OKs.cons h121 OKs.nil))))) mixed (ann := (fun _ => false)) (L := L192 f187 f126 f117 f121) (fn := Proofs.Tryz.f192) (c := bodyC Proofs.Tryz.f192) (ls := []) Proofs.Tryz.func192 (by kernel_rfl) (by kernel_rfl) (by kernel_rfl) (by kernel_rfl)
    LoopsP.nil (e192 f187 f126 f117 f121)
/-! spec.l3Any -/
def p194 : List SP := [.box 0 [.r .u8, .int .i64, .int .i64]]
def r194 : List SP := [.t .jet]
abbrev T194 := CuD × Unit → Option (CuD × Jet × Unit)
abbrev N194 (f : T194) : Entry := mkE p194 r194 true f
noncomputable def F194 (f208 : T208) (f116 : T116) (f192 : T192) (f117 : T117) (f121 : T121) (a : CuD × Unit) : Option (CuD × Jet × Unit) :=
  (f208 ((a.1.1, a.1.2.1, a.1.2.2.1, ()), ())).bind fun x1 => (f116 ((x1.1.1, x1.1.2.1, x1.1.2.2.1, ()), 12, ())).bind fun x2 => cond (decide (x2.2.1 = 0)) ((f192 ((x2.1.1, x2.1.2.1, x2.1.2.2.1, ()), ())).bind fun x3 => some ((x3.1.1, x3.1.2.1, x3.1.2.2.1, ()), (⟨⟨x3.2.1.X, x3.2.1.Y⟩, x1.2.1.Heading, x1.2.1.Tilt, x1.2.1.Lift⟩ : Jet), ())) (cond (decide (x2.2.1 = 1)) ((f117 ((x2.1.1, x2.1.2.1, x2.1.2.2.1, ()), ())).bind fun x4 => some ((x4.1.1, x4.1.2.1, x4.1.2.2.1, ()), (⟨⟨x1.2.1.At.X, x1.2.1.At.Y⟩, x4.2.1, x1.2.1.Tilt, x1.2.1.Lift⟩ : Jet), ())) (cond (decide (x2.2.1 = 2)) ((f121 ((x2.1.1, x2.1.2.1, x2.1.2.2.1, ()), ([(-1), 17, 16, 1000, 9223372036854775807] : List Int), ())).bind fun x5 => some ((x5.1.1, x5.1.2.1, x5.1.2.2.1, ()), (⟨⟨x1.2.1.At.X, x1.2.1.At.Y⟩, x1.2.1.Heading, x5.2.1, x1.2.1.Lift⟩ : Jet), ())) (cond (decide (x2.2.1 = 3)) ((f121 ((x2.1.1, x2.1.2.1, x2.1.2.2.1, ()), ([0, (-1), 33, 32, 9223372036854775807, (-9223372036854775808)] : List Int), ())).bind fun x6 => some ((x6.1.1, x6.1.2.1, x6.1.2.2.1, ()), (⟨⟨x1.2.1.At.X, x1.2.1.At.Y⟩, x1.2.1.Heading, x1.2.1.Tilt, x6.2.1⟩ : Jet), ())) (cond (decide (x2.2.1 = 4)) ((f121 ((x2.1.1, x2.1.2.1, x2.1.2.2.1, ()), ([1024, 1025, (-1024), (-1025)] : List Int), ())).bind fun x7 => (f121 ((x7.1.1, x7.1.2.1, x7.1.2.2.1, ()), ([0, 1024, (-1025)] : List Int), ())).bind fun x8 => some ((x8.1.1, x8.1.2.1, x8.1.2.2.1, ()), (⟨⟨x7.2.1, x8.2.1⟩, x1.2.1.Heading, x1.2.1.Tilt, x1.2.1.Lift⟩ : Jet), ())) (some ((x2.1.1, x2.1.2.1, x2.1.2.2.1, ()), x1.2.1, ()))))))
def E194 (f208 : T208) (f116 : T116) (f192 : T192) (f117 : T117) (f121 : T121) : Env := envL [(208, N208 f208), (116, N116 f116), (192, N192 f192), (117, N117 f117), (121, N121 f121)]
noncomputable def L194 (f208 : T208) (f116 : T116) (f192 : T192) (f117 : T117) (f121 : T121) : LEnv (densS (muts p194 ++ r194)) := lenv []
theorem e194 (f208 : T208) (f116 : T116) (f192 : T192) (f117 : T117) (f121 : T121) (a : densS p194) : runF (E194 f208 f116 f192 f117 f121) tab (fun _ => false) p194 r194 Proofs.Tryz.f194 (L194 f208 f116 f192 f117 f121) a = F194 f208 f116 f192 f117 f121 a := by kernel_rfl
theorem ok194 {f208 : T208} {f116 : T116} {f192 : T192} {f117 : T117} {f121 : T121} (h208 : OK Proofs.Tryz.prog 208 (N208 f208)) (h116 : OK Proofs.Tryz.prog 116 (N116 f116)) (h192 : OK Proofs.Tryz.prog 192 (N192 f192)) (h117 : OK Proofs.Tryz.prog 117 (N117 f117)) (h121 : OK Proofs.Tryz.prog 121 (N121 f121)) : OK Proofs.Tryz.prog 194 (mkE p194 r194 true (F194 f208 f116 f192 f117 f121)) :=
  fn_ok (E := E194 f208 f116 f192 f117 f121) tab_ok (envL_ok (OKs.cons h208 (OKs.cons h116 (OKs.cons h192 (OKs.cons h117 (OKs.cons h121 OKs.nil)))))) mixed (ann := (fun _ => false)) (L := L194 f208 f116 f192 f117 f121) (fn := Proofs.Tryz.f194) (c := bodyC Proofs.Tryz.f194) (ls := []) Proofs.Tryz.func194 (by kernel_rfl) (by kernel_rfl) (by kernel_rfl) (by kernel_rfl)
    LoopsP.nil (e194 f208 f116 f192 f117 f121)
/-! spec.l6Any -/
def p155 : List SP := [.box 0 [.r .u8, .int .i64, .int .i64]]
def r155 : List SP := [.t .device]
abbrev T155 := CuD × Unit → Option (CuD × Device × Unit)
abbrev N155 (f : T155) : Entry := mkE p155 r155 true f
noncomputable def F155 (f191 : T191) (f185 : T185) (f116 : T116) (f193 : T193) (f117 : T117) (f194 : T194) (f192 : T192) (a : CuD × Unit) : Option (CuD × Device × Unit) :=
  (f191 ((a.1.1, a.1.2.1, a.1.2.2.1, ()), ())).bind fun x1 => (f191 ((x1.1.1, x1.1.2.1, x1.1.2.2.1, ()), ())).bind fun x2 => (f185 ((x2.1.1, x2.1.2.1, x2.1.2.2.1, ()), x1.2.1, x2.2.1, ())).bind fun x3 => (f116 ((x3.1.1, x3.1.2.1, x3.1.2.2.1, ()), 9, ())).bind fun x4 => cond (decide (x4.2.1 = 0)) (cond (decide (x4.2.1 = 0)) ((f191 ((x4.1.1, x4.1.2.1, x4.1.2.2.1, ()), ())).bind fun x5 => (f116 ((x5.1.1, x5.1.2.1, x5.1.2.2.1, ()), 600, ())).bind fun x6 => (f116 ((x6.1.1, x6.1.2.1, x6.1.2.2.1, ()), 12, ())).bind fun x7 => cond (decide (x7.2.1 = 0)) ((f193 ((x7.1.1, x7.1.2.1, x7.1.2.2.1, ()), ())).bind fun x8 => some ((x8.1.1, x8.1.2.1, x8.1.2.2.1, ()), (⟨x8.2.1, 1, [], ⟨0, 0⟩, 0, 0, x6.2.1⟩ : Device), ())) (cond (decide (x7.2.1 = 1)) ((f117 ((x7.1.1, x7.1.2.1, x7.1.2.2.1, ()), ())).bind fun x9 => some ((x9.1.1, x9.1.2.1, x9.1.2.2.1, ()), (⟨x5.2.1, 1, [], ⟨0, 0⟩, 0, x9.2.1, x6.2.1⟩ : Device), ())) (cond (decide (x7.2.1 = 2)) ((f194 ((x7.1.1, x7.1.2.1, x7.1.2.2.1, ()), ())).bind fun x10 => some ((x10.1.1, x10.1.2.1, x10.1.2.2.1, ()), (⟨x5.2.1, 1, [], ⟨x10.2.1.At.X, x10.2.1.At.Y⟩, 0, 0, x6.2.1⟩ : Device), ())) (some ((x7.1.1, x7.1.2.1, x7.1.2.2.1, ()), (⟨x5.2.1, 1, [], ⟨0, 0⟩, 0, 0, x6.2.1⟩ : Device), ()))))) (cond (decide (x4.2.1 = 2)) (cond (decide (x4.2.1 = 2)) ((f191 ((x4.1.1, x4.1.2.1, x4.1.2.2.1, ()), ())).bind fun x11 => (f191 ((x11.1.1, x11.1.2.1, x11.1.2.2.1, ()), ())).bind fun x12 => (f192 ((x12.1.1, x12.1.2.1, x12.1.2.2.1, ()), ())).bind fun x13 => (f116 ((x13.1.1, x13.1.2.1, x13.1.2.2.1, ()), 12, ())).bind fun x14 => cond (decide (x14.2.1 = 0)) ((f193 ((x14.1.1, x14.1.2.1, x14.1.2.2.1, ()), ())).bind fun x15 => some ((x15.1.1, x15.1.2.1, x15.1.2.2.1, ()), (⟨x15.2.1, 3, x12.2.1, ⟨x13.2.1.X, x13.2.1.Y⟩, 0, 0, 0⟩ : Device), ())) (cond (decide (x14.2.1 = 1)) ((f117 ((x14.1.1, x14.1.2.1, x14.1.2.2.1, ()), ())).bind fun x16 => some ((x16.1.1, x16.1.2.1, x16.1.2.2.1, ()), (⟨x11.2.1, 3, x12.2.1, ⟨x13.2.1.X, x13.2.1.Y⟩, 0, x16.2.1, 0⟩ : Device), ())) (cond (decide (x14.2.1 = 2)) ((f194 ((x14.1.1, x14.1.2.1, x14.1.2.2.1, ()), ())).bind fun x17 => some ((x17.1.1, x17.1.2.1, x17.1.2.2.1, ()), (⟨x11.2.1, 3, x12.2.1, ⟨x17.2.1.At.X, x17.2.1.At.Y⟩, 0, 0, 0⟩ : Device), ())) (some ((x14.1.1, x14.1.2.1, x14.1.2.2.1, ()), (⟨x11.2.1, 3, x12.2.1, ⟨x13.2.1.X, x13.2.1.Y⟩, 0, 0, 0⟩ : Device), ()))))) (cond (decide (x4.2.1 = 4)) ((f117 ((x4.1.1, x4.1.2.1, x4.1.2.2.1, ()), ())).bind fun x18 => (f116 ((x18.1.1, x18.1.2.1, x18.1.2.2.1, ()), 12, ())).bind fun x19 => cond (decide (x19.2.1 = 0)) ((f193 ((x19.1.1, x19.1.2.1, x19.1.2.2.1, ()), ())).bind fun x20 => some ((x20.1.1, x20.1.2.1, x20.1.2.2.1, ()), (⟨x20.2.1, x3.2.1.Kind, x3.2.1.Line, ⟨x3.2.1.At.X, x3.2.1.At.Y⟩, x3.2.1.Heading, x3.2.1.Tilt, x18.2.1⟩ : Device), ())) (cond (decide (x19.2.1 = 1)) ((f117 ((x19.1.1, x19.1.2.1, x19.1.2.2.1, ()), ())).bind fun x21 => some ((x21.1.1, x21.1.2.1, x21.1.2.2.1, ()), (⟨x3.2.1.Name, x3.2.1.Kind, x3.2.1.Line, ⟨x3.2.1.At.X, x3.2.1.At.Y⟩, x3.2.1.Heading, x21.2.1, x18.2.1⟩ : Device), ())) (cond (decide (x19.2.1 = 2)) ((f194 ((x19.1.1, x19.1.2.1, x19.1.2.2.1, ()), ())).bind fun x22 => some ((x22.1.1, x22.1.2.1, x22.1.2.2.1, ()), (⟨x3.2.1.Name, x3.2.1.Kind, x3.2.1.Line, ⟨x22.2.1.At.X, x22.2.1.At.Y⟩, x3.2.1.Heading, x3.2.1.Tilt, x18.2.1⟩ : Device), ())) (some ((x19.1.1, x19.1.2.1, x19.1.2.2.1, ()), (⟨x3.2.1.Name, x3.2.1.Kind, x3.2.1.Line, ⟨x3.2.1.At.X, x3.2.1.At.Y⟩, x3.2.1.Heading, x3.2.1.Tilt, x18.2.1⟩ : Device), ()))))) (cond (decide (x4.2.1 = 5)) ((f117 ((x4.1.1, x4.1.2.1, x4.1.2.2.1, ()), ())).bind fun x23 => (f116 ((x23.1.1, x23.1.2.1, x23.1.2.2.1, ()), 12, ())).bind fun x24 => cond (decide (x24.2.1 = 0)) ((f193 ((x24.1.1, x24.1.2.1, x24.1.2.2.1, ()), ())).bind fun x25 => some ((x25.1.1, x25.1.2.1, x25.1.2.2.1, ()), (⟨x25.2.1, x23.2.1, x3.2.1.Line, ⟨x3.2.1.At.X, x3.2.1.At.Y⟩, x3.2.1.Heading, x3.2.1.Tilt, x3.2.1.Most⟩ : Device), ())) (cond (decide (x24.2.1 = 1)) ((f117 ((x24.1.1, x24.1.2.1, x24.1.2.2.1, ()), ())).bind fun x26 => some ((x26.1.1, x26.1.2.1, x26.1.2.2.1, ()), (⟨x3.2.1.Name, x23.2.1, x3.2.1.Line, ⟨x3.2.1.At.X, x3.2.1.At.Y⟩, x3.2.1.Heading, x26.2.1, x3.2.1.Most⟩ : Device), ())) (cond (decide (x24.2.1 = 2)) ((f194 ((x24.1.1, x24.1.2.1, x24.1.2.2.1, ()), ())).bind fun x27 => some ((x27.1.1, x27.1.2.1, x27.1.2.2.1, ()), (⟨x3.2.1.Name, x23.2.1, x3.2.1.Line, ⟨x27.2.1.At.X, x27.2.1.At.Y⟩, x3.2.1.Heading, x3.2.1.Tilt, x3.2.1.Most⟩ : Device), ())) (some ((x24.1.1, x24.1.2.1, x24.1.2.2.1, ()), (⟨x3.2.1.Name, x23.2.1, x3.2.1.Line, ⟨x3.2.1.At.X, x3.2.1.At.Y⟩, x3.2.1.Heading, x3.2.1.Tilt, x3.2.1.Most⟩ : Device), ()))))) ((f116 ((x4.1.1, x4.1.2.1, x4.1.2.2.1, ()), 12, ())).bind fun x28 => cond (decide (x28.2.1 = 0)) ((f193 ((x28.1.1, x28.1.2.1, x28.1.2.2.1, ()), ())).bind fun x29 => some ((x29.1.1, x29.1.2.1, x29.1.2.2.1, ()), (⟨x29.2.1, x3.2.1.Kind, x3.2.1.Line, ⟨x3.2.1.At.X, x3.2.1.At.Y⟩, x3.2.1.Heading, x3.2.1.Tilt, x3.2.1.Most⟩ : Device), ())) (cond (decide (x28.2.1 = 1)) ((f117 ((x28.1.1, x28.1.2.1, x28.1.2.2.1, ()), ())).bind fun x30 => some ((x30.1.1, x30.1.2.1, x30.1.2.2.1, ()), (⟨x3.2.1.Name, x3.2.1.Kind, x3.2.1.Line, ⟨x3.2.1.At.X, x3.2.1.At.Y⟩, x3.2.1.Heading, x30.2.1, x3.2.1.Most⟩ : Device), ())) (cond (decide (x28.2.1 = 2)) ((f194 ((x28.1.1, x28.1.2.1, x28.1.2.2.1, ()), ())).bind fun x31 => some ((x31.1.1, x31.1.2.1, x31.1.2.2.1, ()), (⟨x3.2.1.Name, x3.2.1.Kind, x3.2.1.Line, ⟨x31.2.1.At.X, x31.2.1.At.Y⟩, x3.2.1.Heading, x3.2.1.Tilt, x3.2.1.Most⟩ : Device), ())) (some ((x28.1.1, x28.1.2.1, x28.1.2.2.1, ()), x3.2.1, ())))))))) (cond (decide (x4.2.1 = 3)) ((f191 ((x4.1.1, x4.1.2.1, x4.1.2.2.1, ()), ())).bind fun x32 => (f191 ((x32.1.1, x32.1.2.1, x32.1.2.2.1, ()), ())).bind fun x33 => (f192 ((x33.1.1, x33.1.2.1, x33.1.2.2.1, ()), ())).bind fun x34 => (f116 ((x34.1.1, x34.1.2.1, x34.1.2.2.1, ()), 12, ())).bind fun x35 => cond (decide (x35.2.1 = 0)) ((f193 ((x35.1.1, x35.1.2.1, x35.1.2.2.1, ()), ())).bind fun x36 => some ((x36.1.1, x36.1.2.1, x36.1.2.2.1, ()), (⟨x36.2.1, 3, x33.2.1, ⟨x34.2.1.X, x34.2.1.Y⟩, 0, 0, 0⟩ : Device), ())) (cond (decide (x35.2.1 = 1)) ((f117 ((x35.1.1, x35.1.2.1, x35.1.2.2.1, ()), ())).bind fun x37 => some ((x37.1.1, x37.1.2.1, x37.1.2.2.1, ()), (⟨x32.2.1, 3, x33.2.1, ⟨x34.2.1.X, x34.2.1.Y⟩, 0, x37.2.1, 0⟩ : Device), ())) (cond (decide (x35.2.1 = 2)) ((f194 ((x35.1.1, x35.1.2.1, x35.1.2.2.1, ()), ())).bind fun x38 => some ((x38.1.1, x38.1.2.1, x38.1.2.2.1, ()), (⟨x32.2.1, 3, x33.2.1, ⟨x38.2.1.At.X, x38.2.1.At.Y⟩, 0, 0, 0⟩ : Device), ())) (some ((x35.1.1, x35.1.2.1, x35.1.2.2.1, ()), (⟨x32.2.1, 3, x33.2.1, ⟨x34.2.1.X, x34.2.1.Y⟩, 0, 0, 0⟩ : Device), ()))))) (cond (decide (x4.2.1 = 4)) ((f117 ((x4.1.1, x4.1.2.1, x4.1.2.2.1, ()), ())).bind fun x39 => (f116 ((x39.1.1, x39.1.2.1, x39.1.2.2.1, ()), 12, ())).bind fun x40 => cond (decide (x40.2.1 = 0)) ((f193 ((x40.1.1, x40.1.2.1, x40.1.2.2.1, ()), ())).bind fun x41 => some ((x41.1.1, x41.1.2.1, x41.1.2.2.1, ()), (⟨x41.2.1, x3.2.1.Kind, x3.2.1.Line, ⟨x3.2.1.At.X, x3.2.1.At.Y⟩, x3.2.1.Heading, x3.2.1.Tilt, x39.2.1⟩ : Device), ())) (cond (decide (x40.2.1 = 1)) ((f117 ((x40.1.1, x40.1.2.1, x40.1.2.2.1, ()), ())).bind fun x42 => some ((x42.1.1, x42.1.2.1, x42.1.2.2.1, ()), (⟨x3.2.1.Name, x3.2.1.Kind, x3.2.1.Line, ⟨x3.2.1.At.X, x3.2.1.At.Y⟩, x3.2.1.Heading, x42.2.1, x39.2.1⟩ : Device), ())) (cond (decide (x40.2.1 = 2)) ((f194 ((x40.1.1, x40.1.2.1, x40.1.2.2.1, ()), ())).bind fun x43 => some ((x43.1.1, x43.1.2.1, x43.1.2.2.1, ()), (⟨x3.2.1.Name, x3.2.1.Kind, x3.2.1.Line, ⟨x43.2.1.At.X, x43.2.1.At.Y⟩, x3.2.1.Heading, x3.2.1.Tilt, x39.2.1⟩ : Device), ())) (some ((x40.1.1, x40.1.2.1, x40.1.2.2.1, ()), (⟨x3.2.1.Name, x3.2.1.Kind, x3.2.1.Line, ⟨x3.2.1.At.X, x3.2.1.At.Y⟩, x3.2.1.Heading, x3.2.1.Tilt, x39.2.1⟩ : Device), ()))))) (cond (decide (x4.2.1 = 5)) ((f117 ((x4.1.1, x4.1.2.1, x4.1.2.2.1, ()), ())).bind fun x44 => (f116 ((x44.1.1, x44.1.2.1, x44.1.2.2.1, ()), 12, ())).bind fun x45 => cond (decide (x45.2.1 = 0)) ((f193 ((x45.1.1, x45.1.2.1, x45.1.2.2.1, ()), ())).bind fun x46 => some ((x46.1.1, x46.1.2.1, x46.1.2.2.1, ()), (⟨x46.2.1, x44.2.1, x3.2.1.Line, ⟨x3.2.1.At.X, x3.2.1.At.Y⟩, x3.2.1.Heading, x3.2.1.Tilt, x3.2.1.Most⟩ : Device), ())) (cond (decide (x45.2.1 = 1)) ((f117 ((x45.1.1, x45.1.2.1, x45.1.2.2.1, ()), ())).bind fun x47 => some ((x47.1.1, x47.1.2.1, x47.1.2.2.1, ()), (⟨x3.2.1.Name, x44.2.1, x3.2.1.Line, ⟨x3.2.1.At.X, x3.2.1.At.Y⟩, x3.2.1.Heading, x47.2.1, x3.2.1.Most⟩ : Device), ())) (cond (decide (x45.2.1 = 2)) ((f194 ((x45.1.1, x45.1.2.1, x45.1.2.2.1, ()), ())).bind fun x48 => some ((x48.1.1, x48.1.2.1, x48.1.2.2.1, ()), (⟨x3.2.1.Name, x44.2.1, x3.2.1.Line, ⟨x48.2.1.At.X, x48.2.1.At.Y⟩, x3.2.1.Heading, x3.2.1.Tilt, x3.2.1.Most⟩ : Device), ())) (some ((x45.1.1, x45.1.2.1, x45.1.2.2.1, ()), (⟨x3.2.1.Name, x44.2.1, x3.2.1.Line, ⟨x3.2.1.At.X, x3.2.1.At.Y⟩, x3.2.1.Heading, x3.2.1.Tilt, x3.2.1.Most⟩ : Device), ()))))) ((f116 ((x4.1.1, x4.1.2.1, x4.1.2.2.1, ()), 12, ())).bind fun x49 => cond (decide (x49.2.1 = 0)) ((f193 ((x49.1.1, x49.1.2.1, x49.1.2.2.1, ()), ())).bind fun x50 => some ((x50.1.1, x50.1.2.1, x50.1.2.2.1, ()), (⟨x50.2.1, x3.2.1.Kind, x3.2.1.Line, ⟨x3.2.1.At.X, x3.2.1.At.Y⟩, x3.2.1.Heading, x3.2.1.Tilt, x3.2.1.Most⟩ : Device), ())) (cond (decide (x49.2.1 = 1)) ((f117 ((x49.1.1, x49.1.2.1, x49.1.2.2.1, ()), ())).bind fun x51 => some ((x51.1.1, x51.1.2.1, x51.1.2.2.1, ()), (⟨x3.2.1.Name, x3.2.1.Kind, x3.2.1.Line, ⟨x3.2.1.At.X, x3.2.1.At.Y⟩, x3.2.1.Heading, x51.2.1, x3.2.1.Most⟩ : Device), ())) (cond (decide (x49.2.1 = 2)) ((f194 ((x49.1.1, x49.1.2.1, x49.1.2.2.1, ()), ())).bind fun x52 => some ((x52.1.1, x52.1.2.1, x52.1.2.2.1, ()), (⟨x3.2.1.Name, x3.2.1.Kind, x3.2.1.Line, ⟨x52.2.1.At.X, x52.2.1.At.Y⟩, x3.2.1.Heading, x3.2.1.Tilt, x3.2.1.Most⟩ : Device), ())) (some ((x49.1.1, x49.1.2.1, x49.1.2.2.1, ()), x3.2.1, ())))))))))) (cond (decide (x4.2.1 = 1)) ((f191 ((x4.1.1, x4.1.2.1, x4.1.2.2.1, ()), ())).bind fun x53 => (f116 ((x53.1.1, x53.1.2.1, x53.1.2.2.1, ()), 600, ())).bind fun x54 => (f116 ((x54.1.1, x54.1.2.1, x54.1.2.2.1, ()), 12, ())).bind fun x55 => cond (decide (x55.2.1 = 0)) ((f193 ((x55.1.1, x55.1.2.1, x55.1.2.2.1, ()), ())).bind fun x56 => some ((x56.1.1, x56.1.2.1, x56.1.2.2.1, ()), (⟨x56.2.1, 1, [], ⟨0, 0⟩, 0, 0, x54.2.1⟩ : Device), ())) (cond (decide (x55.2.1 = 1)) ((f117 ((x55.1.1, x55.1.2.1, x55.1.2.2.1, ()), ())).bind fun x57 => some ((x57.1.1, x57.1.2.1, x57.1.2.2.1, ()), (⟨x53.2.1, 1, [], ⟨0, 0⟩, 0, x57.2.1, x54.2.1⟩ : Device), ())) (cond (decide (x55.2.1 = 2)) ((f194 ((x55.1.1, x55.1.2.1, x55.1.2.2.1, ()), ())).bind fun x58 => some ((x58.1.1, x58.1.2.1, x58.1.2.2.1, ()), (⟨x53.2.1, 1, [], ⟨x58.2.1.At.X, x58.2.1.At.Y⟩, 0, 0, x54.2.1⟩ : Device), ())) (some ((x55.1.1, x55.1.2.1, x55.1.2.2.1, ()), (⟨x53.2.1, 1, [], ⟨0, 0⟩, 0, 0, x54.2.1⟩ : Device), ()))))) (cond (decide (x4.2.1 = 2)) (cond (decide (x4.2.1 = 2)) ((f191 ((x4.1.1, x4.1.2.1, x4.1.2.2.1, ()), ())).bind fun x59 => (f191 ((x59.1.1, x59.1.2.1, x59.1.2.2.1, ()), ())).bind fun x60 => (f192 ((x60.1.1, x60.1.2.1, x60.1.2.2.1, ()), ())).bind fun x61 => (f116 ((x61.1.1, x61.1.2.1, x61.1.2.2.1, ()), 12, ())).bind fun x62 => cond (decide (x62.2.1 = 0)) ((f193 ((x62.1.1, x62.1.2.1, x62.1.2.2.1, ()), ())).bind fun x63 => some ((x63.1.1, x63.1.2.1, x63.1.2.2.1, ()), (⟨x63.2.1, 3, x60.2.1, ⟨x61.2.1.X, x61.2.1.Y⟩, 0, 0, 0⟩ : Device), ())) (cond (decide (x62.2.1 = 1)) ((f117 ((x62.1.1, x62.1.2.1, x62.1.2.2.1, ()), ())).bind fun x64 => some ((x64.1.1, x64.1.2.1, x64.1.2.2.1, ()), (⟨x59.2.1, 3, x60.2.1, ⟨x61.2.1.X, x61.2.1.Y⟩, 0, x64.2.1, 0⟩ : Device), ())) (cond (decide (x62.2.1 = 2)) ((f194 ((x62.1.1, x62.1.2.1, x62.1.2.2.1, ()), ())).bind fun x65 => some ((x65.1.1, x65.1.2.1, x65.1.2.2.1, ()), (⟨x59.2.1, 3, x60.2.1, ⟨x65.2.1.At.X, x65.2.1.At.Y⟩, 0, 0, 0⟩ : Device), ())) (some ((x62.1.1, x62.1.2.1, x62.1.2.2.1, ()), (⟨x59.2.1, 3, x60.2.1, ⟨x61.2.1.X, x61.2.1.Y⟩, 0, 0, 0⟩ : Device), ()))))) (cond (decide (x4.2.1 = 4)) ((f117 ((x4.1.1, x4.1.2.1, x4.1.2.2.1, ()), ())).bind fun x66 => (f116 ((x66.1.1, x66.1.2.1, x66.1.2.2.1, ()), 12, ())).bind fun x67 => cond (decide (x67.2.1 = 0)) ((f193 ((x67.1.1, x67.1.2.1, x67.1.2.2.1, ()), ())).bind fun x68 => some ((x68.1.1, x68.1.2.1, x68.1.2.2.1, ()), (⟨x68.2.1, x3.2.1.Kind, x3.2.1.Line, ⟨x3.2.1.At.X, x3.2.1.At.Y⟩, x3.2.1.Heading, x3.2.1.Tilt, x66.2.1⟩ : Device), ())) (cond (decide (x67.2.1 = 1)) ((f117 ((x67.1.1, x67.1.2.1, x67.1.2.2.1, ()), ())).bind fun x69 => some ((x69.1.1, x69.1.2.1, x69.1.2.2.1, ()), (⟨x3.2.1.Name, x3.2.1.Kind, x3.2.1.Line, ⟨x3.2.1.At.X, x3.2.1.At.Y⟩, x3.2.1.Heading, x69.2.1, x66.2.1⟩ : Device), ())) (cond (decide (x67.2.1 = 2)) ((f194 ((x67.1.1, x67.1.2.1, x67.1.2.2.1, ()), ())).bind fun x70 => some ((x70.1.1, x70.1.2.1, x70.1.2.2.1, ()), (⟨x3.2.1.Name, x3.2.1.Kind, x3.2.1.Line, ⟨x70.2.1.At.X, x70.2.1.At.Y⟩, x3.2.1.Heading, x3.2.1.Tilt, x66.2.1⟩ : Device), ())) (some ((x67.1.1, x67.1.2.1, x67.1.2.2.1, ()), (⟨x3.2.1.Name, x3.2.1.Kind, x3.2.1.Line, ⟨x3.2.1.At.X, x3.2.1.At.Y⟩, x3.2.1.Heading, x3.2.1.Tilt, x66.2.1⟩ : Device), ()))))) (cond (decide (x4.2.1 = 5)) ((f117 ((x4.1.1, x4.1.2.1, x4.1.2.2.1, ()), ())).bind fun x71 => (f116 ((x71.1.1, x71.1.2.1, x71.1.2.2.1, ()), 12, ())).bind fun x72 => cond (decide (x72.2.1 = 0)) ((f193 ((x72.1.1, x72.1.2.1, x72.1.2.2.1, ()), ())).bind fun x73 => some ((x73.1.1, x73.1.2.1, x73.1.2.2.1, ()), (⟨x73.2.1, x71.2.1, x3.2.1.Line, ⟨x3.2.1.At.X, x3.2.1.At.Y⟩, x3.2.1.Heading, x3.2.1.Tilt, x3.2.1.Most⟩ : Device), ())) (cond (decide (x72.2.1 = 1)) ((f117 ((x72.1.1, x72.1.2.1, x72.1.2.2.1, ()), ())).bind fun x74 => some ((x74.1.1, x74.1.2.1, x74.1.2.2.1, ()), (⟨x3.2.1.Name, x71.2.1, x3.2.1.Line, ⟨x3.2.1.At.X, x3.2.1.At.Y⟩, x3.2.1.Heading, x74.2.1, x3.2.1.Most⟩ : Device), ())) (cond (decide (x72.2.1 = 2)) ((f194 ((x72.1.1, x72.1.2.1, x72.1.2.2.1, ()), ())).bind fun x75 => some ((x75.1.1, x75.1.2.1, x75.1.2.2.1, ()), (⟨x3.2.1.Name, x71.2.1, x3.2.1.Line, ⟨x75.2.1.At.X, x75.2.1.At.Y⟩, x3.2.1.Heading, x3.2.1.Tilt, x3.2.1.Most⟩ : Device), ())) (some ((x72.1.1, x72.1.2.1, x72.1.2.2.1, ()), (⟨x3.2.1.Name, x71.2.1, x3.2.1.Line, ⟨x3.2.1.At.X, x3.2.1.At.Y⟩, x3.2.1.Heading, x3.2.1.Tilt, x3.2.1.Most⟩ : Device), ()))))) ((f116 ((x4.1.1, x4.1.2.1, x4.1.2.2.1, ()), 12, ())).bind fun x76 => cond (decide (x76.2.1 = 0)) ((f193 ((x76.1.1, x76.1.2.1, x76.1.2.2.1, ()), ())).bind fun x77 => some ((x77.1.1, x77.1.2.1, x77.1.2.2.1, ()), (⟨x77.2.1, x3.2.1.Kind, x3.2.1.Line, ⟨x3.2.1.At.X, x3.2.1.At.Y⟩, x3.2.1.Heading, x3.2.1.Tilt, x3.2.1.Most⟩ : Device), ())) (cond (decide (x76.2.1 = 1)) ((f117 ((x76.1.1, x76.1.2.1, x76.1.2.2.1, ()), ())).bind fun x78 => some ((x78.1.1, x78.1.2.1, x78.1.2.2.1, ()), (⟨x3.2.1.Name, x3.2.1.Kind, x3.2.1.Line, ⟨x3.2.1.At.X, x3.2.1.At.Y⟩, x3.2.1.Heading, x78.2.1, x3.2.1.Most⟩ : Device), ())) (cond (decide (x76.2.1 = 2)) ((f194 ((x76.1.1, x76.1.2.1, x76.1.2.2.1, ()), ())).bind fun x79 => some ((x79.1.1, x79.1.2.1, x79.1.2.2.1, ()), (⟨x3.2.1.Name, x3.2.1.Kind, x3.2.1.Line, ⟨x79.2.1.At.X, x79.2.1.At.Y⟩, x3.2.1.Heading, x3.2.1.Tilt, x3.2.1.Most⟩ : Device), ())) (some ((x76.1.1, x76.1.2.1, x76.1.2.2.1, ()), x3.2.1, ())))))))) (cond (decide (x4.2.1 = 3)) ((f191 ((x4.1.1, x4.1.2.1, x4.1.2.2.1, ()), ())).bind fun x80 => (f191 ((x80.1.1, x80.1.2.1, x80.1.2.2.1, ()), ())).bind fun x81 => (f192 ((x81.1.1, x81.1.2.1, x81.1.2.2.1, ()), ())).bind fun x82 => (f116 ((x82.1.1, x82.1.2.1, x82.1.2.2.1, ()), 12, ())).bind fun x83 => cond (decide (x83.2.1 = 0)) ((f193 ((x83.1.1, x83.1.2.1, x83.1.2.2.1, ()), ())).bind fun x84 => some ((x84.1.1, x84.1.2.1, x84.1.2.2.1, ()), (⟨x84.2.1, 3, x81.2.1, ⟨x82.2.1.X, x82.2.1.Y⟩, 0, 0, 0⟩ : Device), ())) (cond (decide (x83.2.1 = 1)) ((f117 ((x83.1.1, x83.1.2.1, x83.1.2.2.1, ()), ())).bind fun x85 => some ((x85.1.1, x85.1.2.1, x85.1.2.2.1, ()), (⟨x80.2.1, 3, x81.2.1, ⟨x82.2.1.X, x82.2.1.Y⟩, 0, x85.2.1, 0⟩ : Device), ())) (cond (decide (x83.2.1 = 2)) ((f194 ((x83.1.1, x83.1.2.1, x83.1.2.2.1, ()), ())).bind fun x86 => some ((x86.1.1, x86.1.2.1, x86.1.2.2.1, ()), (⟨x80.2.1, 3, x81.2.1, ⟨x86.2.1.At.X, x86.2.1.At.Y⟩, 0, 0, 0⟩ : Device), ())) (some ((x83.1.1, x83.1.2.1, x83.1.2.2.1, ()), (⟨x80.2.1, 3, x81.2.1, ⟨x82.2.1.X, x82.2.1.Y⟩, 0, 0, 0⟩ : Device), ()))))) (cond (decide (x4.2.1 = 4)) ((f117 ((x4.1.1, x4.1.2.1, x4.1.2.2.1, ()), ())).bind fun x87 => (f116 ((x87.1.1, x87.1.2.1, x87.1.2.2.1, ()), 12, ())).bind fun x88 => cond (decide (x88.2.1 = 0)) ((f193 ((x88.1.1, x88.1.2.1, x88.1.2.2.1, ()), ())).bind fun x89 => some ((x89.1.1, x89.1.2.1, x89.1.2.2.1, ()), (⟨x89.2.1, x3.2.1.Kind, x3.2.1.Line, ⟨x3.2.1.At.X, x3.2.1.At.Y⟩, x3.2.1.Heading, x3.2.1.Tilt, x87.2.1⟩ : Device), ())) (cond (decide (x88.2.1 = 1)) ((f117 ((x88.1.1, x88.1.2.1, x88.1.2.2.1, ()), ())).bind fun x90 => some ((x90.1.1, x90.1.2.1, x90.1.2.2.1, ()), (⟨x3.2.1.Name, x3.2.1.Kind, x3.2.1.Line, ⟨x3.2.1.At.X, x3.2.1.At.Y⟩, x3.2.1.Heading, x90.2.1, x87.2.1⟩ : Device), ())) (cond (decide (x88.2.1 = 2)) ((f194 ((x88.1.1, x88.1.2.1, x88.1.2.2.1, ()), ())).bind fun x91 => some ((x91.1.1, x91.1.2.1, x91.1.2.2.1, ()), (⟨x3.2.1.Name, x3.2.1.Kind, x3.2.1.Line, ⟨x91.2.1.At.X, x91.2.1.At.Y⟩, x3.2.1.Heading, x3.2.1.Tilt, x87.2.1⟩ : Device), ())) (some ((x88.1.1, x88.1.2.1, x88.1.2.2.1, ()), (⟨x3.2.1.Name, x3.2.1.Kind, x3.2.1.Line, ⟨x3.2.1.At.X, x3.2.1.At.Y⟩, x3.2.1.Heading, x3.2.1.Tilt, x87.2.1⟩ : Device), ()))))) (cond (decide (x4.2.1 = 5)) ((f117 ((x4.1.1, x4.1.2.1, x4.1.2.2.1, ()), ())).bind fun x92 => (f116 ((x92.1.1, x92.1.2.1, x92.1.2.2.1, ()), 12, ())).bind fun x93 => cond (decide (x93.2.1 = 0)) ((f193 ((x93.1.1, x93.1.2.1, x93.1.2.2.1, ()), ())).bind fun x94 => some ((x94.1.1, x94.1.2.1, x94.1.2.2.1, ()), (⟨x94.2.1, x92.2.1, x3.2.1.Line, ⟨x3.2.1.At.X, x3.2.1.At.Y⟩, x3.2.1.Heading, x3.2.1.Tilt, x3.2.1.Most⟩ : Device), ())) (cond (decide (x93.2.1 = 1)) ((f117 ((x93.1.1, x93.1.2.1, x93.1.2.2.1, ()), ())).bind fun x95 => some ((x95.1.1, x95.1.2.1, x95.1.2.2.1, ()), (⟨x3.2.1.Name, x92.2.1, x3.2.1.Line, ⟨x3.2.1.At.X, x3.2.1.At.Y⟩, x3.2.1.Heading, x95.2.1, x3.2.1.Most⟩ : Device), ())) (cond (decide (x93.2.1 = 2)) ((f194 ((x93.1.1, x93.1.2.1, x93.1.2.2.1, ()), ())).bind fun x96 => some ((x96.1.1, x96.1.2.1, x96.1.2.2.1, ()), (⟨x3.2.1.Name, x92.2.1, x3.2.1.Line, ⟨x96.2.1.At.X, x96.2.1.At.Y⟩, x3.2.1.Heading, x3.2.1.Tilt, x3.2.1.Most⟩ : Device), ())) (some ((x93.1.1, x93.1.2.1, x93.1.2.2.1, ()), (⟨x3.2.1.Name, x92.2.1, x3.2.1.Line, ⟨x3.2.1.At.X, x3.2.1.At.Y⟩, x3.2.1.Heading, x3.2.1.Tilt, x3.2.1.Most⟩ : Device), ()))))) ((f116 ((x4.1.1, x4.1.2.1, x4.1.2.2.1, ()), 12, ())).bind fun x97 => cond (decide (x97.2.1 = 0)) ((f193 ((x97.1.1, x97.1.2.1, x97.1.2.2.1, ()), ())).bind fun x98 => some ((x98.1.1, x98.1.2.1, x98.1.2.2.1, ()), (⟨x98.2.1, x3.2.1.Kind, x3.2.1.Line, ⟨x3.2.1.At.X, x3.2.1.At.Y⟩, x3.2.1.Heading, x3.2.1.Tilt, x3.2.1.Most⟩ : Device), ())) (cond (decide (x97.2.1 = 1)) ((f117 ((x97.1.1, x97.1.2.1, x97.1.2.2.1, ()), ())).bind fun x99 => some ((x99.1.1, x99.1.2.1, x99.1.2.2.1, ()), (⟨x3.2.1.Name, x3.2.1.Kind, x3.2.1.Line, ⟨x3.2.1.At.X, x3.2.1.At.Y⟩, x3.2.1.Heading, x99.2.1, x3.2.1.Most⟩ : Device), ())) (cond (decide (x97.2.1 = 2)) ((f194 ((x97.1.1, x97.1.2.1, x97.1.2.2.1, ()), ())).bind fun x100 => some ((x100.1.1, x100.1.2.1, x100.1.2.2.1, ()), (⟨x3.2.1.Name, x3.2.1.Kind, x3.2.1.Line, ⟨x100.2.1.At.X, x100.2.1.At.Y⟩, x3.2.1.Heading, x3.2.1.Tilt, x3.2.1.Most⟩ : Device), ())) (some ((x97.1.1, x97.1.2.1, x97.1.2.2.1, ()), x3.2.1, ()))))))))))
def E155 (f191 : T191) (f185 : T185) (f116 : T116) (f193 : T193) (f117 : T117) (f194 : T194) (f192 : T192) : Env := envL [(191, N191 f191), (185, N185 f185), (116, N116 f116), (193, N193 f193), (117, N117 f117), (194, N194 f194), (192, N192 f192)]
noncomputable def L155 (f191 : T191) (f185 : T185) (f116 : T116) (f193 : T193) (f117 : T117) (f194 : T194) (f192 : T192) : LEnv (densS (muts p155 ++ r155)) := lenv []
theorem e155 (f191 : T191) (f185 : T185) (f116 : T116) (f193 : T193) (f117 : T117) (f194 : T194) (f192 : T192) (a : densS p155) : runF (E155 f191 f185 f116 f193 f117 f194 f192) tab (fun _ => false) p155 r155 Proofs.Tryz.f155 (L155 f191 f185 f116 f193 f117 f194 f192) a = F155 f191 f185 f116 f193 f117 f194 f192 a := by kernel_rfl
theorem ok155 {f191 : T191} {f185 : T185} {f116 : T116} {f193 : T193} {f117 : T117} {f194 : T194} {f192 : T192} (h191 : OK Proofs.Tryz.prog 191 (N191 f191)) (h185 : OK Proofs.Tryz.prog 185 (N185 f185)) (h116 : OK Proofs.Tryz.prog 116 (N116 f116)) (h193 : OK Proofs.Tryz.prog 193 (N193 f193)) (h117 : OK Proofs.Tryz.prog 117 (N117 f117)) (h194 : OK Proofs.Tryz.prog 194 (N194 f194)) (h192 : OK Proofs.Tryz.prog 192 (N192 f192)) : OK Proofs.Tryz.prog 155 (mkE p155 r155 true (F155 f191 f185 f116 f193 f117 f194 f192)) :=
  fn_ok (E := E155 f191 f185 f116 f193 f117 f194 f192) tab_ok (envL_ok (OKs.cons h191 (OKs.cons h185 (OKs.cons h116 (OKs.cons h193 (OKs.cons h117 (OKs.cons h194 (OKs.cons h192 OKs.nil)))))))) mixed (ann := (fun _ => false)) (L := L155 f191 f185 f116 f193 f117 f194 f192) (fn := Proofs.Tryz.f155) (c := bodyC Proofs.Tryz.f155) (ls := []) Proofs.Tryz.func155 (by kernel_rfl) (by kernel_rfl) (by kernel_rfl) (by kernel_rfl)
    LoopsP.nil (e155 f191 f185 f116 f193 f117 f194 f192)
/-! spec.l6List -/
def p118 : List SP := [.box 0 [.r .u8, .int .i64, .int .i64]]
def r118 : List SP := [.one (.o 1 .device)]
abbrev T118 := CuD × Unit → Option (CuD × List Device × Unit)
abbrev N118 (f : T118) : Entry := mkE p118 r118 true f
def q118_1 : List SP := pat 36 0 [(0, .box 0 [.r .u8, .int .i64, .int .i64]), (3, .one (.o 5001001 .device)), (23, .one (.o 5001002 .str)), (24, .one (.int .i64)), (25, .one (.int .i64))]
noncomputable def s118_1 (f150 : T150) (f116 : T116) (f155 : T155) (t4 : CuD × List Device × List Str × Int × Int × Unit) (rec K : CuD × List Device × List Str × Int × Int × Unit → Option (CuD × List Device × Unit)) : Option (CuD × List Device × Unit) :=
  cond (decide (t4.2.2.2.2.1 < t4.2.2.2.1)) (rdL t4.2.2.1 t4.2.2.2.2.1 fun _ => (t4.2.2.1[(Int.toNat t4.2.2.2.2.1)]?).bind fun d5 => capK (List.length t4.2.1 + List.length ([(⟨d5, 1, [], ⟨0, 0⟩, 0, 0, 0⟩ : Device)] : List Device)) (rec ((t4.1.1, t4.1.2.1, t4.1.2.2.1, ()), (t4.2.1 ++ ([(⟨d5, 1, [], ⟨0, 0⟩, 0, 0, 0⟩ : Device)] : List Device)), t4.2.2.1, t4.2.2.2.1, (w64 (t4.2.2.2.2.1 + 1)), ()))) (K ((t4.1.1, t4.1.2.1, t4.1.2.2.1, ()), t4.2.1, t4.2.2.1, t4.2.2.2.1, t4.2.2.2.2.1, ()))
noncomputable def F118 (f150 : T150) (f116 : T116) (f155 : T155) (a : CuD × Unit) : Option (CuD × List Device × Unit) :=
  (f150 ((a.1.1, a.1.2.1, a.1.2.2.1, ()), ())).bind fun x1 => (f116 ((x1.1.1, x1.1.2.1, x1.1.2.2.1, ()), 12, ())).bind fun x2 => cond (decide (x2.2.1 = 0)) ((f155 ((x2.1.1, x2.1.2.1, x2.1.2.2.1, ()), ())).bind fun x3 => capK (List.length x1.2.1 + List.length ([x3.2.1] : List Device)) (some ((x3.1.1, x3.1.2.1, x3.1.2.2.1, ()), (x1.2.1 ++ ([x3.2.1] : List Device)), ()))) (cond (decide (x2.2.1 = 1)) (okIf ((0 : Int) ≤ 1 ∧ (1 : Int) ≤ List.length x1.2.1) (some ((x2.1.1, x2.1.2.1, x2.1.2.2.1, ()), (List.drop (Int.toNat 1) x1.2.1), ()))) (cond (decide (x2.2.1 = 2)) (iterF (s118_1 f150 f116 f155) fuel ((x2.1.1, x2.1.2.1, x2.1.2.2.1, ()), x1.2.1, ([[115], [116], [117], [118], [119], [120]] : List Str), (Int.ofNat (List.length ([[115], [116], [117], [118], [119], [120]] : List Str))), 0, ()) fun t6 => some ((t6.1.1, t6.1.2.1, t6.1.2.2.1, ()), t6.2.1, ())) (some ((x2.1.1, x2.1.2.1, x2.1.2.2.1, ()), x1.2.1, ()))))
def E118 (f150 : T150) (f116 : T116) (f155 : T155) : Env := envL [(150, N150 f150), (116, N116 f116), (155, N155 f155)]
noncomputable def L118 (f150 : T150) (f116 : T116) (f155 : T155) : LEnv (densS (muts p118 ++ r118)) := lenv [(1, loopL (R := densS (muts p118 ++ r118)) q118_1 (s118_1 f150 f116 f155))]
theorem e118_1 (f150 : T150) (f116 : T116) (f155 : T155) (X : Nat → St → Option (densS (muts p118 ++ r118))) (rec K : densS q118_1 → Option (densS (muts p118 ++ r118))) (t : densS q118_1) :
    ev (E118 f150 f116 f155) tab (fun n => Nat.beq n 120) (L118 f150 f116 f155) (retK tab p118 r118 Proofs.Tryz.f118.results.toList) (loopC Proofs.Tryz.f118 0) (fun i s => cond (Nat.beq i 1) (decK 100 q118_1 s K) (X i s)) (fun s => decK 100 q118_1 s rec) (enc q118_1 t) = s118_1 f150 f116 f155 t rec K := by kernel_rfl
theorem e118 (f150 : T150) (f116 : T116) (f155 : T155) (a : densS p118) : runF (E118 f150 f116 f155) tab (fun n => Nat.beq n 120) p118 r118 Proofs.Tryz.f118 (L118 f150 f116 f155) a = F118 f150 f116 f155 a := by kernel_rfl
theorem ok118 {f150 : T150} {f116 : T116} {f155 : T155} (h150 : OK Proofs.Tryz.prog 150 (N150 f150)) (h116 : OK Proofs.Tryz.prog 116 (N116 f116)) (h155 : OK Proofs.Tryz.prog 155 (N155 f155)) : OK Proofs.Tryz.prog 118 (mkE p118 r118 true (F118 f150 f116 f155)) :=
  fn_ok (E := E118 f150 f116 f155) tab_ok (envL_ok (OKs.cons h150 (OKs.cons h116 (OKs.cons h155 OKs.nil)))) mixed (ann := (fun n => Nat.beq n 120)) (L := L118 f150 f116 f155) (fn := Proofs.Tryz.f118) (c := bodyC Proofs.Tryz.f118) (ls := [(1, loopC Proofs.Tryz.f118 0)]) Proofs.Tryz.func118 (by kernel_rfl) (by kernel_rfl) (by kernel_rfl) (by kernel_rfl)
    (LoopsP.cons q118_1 (s118_1 f150 f116 f155) rfl (e118_1 f150 f116 f155) LoopsP.nil) (e118 f150 f116 f155)
/-! spec.l7Draw -/
def p156 : List SP := [.box 0 [.r .u8, .int .i64, .int .i64], .one (.int .i64)]
def r156 : List SP := [.one (.o 1 .cue)]
abbrev T156 := CuD × Int × Unit → Option (CuD × List Cue × Unit)
abbrev N156 (f : T156) : Entry := mkE p156 r156 true f
def q156_0 : List SP := pat 24 0 [(0, .box 0 [.r .u8, .int .i64, .int .i64]), (5, .one (.o 5000001 .cue)), (6, .one (.int .i64))]
noncomputable def s156_0 (f116 : T116) (f152 : T152) (f153 : T153) (t2 : CuD × List Cue × Int × Unit) (rec K : CuD × List Cue × Int × Unit → Option (CuD × List Cue × Unit)) : Option (CuD × List Cue × Unit) :=
  cond (decide (t2.2.2.1 > 0)) ((f152 ((t2.1.1, t2.1.2.1, t2.1.2.2.1, ()), ())).bind fun x3 => (f153 (t2.2.1, x3.2.1, ())).bind fun x4 => rec ((x3.1.1, x3.1.2.1, x3.1.2.2.1, ()), x4.1, (w64 (t2.2.2.1 - 1)), ())) (K ((t2.1.1, t2.1.2.1, t2.1.2.2.1, ()), t2.2.1, t2.2.2.1, ()))
noncomputable def F156 (f116 : T116) (f152 : T152) (f153 : T153) (a : CuD × Int × Unit) : Option (CuD × List Cue × Unit) :=
  (f116 ((a.1.1, a.1.2.1, a.1.2.2.1, ()), (w64 (a.2.1 + 1)), ())).bind fun x1 => iterF (s156_0 f116 f152 f153) fuel ((x1.1.1, x1.1.2.1, x1.1.2.2.1, ()), ([] : List Cue), x1.2.1, ()) fun t5 => some ((t5.1.1, t5.1.2.1, t5.1.2.2.1, ()), t5.2.1, ())
def E156 (f116 : T116) (f152 : T152) (f153 : T153) : Env := envL [(116, N116 f116), (152, N152 f152), (153, N153 f153)]
noncomputable def L156 (f116 : T116) (f152 : T152) (f153 : T153) : LEnv (densS (muts p156 ++ r156)) := lenv [(0, loopL (R := densS (muts p156 ++ r156)) q156_0 (s156_0 f116 f152 f153))]
theorem e156_0 (f116 : T116) (f152 : T152) (f153 : T153) (X : Nat → St → Option (densS (muts p156 ++ r156))) (rec K : densS q156_0 → Option (densS (muts p156 ++ r156))) (t : densS q156_0) :
    ev (E156 f116 f152 f153) tab (fun _ => false) (L156 f116 f152 f153) (retK tab p156 r156 Proofs.Tryz.f156.results.toList) (loopC Proofs.Tryz.f156 0) (fun i s => cond (Nat.beq i 0) (decK 100 q156_0 s K) (X i s)) (fun s => decK 100 q156_0 s rec) (enc q156_0 t) = s156_0 f116 f152 f153 t rec K := by kernel_rfl
theorem e156 (f116 : T116) (f152 : T152) (f153 : T153) (a : densS p156) : runF (E156 f116 f152 f153) tab (fun _ => false) p156 r156 Proofs.Tryz.f156 (L156 f116 f152 f153) a = F156 f116 f152 f153 a := by kernel_rfl
theorem ok156 {f116 : T116} {f152 : T152} {f153 : T153} (h116 : OK Proofs.Tryz.prog 116 (N116 f116)) (h152 : OK Proofs.Tryz.prog 152 (N152 f152)) (h153 : OK Proofs.Tryz.prog 153 (N153 f153)) : OK Proofs.Tryz.prog 156 (mkE p156 r156 true (F156 f116 f152 f153)) :=
  fn_ok (E := E156 f116 f152 f153) tab_ok (envL_ok (OKs.cons h116 (OKs.cons h152 (OKs.cons h153 OKs.nil)))) mixed (ann := (fun _ => false)) (L := L156 f116 f152 f153) (fn := Proofs.Tryz.f156) (c := bodyC Proofs.Tryz.f156) (ls := [(0, loopC Proofs.Tryz.f156 0)]) Proofs.Tryz.func156 (by kernel_rfl) (by kernel_rfl) (by kernel_rfl) (by kernel_rfl)
    (LoopsP.cons q156_0 (s156_0 f116 f152 f153) rfl (e156_0 f116 f152 f153) LoopsP.nil) (e156 f116 f152 f153)
/-! spec.l7Any -/
def p157 : List SP := [.box 0 [.r .u8, .int .i64, .int .i64]]
def r157 : List SP := [.t .cue]
abbrev T157 := CuD × Unit → Option (CuD × Cue × Unit)
abbrev N157 (f : T157) : Entry := mkE p157 r157 true f
noncomputable def F157 (f152 : T152) (f116 : T116) (f117 : T117) (f193 : T193) (f121 : T121) (a : CuD × Unit) : Option (CuD × Cue × Unit) :=
  (f152 ((a.1.1, a.1.2.1, a.1.2.2.1, ()), ())).bind fun x1 => (f116 ((x1.1.1, x1.1.2.1, x1.1.2.2.1, ()), 12, ())).bind fun x2 => cond (decide (x2.2.1 = 0)) ((f117 ((x2.1.1, x2.1.2.1, x2.1.2.2.1, ()), ())).bind fun x3 => some ((x3.1.1, x3.1.2.1, x3.1.2.2.1, ()), (⟨x3.2.1, x1.2.1.Name, x1.2.1.Level, x1.2.1.Ramp⟩ : Cue), ())) (cond (decide (x2.2.1 = 1)) ((f193 ((x2.1.1, x2.1.2.1, x2.1.2.2.1, ()), ())).bind fun x4 => some ((x4.1.1, x4.1.2.1, x4.1.2.2.1, ()), (⟨x1.2.1.Tick, x4.2.1, x1.2.1.Level, x1.2.1.Ramp⟩ : Cue), ())) (cond (decide (x2.2.1 = 2)) ((f121 ((x2.1.1, x2.1.2.1, x2.1.2.2.1, ()), ([(-1), 32, 33, 1000] : List Int), ())).bind fun x5 => some ((x5.1.1, x5.1.2.1, x5.1.2.2.1, ()), (⟨x1.2.1.Tick, x1.2.1.Name, x5.2.1, x1.2.1.Ramp⟩ : Cue), ())) (cond (decide (x2.2.1 = 3)) ((f117 ((x2.1.1, x2.1.2.1, x2.1.2.2.1, ()), ())).bind fun x6 => some ((x6.1.1, x6.1.2.1, x6.1.2.2.1, ()), (⟨x1.2.1.Tick, x1.2.1.Name, x1.2.1.Level, x6.2.1⟩ : Cue), ())) (some ((x2.1.1, x2.1.2.1, x2.1.2.2.1, ()), x1.2.1, ())))))
def E157 (f152 : T152) (f116 : T116) (f117 : T117) (f193 : T193) (f121 : T121) : Env := envL [(152, N152 f152), (116, N116 f116), (117, N117 f117), (193, N193 f193), (121, N121 f121)]
noncomputable def L157 (f152 : T152) (f116 : T116) (f117 : T117) (f193 : T193) (f121 : T121) : LEnv (densS (muts p157 ++ r157)) := lenv []
theorem e157 (f152 : T152) (f116 : T116) (f117 : T117) (f193 : T193) (f121 : T121) (a : densS p157) : runF (E157 f152 f116 f117 f193 f121) tab (fun _ => false) p157 r157 Proofs.Tryz.f157 (L157 f152 f116 f117 f193 f121) a = F157 f152 f116 f117 f193 f121 a := by kernel_rfl
theorem ok157 {f152 : T152} {f116 : T116} {f117 : T117} {f193 : T193} {f121 : T121} (h152 : OK Proofs.Tryz.prog 152 (N152 f152)) (h116 : OK Proofs.Tryz.prog 116 (N116 f116)) (h117 : OK Proofs.Tryz.prog 117 (N117 f117)) (h193 : OK Proofs.Tryz.prog 193 (N193 f193)) (h121 : OK Proofs.Tryz.prog 121 (N121 f121)) : OK Proofs.Tryz.prog 157 (mkE p157 r157 true (F157 f152 f116 f117 f193 f121)) :=
  fn_ok (E := E157 f152 f116 f117 f193 f121) tab_ok (envL_ok (OKs.cons h152 (OKs.cons h116 (OKs.cons h117 (OKs.cons h193 (OKs.cons h121 OKs.nil)))))) mixed (ann := (fun _ => false)) (L := L157 f152 f116 f117 f193 f121) (fn := Proofs.Tryz.f157) (c := bodyC Proofs.Tryz.f157) (ls := []) Proofs.Tryz.func157 (by kernel_rfl) (by kernel_rfl) (by kernel_rfl) (by kernel_rfl)
    LoopsP.nil (e157 f152 f116 f117 f193 f121)
/-! spec.l7List -/
def p119 : List SP := [.box 0 [.r .u8, .int .i64, .int .i64]]
def r119 : List SP := [.one (.o 1 .cue)]
abbrev T119 := CuD × Unit → Option (CuD × List Cue × Unit)
abbrev N119 (f : T119) : Entry := mkE p119 r119 true f
def q119_1 : List SP := pat 36 0 [(0, .box 0 [.r .u8, .int .i64, .int .i64]), (3, .one (.o 5001001 .cue)), (4, .one (.int .i64))]
noncomputable def s119_1 (f156 : T156) (f116 : T116) (f157 : T157) (f121 : T121) (t4 : CuD × List Cue × Int × Unit) (rec K : CuD × List Cue × Int × Unit → Option (CuD × List Cue × Unit)) : Option (CuD × List Cue × Unit) :=
  cond (decide ((Int.ofNat (List.length t4.2.1)) < 13)) (capK (List.length t4.2.1 + List.length ([(⟨(w64 (30 + t4.2.2.1)), [97], t4.2.2.1, 0⟩ : Cue)] : List Cue)) (rec ((t4.1.1, t4.1.2.1, t4.1.2.2.1, ()), (t4.2.1 ++ ([(⟨(w64 (30 + t4.2.2.1)), [97], t4.2.2.1, 0⟩ : Cue)] : List Cue)), (w64 (t4.2.2.1 + 1)), ()))) (K ((t4.1.1, t4.1.2.1, t4.1.2.2.1, ()), t4.2.1, t4.2.2.1, ()))
noncomputable def F119 (f156 : T156) (f116 : T116) (f157 : T157) (f121 : T121) (a : CuD × Unit) : Option (CuD × List Cue × Unit) :=
  (f156 ((a.1.1, a.1.2.1, a.1.2.2.1, ()), 7, ())).bind fun x1 => (f116 ((x1.1.1, x1.1.2.1, x1.1.2.2.1, ()), 14, ())).bind fun x2 => cond (decide (x2.2.1 = 0)) ((f157 ((x2.1.1, x2.1.2.1, x2.1.2.2.1, ()), ())).bind fun x3 => capK (List.length x1.2.1 + List.length ([x3.2.1] : List Cue)) (some ((x3.1.1, x3.1.2.1, x3.1.2.2.1, ()), (x1.2.1 ++ ([x3.2.1] : List Cue)), ()))) (cond (decide (x2.2.1 = 1)) (iterF (s119_1 f156 f116 f157 f121) fuel ((x2.1.1, x2.1.2.1, x2.1.2.2.1, ()), x1.2.1, 0, ()) fun t5 => (f121 ((t5.1.1, t5.1.2.1, t5.1.2.2.1, ()), ([12, 13] : List Int), ())).bind fun x6 => okIf ((0 : Int) ≤ x6.2.1 ∧ (x6.2.1 : Int) ≤ List.length t5.2.1) (some ((x6.1.1, x6.1.2.1, x6.1.2.2.1, ()), (List.take (Int.toNat x6.2.1) t5.2.1), ()))) (some ((x2.1.1, x2.1.2.1, x2.1.2.2.1, ()), x1.2.1, ())))
def E119 (f156 : T156) (f116 : T116) (f157 : T157) (f121 : T121) : Env := envL [(156, N156 f156), (116, N116 f116), (157, N157 f157), (121, N121 f121)]
noncomputable def L119 (f156 : T156) (f116 : T116) (f157 : T157) (f121 : T121) : LEnv (densS (muts p119 ++ r119)) := lenv [(1, loopL (R := densS (muts p119 ++ r119)) q119_1 (s119_1 f156 f116 f157 f121))]
theorem e119_1 (f156 : T156) (f116 : T116) (f157 : T157) (f121 : T121) (X : Nat → St → Option (densS (muts p119 ++ r119))) (rec K : densS q119_1 → Option (densS (muts p119 ++ r119))) (t : densS q119_1) :
    ev (E119 f156 f116 f157 f121) tab (fun n => Nat.beq n 134) (L119 f156 f116 f157 f121) (retK tab p119 r119 Proofs.Tryz.f119.results.toList) (loopC Proofs.Tryz.f119 0) (fun i s => cond (Nat.beq i 1) (decK 100 q119_1 s K) (X i s)) (fun s => decK 100 q119_1 s rec) (enc q119_1 t) = s119_1 f156 f116 f157 f121 t rec K := by kernel_rfl
theorem e119 (f156 : T156) (f116 : T116) (f157 : T157) (f121 : T121) (a : densS p119) : runF (E119 f156 f116 f157 f121) tab (fun n => Nat.beq n 134) p119 r119 Proofs.Tryz.f119 (L119 f156 f116 f157 f121) a = F119 f156 f116 f157 f121 a := by kernel_rfl
theorem ok119 {f156 : T156} {f116 : T116} {f157 : T157} {f121 : T121} (h156 : OK Proofs.Tryz.prog 156 (N156 f156)) (h116 : OK Proofs.Tryz.prog 116 (N116 f116)) (h157 : OK Proofs.Tryz.prog 157 (N157 f157)) (h121 : OK Proofs.Tryz.prog 121 (N121 f121)) : OK Proofs.Tryz.prog 119 (mkE p119 r119 true (F119 f156 f116 f157 f121)) :=
  fn_ok (E := E119 f156 f116 f157 f121) tab_ok (envL_ok (OKs.cons h156 (OKs.cons h116 (OKs.cons h157 (OKs.cons h121 OKs.nil))))) mixed (ann := (fun n => Nat.beq n 134)) (L := L119 f156 f116 f157 f121) (fn := Proofs.Tryz.f119) (c := bodyC Proofs.Tryz.f119) (ls := [(1, loopC Proofs.Tryz.f119 0)]) Proofs.Tryz.func119 (by kernel_rfl) (by kernel_rfl) (by kernel_rfl) (by kernel_rfl)
    (LoopsP.cons q119_1 (s119_1 f156 f116 f157 f121) rfl (e119_1 f156 f116 f157 f121) LoopsP.nil) (e119 f156 f116 f157 f121)
/-! spec.l4Any -/
def p120 : List SP := [.box 0 [.r .u8, .int .i64, .int .i64]]
def r120 : List SP := [.one (.o 1 .gust)]
abbrev T120 := CuD × Unit → Option (CuD × List Gust × Unit)
abbrev N120 (f : T120) : Entry := mkE p120 r120 true f
def q120_1 : List SP := pat 51 0 [(0, .box 0 [.r .u8, .int .i64, .int .i64]), (3, .one (.o 5001001 .gust)), (4, .one (.int .i64))]
noncomputable def s120_1 (f151 : T151) (f116 : T116) (f117 : T117) (f124 : T124) (f121 : T121) (t6 : CuD × List Gust × Int × Unit) (rec K : CuD × List Gust × Int × Unit → Option (CuD × List Gust × Unit)) : Option (CuD × List Gust × Unit) :=
  cond (decide (t6.2.2.1 < 9)) ((f124 ((t6.1.1, t6.1.2.1, t6.1.2.2.1, ()), ())).bind fun x7 => capK (List.length t6.2.1 + List.length ([(⟨(w64 (50 + t6.2.2.1)), ⟨x7.2.1.X, x7.2.1.Y⟩⟩ : Gust)] : List Gust)) (rec ((x7.1.1, x7.1.2.1, x7.1.2.2.1, ()), (t6.2.1 ++ ([(⟨(w64 (50 + t6.2.2.1)), ⟨x7.2.1.X, x7.2.1.Y⟩⟩ : Gust)] : List Gust)), (w64 (t6.2.2.1 + 1)), ()))) (K ((t6.1.1, t6.1.2.1, t6.1.2.2.1, ()), t6.2.1, t6.2.2.1, ()))
noncomputable def F120 (f151 : T151) (f116 : T116) (f117 : T117) (f124 : T124) (f121 : T121) (a : CuD × Unit) : Option (CuD × List Gust × Unit) :=
  (f151 ((a.1.1, a.1.2.1, a.1.2.2.1, ()), ())).bind fun x1 => (f116 ((x1.1.1, x1.1.2.1, x1.1.2.2.1, ()), 12, ())).bind fun x2 => cond (decide (x2.2.1 = 0)) ((f117 ((x2.1.1, x2.1.2.1, x2.1.2.2.1, ()), ())).bind fun x3 => (f124 ((x3.1.1, x3.1.2.1, x3.1.2.2.1, ()), ())).bind fun x4 => capK (List.length x1.2.1 + List.length ([(⟨x3.2.1, ⟨x4.2.1.X, x4.2.1.Y⟩⟩ : Gust)] : List Gust)) (some ((x4.1.1, x4.1.2.1, x4.1.2.2.1, ()), (x1.2.1 ++ ([(⟨x3.2.1, ⟨x4.2.1.X, x4.2.1.Y⟩⟩ : Gust)] : List Gust)), ()))) (cond (decide (x2.2.1 = 1)) ((f121 ((x2.1.1, x2.1.2.1, x2.1.2.2.1, ()), ([8, 9, (-8), (-9)] : List Int), ())).bind fun x5 => capK (List.length x1.2.1 + List.length ([(⟨64, ⟨x5.2.1, 1⟩⟩ : Gust)] : List Gust)) (some ((x5.1.1, x5.1.2.1, x5.1.2.2.1, ()), (x1.2.1 ++ ([(⟨64, ⟨x5.2.1, 1⟩⟩ : Gust)] : List Gust)), ()))) (cond (decide (x2.2.1 = 2)) (iterF (s120_1 f151 f116 f117 f124 f121) fuel ((x2.1.1, x2.1.2.1, x2.1.2.2.1, ()), x1.2.1, (Int.ofNat (List.length x1.2.1)), ()) fun t8 => (f121 ((t8.1.1, t8.1.2.1, t8.1.2.2.1, ()), ([8, 9] : List Int), ())).bind fun x9 => okIf ((0 : Int) ≤ x9.2.1 ∧ (x9.2.1 : Int) ≤ List.length t8.2.1) (some ((x9.1.1, x9.1.2.1, x9.1.2.2.1, ()), (List.take (Int.toNat x9.2.1) t8.2.1), ()))) (some ((x2.1.1, x2.1.2.1, x2.1.2.2.1, ()), x1.2.1, ()))))
def E120 (f151 : T151) (f116 : T116) (f117 : T117) (f124 : T124) (f121 : T121) : Env := envL [(151, N151 f151), (116, N116 f116), (117, N117 f117), (124, N124 f124), (121, N121 f121)]
noncomputable def L120 (f151 : T151) (f116 : T116) (f117 : T117) (f124 : T124) (f121 : T121) : LEnv (densS (muts p120 ++ r120)) := lenv [(1, loopL (R := densS (muts p120 ++ r120)) q120_1 (s120_1 f151 f116 f117 f124 f121))]
theorem e120_1 (f151 : T151) (f116 : T116) (f117 : T117) (f124 : T124) (f121 : T121) (X : Nat → St → Option (densS (muts p120 ++ r120))) (rec K : densS q120_1 → Option (densS (muts p120 ++ r120))) (t : densS q120_1) :
    ev (E120 f151 f116 f117 f124 f121) tab (fun n => Nat.beq n 149) (L120 f151 f116 f117 f124 f121) (retK tab p120 r120 Proofs.Tryz.f120.results.toList) (loopC Proofs.Tryz.f120 0) (fun i s => cond (Nat.beq i 1) (decK 100 q120_1 s K) (X i s)) (fun s => decK 100 q120_1 s rec) (enc q120_1 t) = s120_1 f151 f116 f117 f124 f121 t rec K := by kernel_rfl
theorem e120 (f151 : T151) (f116 : T116) (f117 : T117) (f124 : T124) (f121 : T121) (a : densS p120) : runF (E120 f151 f116 f117 f124 f121) tab (fun n => Nat.beq n 149) p120 r120 Proofs.Tryz.f120 (L120 f151 f116 f117 f124 f121) a = F120 f151 f116 f117 f124 f121 a := by kernel_rfl
theorem ok120 {f151 : T151} {f116 : T116} {f117 : T117} {f124 : T124} {f121 : T121} (h151 : OK Proofs.Tryz.prog 151 (N151 f151)) (h116 : OK Proofs.Tryz.prog 116 (N116 f116)) (h117 : OK Proofs.Tryz.prog 117 (N117 f117)) (h124 : OK Proofs.Tryz.prog 124 (N124 f124)) (h121 : OK Proofs.Tryz.prog 121 (N121 f121)) : OK Proofs.Tryz.prog 120 (mkE p120 r120 true (F120 f151 f116 f117 f124 f121)) :=
  fn_ok (E := E120 f151 f116 f117 f124 f121) tab_ok (envL_ok (OKs.cons h151 (OKs.cons h116 (OKs.cons h117 (OKs.cons h124 (OKs.cons h121 OKs.nil)))))) mixed (ann := (fun n => Nat.beq n 149)) (L := L120 f151 f116 f117 f124 f121) (fn := Proofs.Tryz.f120) (c := bodyC Proofs.Tryz.f120) (ls := [(1, loopC Proofs.Tryz.f120 0)]) Proofs.Tryz.func120 (by kernel_rfl) (by kernel_rfl) (by kernel_rfl) (by kernel_rfl)
    (LoopsP.cons q120_1 (s120_1 f151 f116 f117 f124 f121) rfl (e120_1 f151 f116 f117 f124 f121) LoopsP.nil) (e120 f151 f116 f117 f124 f121)
/-! spec.l9Any -/
def p86 : List SP := [.box 0 [.r .u8, .int .i64, .int .i64]]
def r86 : List SP := [.agg [.o 1 .device, .o 2 .cue, .o 3 .gust, .int .i64]]
abbrev T86 := CuD × Unit → Option (CuD × ShD × Unit)
abbrev N86 (f : T86) : Entry := mkE p86 r86 true f
noncomputable def F86 (f115 : T115) (f116 : T116) (f117 : T117) (f121 : T121) (f122 : T122) (f118 : T118) (f119 : T119) (f120 : T120) (a : CuD × Unit) : Option (CuD × ShD × Unit) :=
  (f115 ((a.1.1, a.1.2.1, a.1.2.2.1, ()), ())).bind fun x1 => (f116 ((x1.1.1, x1.1.2.1, x1.1.2.2.1, ()), 16, ())).bind fun x2 => cond (decide (x2.2.1 = 0)) ((f117 ((x2.1.1, x2.1.2.1, x2.1.2.2.1, ()), ())).bind fun x3 => cond (decide (x3.2.1 > 20)) ((f121 ((x3.1.1, x3.1.2.1, x3.1.2.2.1, ()), ([20, 64, 65] : List Int), ())).bind fun x4 => (f122 (2, (Int.ofNat (List.length x1.2.1.2.1)), ())).bind fun x5 => okIf ((0 : Int) ≤ x5.1 ∧ (x5.1 : Int) ≤ List.length x1.2.1.2.1) (some ((x4.1.1, x4.1.2.1, x4.1.2.2.1, ()), (x1.2.1.1, (List.take (Int.toNat x5.1) x1.2.1.2.1), x1.2.1.2.2.1, x4.2.1, ()), ()))) (some ((x3.1.1, x3.1.2.1, x3.1.2.2.1, ()), (x1.2.1.1, x1.2.1.2.1, x1.2.1.2.2.1, x3.2.1, ()), ()))) (cond (decide (x2.2.1 = 1)) ((f118 ((x2.1.1, x2.1.2.1, x2.1.2.2.1, ()), ())).bind fun x6 => cond (decide (x1.2.1.2.2.2.1 > 20)) ((f121 ((x6.1.1, x6.1.2.1, x6.1.2.2.1, ()), ([20, 64, 65] : List Int), ())).bind fun x7 => (f122 (2, (Int.ofNat (List.length x1.2.1.2.1)), ())).bind fun x8 => okIf ((0 : Int) ≤ x8.1 ∧ (x8.1 : Int) ≤ List.length x1.2.1.2.1) (some ((x7.1.1, x7.1.2.1, x7.1.2.2.1, ()), (x6.2.1, (List.take (Int.toNat x8.1) x1.2.1.2.1), x1.2.1.2.2.1, x7.2.1, ()), ()))) (some ((x6.1.1, x6.1.2.1, x6.1.2.2.1, ()), (x6.2.1, x1.2.1.2.1, x1.2.1.2.2.1, x1.2.1.2.2.2.1, ()), ()))) (cond (decide (x2.2.1 = 2)) ((f119 ((x2.1.1, x2.1.2.1, x2.1.2.2.1, ()), ())).bind fun x9 => cond (decide (x1.2.1.2.2.2.1 > 20)) ((f121 ((x9.1.1, x9.1.2.1, x9.1.2.2.1, ()), ([20, 64, 65] : List Int), ())).bind fun x10 => (f122 (2, (Int.ofNat (List.length x9.2.1)), ())).bind fun x11 => okIf ((0 : Int) ≤ x11.1 ∧ (x11.1 : Int) ≤ List.length x9.2.1) (some ((x10.1.1, x10.1.2.1, x10.1.2.2.1, ()), (x1.2.1.1, (List.take (Int.toNat x11.1) x9.2.1), x1.2.1.2.2.1, x10.2.1, ()), ()))) (some ((x9.1.1, x9.1.2.1, x9.1.2.2.1, ()), (x1.2.1.1, x9.2.1, x1.2.1.2.2.1, x1.2.1.2.2.2.1, ()), ()))) (cond (decide (x2.2.1 = 3)) ((f120 ((x2.1.1, x2.1.2.1, x2.1.2.2.1, ()), ())).bind fun x12 => cond (decide (x1.2.1.2.2.2.1 > 20)) ((f121 ((x12.1.1, x12.1.2.1, x12.1.2.2.1, ()), ([20, 64, 65] : List Int), ())).bind fun x13 => (f122 (2, (Int.ofNat (List.length x1.2.1.2.1)), ())).bind fun x14 => okIf ((0 : Int) ≤ x14.1 ∧ (x14.1 : Int) ≤ List.length x1.2.1.2.1) (some ((x13.1.1, x13.1.2.1, x13.1.2.2.1, ()), (x1.2.1.1, (List.take (Int.toNat x14.1) x1.2.1.2.1), x12.2.1, x13.2.1, ()), ()))) (some ((x12.1.1, x12.1.2.1, x12.1.2.2.1, ()), (x1.2.1.1, x1.2.1.2.1, x12.2.1, x1.2.1.2.2.2.1, ()), ()))) (cond (decide (x1.2.1.2.2.2.1 > 20)) ((f121 ((x2.1.1, x2.1.2.1, x2.1.2.2.1, ()), ([20, 64, 65] : List Int), ())).bind fun x15 => (f122 (2, (Int.ofNat (List.length x1.2.1.2.1)), ())).bind fun x16 => okIf ((0 : Int) ≤ x16.1 ∧ (x16.1 : Int) ≤ List.length x1.2.1.2.1) (some ((x15.1.1, x15.1.2.1, x15.1.2.2.1, ()), (x1.2.1.1, (List.take (Int.toNat x16.1) x1.2.1.2.1), x1.2.1.2.2.1, x15.2.1, ()), ()))) (some ((x2.1.1, x2.1.2.1, x2.1.2.2.1, ()), (x1.2.1.1, x1.2.1.2.1, x1.2.1.2.2.1, x1.2.1.2.2.2.1, ()), ()))))))
def E86 (f115 : T115) (f116 : T116) (f117 : T117) (f121 : T121) (f122 : T122) (f118 : T118) (f119 : T119) (f120 : T120) : Env := envL [(115, N115 f115), (116, N116 f116), (117, N117 f117), (121, N121 f121), (122, N122 f122), (118, N118 f118), (119, N119 f119), (120, N120 f120)]
noncomputable def L86 (f115 : T115) (f116 : T116) (f117 : T117) (f121 : T121) (f122 : T122) (f118 : T118) (f119 : T119) (f120 : T120) : LEnv (densS (muts p86 ++ r86)) := lenv []
theorem e86 (f115 : T115) (f116 : T116) (f117 : T117) (f121 : T121) (f122 : T122) (f118 : T118) (f119 : T119) (f120 : T120) (a : densS p86) : runF (E86 f115 f116 f117 f121 f122 f118 f119 f120) tab (fun n => Nat.beq n 141) p86 r86 Proofs.Tryz.f86 (L86 f115 f116 f117 f121 f122 f118 f119 f120) a = F86 f115 f116 f117 f121 f122 f118 f119 f120 a := by kernel_rfl
theorem ok86 {f115 : T115} {f116 : T116} {f117 : T117} {f121 : T121} {f122 : T122} {f118 : T118} {f119 : T119} {f120 : T120} (h115 : OK Proofs.Tryz.prog 115 (N115 f115)) (h116 : OK Proofs.Tryz.prog 116 (N116 f116)) (h117 : OK Proofs.Tryz.prog 117 (N117 f117)) (h121 : OK Proofs.Tryz.prog 121 (N121 f121)) (h122 : OK Proofs.Tryz.prog 122 (N122 f122)) (h118 : OK Proofs.Tryz.prog 118 (N118 f118)) (h119 : OK Proofs.Tryz.prog 119 (N119 f119)) (h120 : OK Proofs.Tryz.prog 120 (N120 f120)) : OK Proofs.Tryz.prog 86 (mkE p86 r86 true (F86 f115 f116 f117 f121 f122 f118 f119 f120)) :=
  fn_ok (E := E86 f115 f116 f117 f121 f122 f118 f119 f120) tab_ok (envL_ok (OKs.cons h115 (OKs.cons h116 (OKs.cons h117 (OKs.cons h121 (OKs.cons h122 (OKs.cons h118 (OKs.cons h119 (OKs.cons h120 OKs.nil))))))))) mixed (ann := (fun n => Nat.beq n 141)) (L := L86 f115 f116 f117 f121 f122 f118 f119 f120) (fn := Proofs.Tryz.f86) (c := bodyC Proofs.Tryz.f86) (ls := []) Proofs.Tryz.func86 (by kernel_rfl) (by kernel_rfl) (by kernel_rfl) (by kernel_rfl)
    LoopsP.nil (e86 f115 f116 f117 f121 f122 f118 f119 f120)
/-! spec.ComparePlaces -/
def p56 : List SP := [.t .place, .t .place]
def r56 : List SP := [.one (.int .i64)]
abbrev T56 := Place × Place × Unit → Option (Int × Unit)
abbrev N56 (f : T56) : Entry := mkE p56 r56 false f
noncomputable def F56 (a : Place × Place × Unit) : Option (Int × Unit) :=
  cond (decide (a.1.X < a.2.1.X)) (cond (decide (a.1.X < a.2.1.X)) (some ((-1), ())) (cond (decide (a.1.X = a.2.1.X) && (decide (a.1.Y = a.2.1.Y) && true)) (some (0, ())) (some (1, ())))) (cond (decide (a.1.X = a.2.1.X)) (cond (decide (a.1.Y < a.2.1.Y)) (some ((-1), ())) (cond (decide (a.1.X = a.2.1.X) && (decide (a.1.Y = a.2.1.Y) && true)) (some (0, ())) (some (1, ())))) (cond (decide (a.1.X = a.2.1.X) && (decide (a.1.Y = a.2.1.Y) && true)) (some (0, ())) (some (1, ()))))
def E56 : Env := envL []
noncomputable def L56 : LEnv (densS (muts p56 ++ r56)) := lenv []
theorem e56 (a : densS p56) : runF (E56) tab (fun _ => false) p56 r56 Proofs.Tryz.f56 (L56) a = F56 a := by kernel_rfl
theorem ok56 : OK Proofs.Tryz.prog 56 (mkE p56 r56 false (F56)) :=
  fn_ok (E := E56) tab_ok (envL_ok OKs.nil) mixed (ann := (fun _ => false)) (L := L56) (fn := Proofs.Tryz.f56) (c := bodyC Proofs.Tryz.f56) (ls := []) Proofs.Tryz.func56 (by kernel_rfl) (by kernel_rfl) (by kernel_rfl) (by kernel_rfl)
    LoopsP.nil (e56)
/-! spec.SortedPlaces -/
def p158 : List SP := [.one (.r .place)]
def r158 : List SP := [.one (.o 0 .place)]
abbrev T158 := List Place × Unit → Option (List Place × Unit)
abbrev N158 (f : T158) : Entry := mkE p158 r158 false f
def q158_2 : List SP := pat 58 0 [(3, .one (.o 5002001 .place)), (5, .boxt 5002002 .place), (6, .one (.int .i64)), (9, .one (.r .place)), (10, .one (.int .i64)), (11, .one (.int .i64))]
noncomputable def s158_2 (f56 : T56) (t3 : List Place × Place × Int × List Place × Int × Int × Unit) (rec K : List Place × Place × Int × List Place × Int × Int × Unit → Option (List Place × Unit)) : Option (List Place × Unit) :=
  cond (decide (t3.2.2.1 < (Int.ofNat (List.length t3.1)))) (rdL t3.1 t3.2.2.1 fun _ => (t3.1[(Int.toNat t3.2.2.1)]?).bind fun d4 => (f56 (d4, t3.2.1, ())).bind fun x5 => cond (decide (x5.1 < 0)) (rec (t3.1, t3.2.1, (w64 (t3.2.2.1 + 1)), t3.2.2.2.1, t3.2.2.2.2.1, t3.2.2.2.2.2.1, ())) (K (t3.1, t3.2.1, t3.2.2.1, t3.2.2.2.1, t3.2.2.2.2.1, t3.2.2.2.2.2.1, ()))) (K (t3.1, t3.2.1, t3.2.2.1, t3.2.2.2.1, t3.2.2.2.2.1, t3.2.2.2.2.2.1, ()))
def q158_0 : List SP := pat 58 0 [(3, .one (.o 5000001 .place)), (9, .one (.r .place)), (10, .one (.int .i64)), (11, .one (.int .i64))]
noncomputable def s158_0 (f56 : T56) (t1 : List Place × List Place × Int × Int × Unit) (rec K : List Place × List Place × Int × Int × Unit → Option (List Place × Unit)) : Option (List Place × Unit) :=
  cond (decide (t1.2.2.2.1 < t1.2.2.1)) (rdL t1.2.1 t1.2.2.2.1 fun d2 => iterF (s158_2 f56) fuel (t1.1, d2, 0, t1.2.1, t1.2.2.1, t1.2.2.2.1, ()) fun t6 => cond (!(decide (t6.2.2.1 = (Int.ofNat (List.length t6.1))))) (rdL t6.1 t6.2.2.1 fun _ => (t6.1[(Int.toNat t6.2.2.1)]?).bind fun d7 => cond (!(decide (d7.X = t6.2.1.X) && (decide (d7.Y = t6.2.1.Y) && true))) (okIf ((0 : Int) ≤ t6.2.2.1 ∧ (t6.2.2.1 : Int) ≤ List.length t6.1) (capK (List.length ([] : List Place) + List.length (List.drop 0 (List.take (Int.toNat t6.2.2.1) t6.1))) (capK (List.length (([] : List Place) ++ (List.drop 0 (List.take (Int.toNat t6.2.2.1) t6.1))) + List.length ([t6.2.1] : List Place)) (okIf ((0 : Int) ≤ t6.2.2.1 ∧ (t6.2.2.1 : Int) ≤ List.length t6.1) (capK (List.length ((([] : List Place) ++ (List.drop 0 (List.take (Int.toNat t6.2.2.1) t6.1))) ++ ([t6.2.1] : List Place)) + List.length (List.drop (Int.toNat t6.2.2.1) (List.take (List.length t6.1) t6.1))) (rec ((((([] : List Place) ++ (List.drop 0 (List.take (Int.toNat t6.2.2.1) t6.1))) ++ ([t6.2.1] : List Place)) ++ (List.drop (Int.toNat t6.2.2.1) (List.take (List.length t6.1) t6.1))), t6.2.2.2.1, t6.2.2.2.2.1, (w64 (t6.2.2.2.2.2.1 + 1)), ()))))))) (rec (t6.1, t6.2.2.2.1, t6.2.2.2.2.1, (w64 (t6.2.2.2.2.2.1 + 1)), ()))) (okIf ((0 : Int) ≤ t6.2.2.1 ∧ (t6.2.2.1 : Int) ≤ List.length t6.1) (capK (List.length ([] : List Place) + List.length (List.drop 0 (List.take (Int.toNat t6.2.2.1) t6.1))) (capK (List.length (([] : List Place) ++ (List.drop 0 (List.take (Int.toNat t6.2.2.1) t6.1))) + List.length ([t6.2.1] : List Place)) (okIf ((0 : Int) ≤ t6.2.2.1 ∧ (t6.2.2.1 : Int) ≤ List.length t6.1) (capK (List.length ((([] : List Place) ++ (List.drop 0 (List.take (Int.toNat t6.2.2.1) t6.1))) ++ ([t6.2.1] : List Place)) + List.length (List.drop (Int.toNat t6.2.2.1) (List.take (List.length t6.1) t6.1))) (rec ((((([] : List Place) ++ (List.drop 0 (List.take (Int.toNat t6.2.2.1) t6.1))) ++ ([t6.2.1] : List Place)) ++ (List.drop (Int.toNat t6.2.2.1) (List.take (List.length t6.1) t6.1))), t6.2.2.2.1, t6.2.2.2.2.1, (w64 (t6.2.2.2.2.2.1 + 1)), ())))))))) (K (t1.1, t1.2.1, t1.2.2.1, t1.2.2.2.1, ()))
noncomputable def F158 (f56 : T56) (a : List Place × Unit) : Option (List Place × Unit) :=
  iterF (s158_0 f56) fuel (([] : List Place), a.1, (Int.ofNat (List.length a.1)), 0, ()) fun t8 => some (t8.1, ())
def E158 (f56 : T56) : Env := envL [(56, N56 f56)]
noncomputable def L158 (f56 : T56) : LEnv (densS (muts p158 ++ r158)) := lenv [(0, loopL (R := densS (muts p158 ++ r158)) q158_0 (s158_0 f56)), (2, loopL (R := densS (muts p158 ++ r158)) q158_2 (s158_2 f56))]
theorem e158_0 (f56 : T56) (X : Nat → St → Option (densS (muts p158 ++ r158))) (rec K : densS q158_0 → Option (densS (muts p158 ++ r158))) (t : densS q158_0) :
    ev (E158 f56) tab (fun _ => false) (L158 f56) (retK tab p158 r158 Proofs.Tryz.f158.results.toList) (loopC Proofs.Tryz.f158 0) (fun i s => cond (Nat.beq i 0) (decK 100 q158_0 s K) (X i s)) (fun s => decK 100 q158_0 s rec) (enc q158_0 t) = s158_0 f56 t rec K := by kernel_rfl
theorem e158_2 (f56 : T56) (X : Nat → St → Option (densS (muts p158 ++ r158))) (rec K : densS q158_2 → Option (densS (muts p158 ++ r158))) (t : densS q158_2) :
    ev (E158 f56) tab (fun _ => false) (L158 f56) (retK tab p158 r158 Proofs.Tryz.f158.results.toList) (loopC Proofs.Tryz.f158 1) (fun i s => cond (Nat.beq i 2) (decK 100 q158_2 s K) (X i s)) (fun s => decK 100 q158_2 s rec) (enc q158_2 t) = s158_2 f56 t rec K := by kernel_rfl
theorem e158 (f56 : T56) (a : densS p158) : runF (E158 f56) tab (fun _ => false) p158 r158 Proofs.Tryz.f158 (L158 f56) a = F158 f56 a := by kernel_rfl
theorem ok158 {f56 : T56} (h56 : OK Proofs.Tryz.prog 56 (N56 f56)) : OK Proofs.Tryz.prog 158 (mkE p158 r158 false (F158 f56)) :=
  fn_ok (E := E158 f56) tab_ok (envL_ok (OKs.cons h56 OKs.nil)) mixed (ann := (fun _ => false)) (L := L158 f56) (fn := Proofs.Tryz.f158) (c := bodyC Proofs.Tryz.f158) (ls := [(0, loopC Proofs.Tryz.f158 0), (2, loopC Proofs.Tryz.f158 1)]) Proofs.Tryz.func158 (by kernel_rfl) (by kernel_rfl) (by kernel_rfl) (by kernel_rfl)
    (LoopsP.cons q158_0 (s158_0 f56) rfl (e158_0 f56) (LoopsP.cons q158_2 (s158_2 f56) rfl (e158_2 f56) LoopsP.nil)) (e158 f56)
/-! spec.l4Rose -/
def p123 : List SP := [.box 0 [.r .u8, .int .i64, .int .i64]]
def r123 : List SP := [.one (.o 1 .place)]
abbrev T123 := CuD × Unit → Option (CuD × List Place × Unit)
abbrev N123 (f : T123) : Entry := mkE p123 r123 true f
def q123_0 : List SP := pat 20 0 [(0, .box 0 [.r .u8, .int .i64, .int .i64]), (3, .one (.o 5000001 .place)), (4, .one (.int .i64))]
noncomputable def s123_0 (f116 : T116) (f124 : T124) (f158 : T158) (t2 : CuD × List Place × Int × Unit) (rec K : CuD × List Place × Int × Unit → Option (CuD × List Place × Unit)) : Option (CuD × List Place × Unit) :=
  cond (decide (t2.2.2.1 > 0)) ((f124 ((t2.1.1, t2.1.2.1, t2.1.2.2.1, ()), ())).bind fun x3 => capK (List.length t2.2.1 + List.length ([x3.2.1] : List Place)) (rec ((x3.1.1, x3.1.2.1, x3.1.2.2.1, ()), (t2.2.1 ++ ([x3.2.1] : List Place)), (w64 (t2.2.2.1 - 1)), ()))) (K ((t2.1.1, t2.1.2.1, t2.1.2.2.1, ()), t2.2.1, t2.2.2.1, ()))
noncomputable def F123 (f116 : T116) (f124 : T124) (f158 : T158) (a : CuD × Unit) : Option (CuD × List Place × Unit) :=
  (f116 ((a.1.1, a.1.2.1, a.1.2.2.1, ()), 4, ())).bind fun x1 => iterF (s123_0 f116 f124 f158) fuel ((x1.1.1, x1.1.2.1, x1.1.2.2.1, ()), ([] : List Place), (w64 (1 + x1.2.1)), ()) fun t4 => (f158 (t4.2.1, ())).bind fun x5 => some ((t4.1.1, t4.1.2.1, t4.1.2.2.1, ()), x5.1, ())
def E123 (f116 : T116) (f124 : T124) (f158 : T158) : Env := envL [(116, N116 f116), (124, N124 f124), (158, N158 f158)]
noncomputable def L123 (f116 : T116) (f124 : T124) (f158 : T158) : LEnv (densS (muts p123 ++ r123)) := lenv [(0, loopL (R := densS (muts p123 ++ r123)) q123_0 (s123_0 f116 f124 f158))]
theorem e123_0 (f116 : T116) (f124 : T124) (f158 : T158) (X : Nat → St → Option (densS (muts p123 ++ r123))) (rec K : densS q123_0 → Option (densS (muts p123 ++ r123))) (t : densS q123_0) :
    ev (E123 f116 f124 f158) tab (fun _ => false) (L123 f116 f124 f158) (retK tab p123 r123 Proofs.Tryz.f123.results.toList) (loopC Proofs.Tryz.f123 0) (fun i s => cond (Nat.beq i 0) (decK 100 q123_0 s K) (X i s)) (fun s => decK 100 q123_0 s rec) (enc q123_0 t) = s123_0 f116 f124 f158 t rec K := by kernel_rfl
theorem e123 (f116 : T116) (f124 : T124) (f158 : T158) (a : densS p123) : runF (E123 f116 f124 f158) tab (fun _ => false) p123 r123 Proofs.Tryz.f123 (L123 f116 f124 f158) a = F123 f116 f124 f158 a := by kernel_rfl
theorem ok123 {f116 : T116} {f124 : T124} {f158 : T158} (h116 : OK Proofs.Tryz.prog 116 (N116 f116)) (h124 : OK Proofs.Tryz.prog 124 (N124 f124)) (h158 : OK Proofs.Tryz.prog 158 (N158 f158)) : OK Proofs.Tryz.prog 123 (mkE p123 r123 true (F123 f116 f124 f158)) :=
  fn_ok (E := E123 f116 f124 f158) tab_ok (envL_ok (OKs.cons h116 (OKs.cons h124 (OKs.cons h158 OKs.nil)))) mixed (ann := (fun _ => false)) (L := L123 f116 f124 f158) (fn := Proofs.Tryz.f123) (c := bodyC Proofs.Tryz.f123) (ls := [(0, loopC Proofs.Tryz.f123 0)]) Proofs.Tryz.func123 (by kernel_rfl) (by kernel_rfl) (by kernel_rfl) (by kernel_rfl)
    (LoopsP.cons q123_0 (s123_0 f116 f124 f158) rfl (e123_0 f116 f124 f158) LoopsP.nil) (e123 f116 f124 f158)
/-! spec.l4AnyRose -/
def p87 : List SP := [.box 0 [.r .u8, .int .i64, .int .i64]]
def r87 : List SP := [.one (.o 1 .place)]
abbrev T87 := CuD × Unit → Option (CuD × List Place × Unit)
abbrev N87 (f : T87) : Entry := mkE p87 r87 true f
noncomputable def F87 (f123 : T123) (f116 : T116) (f124 : T124) (f121 : T121) (a : CuD × Unit) : Option (CuD × List Place × Unit) :=
  (f123 ((a.1.1, a.1.2.1, a.1.2.2.1, ()), ())).bind fun x1 => (f116 ((x1.1.1, x1.1.2.1, x1.1.2.2.1, ()), 12, ())).bind fun x2 => cond (decide (x2.2.1 = 0)) ((f124 ((x2.1.1, x2.1.2.1, x2.1.2.2.1, ()), ())).bind fun x3 => capK (List.length x1.2.1 + List.length ([x3.2.1] : List Place)) (some ((x3.1.1, x3.1.2.1, x3.1.2.2.1, ()), (x1.2.1 ++ ([x3.2.1] : List Place)), ()))) (cond (decide (x2.2.1 = 1)) (some ((x2.1.1, x2.1.2.1, x2.1.2.2.1, ()), ([] : List Place), ())) (cond (decide (x2.2.1 = 2)) ((f121 ((x2.1.1, x2.1.2.1, x2.1.2.2.1, ()), ([8, 9, (-9)] : List Int), ())).bind fun x4 => (f121 ((x4.1.1, x4.1.2.1, x4.1.2.2.1, ()), ([0, 8, 9] : List Int), ())).bind fun x5 => some ((x5.1.1, x5.1.2.1, x5.1.2.2.1, ()), ([(⟨x4.2.1, x5.2.1⟩ : Place)] : List Place), ())) (cond (decide (x2.2.1 = 3)) (some ((x2.1.1, x2.1.2.1, x2.1.2.2.1, ()), ([(⟨(-2), 0⟩ : Place), (⟨(-1), 0⟩ : Place), (⟨0, 0⟩ : Place), (⟨1, 0⟩ : Place), (⟨2, 0⟩ : Place)] : List Place), ())) (some ((x2.1.1, x2.1.2.1, x2.1.2.2.1, ()), x1.2.1, ())))))
def E87 (f123 : T123) (f116 : T116) (f124 : T124) (f121 : T121) : Env := envL [(123, N123 f123), (116, N116 f116), (124, N124 f124), (121, N121 f121)]
noncomputable def L87 (f123 : T123) (f116 : T116) (f124 : T124) (f121 : T121) : LEnv (densS (muts p87 ++ r87)) := lenv []
theorem e87 (f123 : T123) (f116 : T116) (f124 : T124) (f121 : T121) (a : densS p87) : runF (E87 f123 f116 f124 f121) tab (fun _ => false) p87 r87 Proofs.Tryz.f87 (L87 f123 f116 f124 f121) a = F87 f123 f116 f124 f121 a := by kernel_rfl
theorem ok87 {f123 : T123} {f116 : T116} {f124 : T124} {f121 : T121} (h123 : OK Proofs.Tryz.prog 123 (N123 f123)) (h116 : OK Proofs.Tryz.prog 116 (N116 f116)) (h124 : OK Proofs.Tryz.prog 124 (N124 f124)) (h121 : OK Proofs.Tryz.prog 121 (N121 f121)) : OK Proofs.Tryz.prog 87 (mkE p87 r87 true (F87 f123 f116 f124 f121)) :=
  fn_ok (E := E87 f123 f116 f124 f121) tab_ok (envL_ok (OKs.cons h123 (OKs.cons h116 (OKs.cons h124 (OKs.cons h121 OKs.nil))))) mixed (ann := (fun _ => false)) (L := L87 f123 f116 f124 f121) (fn := Proofs.Tryz.f87) (c := bodyC Proofs.Tryz.f87) (ls := []) Proofs.Tryz.func87 (by kernel_rfl) (by kernel_rfl) (by kernel_rfl) (by kernel_rfl)
    LoopsP.nil (e87 f123 f116 f124 f121)
/-! spec.l4Drift -/
def p55 : List SP := [.t .place]
def r55 : List SP := [.one (.bool)]
abbrev T55 := Place × Unit → Option (Bool × Unit)
abbrev N55 (f : T55) : Entry := mkE p55 r55 false f
noncomputable def F55 (f54 : T54) (a : Place × Unit) : Option (Bool × Unit) :=
  (f54 (a.1.X, (-8), 8, ())).bind fun x1 => cond x1.1 ((f54 (a.1.Y, (-8), 8, ())).bind fun x2 => some (x2.1, ())) (some (false, ()))
def E55 (f54 : T54) : Env := envL [(54, N54 f54)]
noncomputable def L55 (f54 : T54) : LEnv (densS (muts p55 ++ r55)) := lenv []
theorem e55 (f54 : T54) (a : densS p55) : runF (E55 f54) tab (fun _ => false) p55 r55 Proofs.Tryz.f55 (L55 f54) a = F55 f54 a := by kernel_rfl
theorem ok55 {f54 : T54} (h54 : OK Proofs.Tryz.prog 54 (N54 f54)) : OK Proofs.Tryz.prog 55 (mkE p55 r55 false (F55 f54)) :=
  fn_ok (E := E55 f54) tab_ok (envL_ok (OKs.cons h54 OKs.nil)) mixed (ann := (fun _ => false)) (L := L55 f54) (fn := Proofs.Tryz.f55) (c := bodyC Proofs.Tryz.f55) (ls := []) Proofs.Tryz.func55 (by kernel_rfl) (by kernel_rfl) (by kernel_rfl) (by kernel_rfl)
    LoopsP.nil (e55 f54)
/-! spec.IsWind -/
def p53 : List SP := [.one (.r .gust)]
def r53 : List SP := [.one (.bool)]
abbrev T53 := List Gust × Unit → Option (Bool × Unit)
abbrev N53 (f : T53) : Entry := mkE p53 r53 false f
def q53_0 : List SP := pat 41 0 [(0, .one (.r .gust)), (5, .one (.r .gust)), (6, .one (.int .i64)), (7, .one (.int .i64))]
noncomputable def s53_0 (f54 : T54) (f55 : T55) (t1 : List Gust × List Gust × Int × Int × Unit) (rec K : List Gust × List Gust × Int × Int × Unit → Option (Bool × Unit)) : Option (Bool × Unit) :=
  cond (decide (t1.2.2.2.1 < t1.2.2.1)) (rdL t1.2.1 t1.2.2.2.1 fun d2 => (f54 (d2.From, 0, 64, ())).bind fun x3 => cond (!(!x3.1)) ((f55 (d2.Drift, ())).bind fun x4 => cond (!(!x4.1)) (cond (decide (t1.2.2.2.1 > 0)) (rdL t1.1 (w64 (t1.2.2.2.1 - 1)) fun d5 => cond (decide (d5.From ≥ d2.From)) (some (false, ())) (rec (t1.1, t1.2.1, t1.2.2.1, (w64 (t1.2.2.2.1 + 1)), ()))) (rec (t1.1, t1.2.1, t1.2.2.1, (w64 (t1.2.2.2.1 + 1)), ()))) (some (false, ()))) (some (false, ()))) (K (t1.1, t1.2.1, t1.2.2.1, t1.2.2.2.1, ()))
noncomputable def F53 (f54 : T54) (f55 : T55) (a : List Gust × Unit) : Option (Bool × Unit) :=
  iterF (s53_0 f54 f55) fuel (a.1, a.1, (Int.ofNat (List.length a.1)), 0, ()) fun t6 => some ((decide ((Int.ofNat (List.length t6.1)) ≤ 8)), ())
def E53 (f54 : T54) (f55 : T55) : Env := envL [(54, N54 f54), (55, N55 f55)]
noncomputable def L53 (f54 : T54) (f55 : T55) : LEnv (densS (muts p53 ++ r53)) := lenv [(0, loopL (R := densS (muts p53 ++ r53)) q53_0 (s53_0 f54 f55))]
theorem e53_0 (f54 : T54) (f55 : T55) (X : Nat → St → Option (densS (muts p53 ++ r53))) (rec K : densS q53_0 → Option (densS (muts p53 ++ r53))) (t : densS q53_0) :
    ev (E53 f54 f55) tab (fun _ => false) (L53 f54 f55) (retK tab p53 r53 Proofs.Tryz.f53.results.toList) (loopC Proofs.Tryz.f53 0) (fun i s => cond (Nat.beq i 0) (decK 100 q53_0 s K) (X i s)) (fun s => decK 100 q53_0 s rec) (enc q53_0 t) = s53_0 f54 f55 t rec K := by kernel_rfl
theorem e53 (f54 : T54) (f55 : T55) (a : densS p53) : runF (E53 f54 f55) tab (fun _ => false) p53 r53 Proofs.Tryz.f53 (L53 f54 f55) a = F53 f54 f55 a := by kernel_rfl
theorem ok53 {f54 : T54} {f55 : T55} (h54 : OK Proofs.Tryz.prog 54 (N54 f54)) (h55 : OK Proofs.Tryz.prog 55 (N55 f55)) : OK Proofs.Tryz.prog 53 (mkE p53 r53 false (F53 f54 f55)) :=
  fn_ok (E := E53 f54 f55) tab_ok (envL_ok (OKs.cons h54 (OKs.cons h55 OKs.nil))) mixed (ann := (fun _ => false)) (L := L53 f54 f55) (fn := Proofs.Tryz.f53) (c := bodyC Proofs.Tryz.f53) (ls := [(0, loopC Proofs.Tryz.f53 0)]) Proofs.Tryz.func53 (by kernel_rfl) (by kernel_rfl) (by kernel_rfl) (by kernel_rfl)
    (LoopsP.cons q53_0 (s53_0 f54 f55) rfl (e53_0 f54 f55) LoopsP.nil) (e53 f54 f55)
/-! spec.IsShow -/
def p21 : List SP := [.agg [.r .device, .r .cue, .r .gust, .int .i64]]
def r21 : List SP := [.one (.bool)]
abbrev T21 := ShD × Unit → Option (Bool × Unit)
abbrev N21 (f : T21) : Entry := mkE p21 r21 false f
noncomputable def F21 (f51 : T51) (f52 : T52) (f53 : T53) (f54 : T54) (a : ShD × Unit) : Option (Bool × Unit) :=
  (f51 (a.1.1, ())).bind fun x1 => cond x1.1 ((f52 (a.1.2.1, ())).bind fun x2 => cond x2.1 ((f53 (a.1.2.2.1, ())).bind fun x3 => cond x3.1 ((f54 (a.1.2.2.2.1, 0, 64, ())).bind fun x4 => some (x4.1, ())) (some (false, ()))) (some (false, ()))) (some (false, ()))
def E21 (f51 : T51) (f52 : T52) (f53 : T53) (f54 : T54) : Env := envL [(51, N51 f51), (52, N52 f52), (53, N53 f53), (54, N54 f54)]
noncomputable def L21 (f51 : T51) (f52 : T52) (f53 : T53) (f54 : T54) : LEnv (densS (muts p21 ++ r21)) := lenv []
theorem e21 (f51 : T51) (f52 : T52) (f53 : T53) (f54 : T54) (a : densS p21) : runF (E21 f51 f52 f53 f54) tab (fun _ => false) p21 r21 Proofs.Tryz.f21 (L21 f51 f52 f53 f54) a = F21 f51 f52 f53 f54 a := by kernel_rfl
theorem ok21 {f51 : T51} {f52 : T52} {f53 : T53} {f54 : T54} (h51 : OK Proofs.Tryz.prog 51 (N51 f51)) (h52 : OK Proofs.Tryz.prog 52 (N52 f52)) (h53 : OK Proofs.Tryz.prog 53 (N53 f53)) (h54 : OK Proofs.Tryz.prog 54 (N54 f54)) : OK Proofs.Tryz.prog 21 (mkE p21 r21 false (F21 f51 f52 f53 f54)) :=
  fn_ok (E := E21 f51 f52 f53 f54) tab_ok (envL_ok (OKs.cons h51 (OKs.cons h52 (OKs.cons h53 (OKs.cons h54 OKs.nil))))) mixed (ann := (fun _ => false)) (L := L21 f51 f52 f53 f54) (fn := Proofs.Tryz.f21) (c := bodyC Proofs.Tryz.f21) (ls := []) Proofs.Tryz.func21 (by kernel_rfl) (by kernel_rfl) (by kernel_rfl) (by kernel_rfl)
    LoopsP.nil (e21 f51 f52 f53 f54)
/-! spec.IsRose -/
def p22 : List SP := [.one (.r .place)]
def r22 : List SP := [.one (.bool)]
abbrev T22 := List Place × Unit → Option (Bool × Unit)
abbrev N22 (f : T22) : Entry := mkE p22 r22 false f
def q22_0 : List SP := pat 38 0 [(0, .one (.r .place)), (5, .one (.r .place)), (6, .one (.int .i64)), (7, .one (.int .i64))]
noncomputable def s22_0 (f55 : T55) (f56 : T56) (t1 : List Place × List Place × Int × Int × Unit) (rec K : List Place × List Place × Int × Int × Unit → Option (Bool × Unit)) : Option (Bool × Unit) :=
  cond (decide (t1.2.2.2.1 < t1.2.2.1)) (rdL t1.2.1 t1.2.2.2.1 fun d2 => (f55 (d2, ())).bind fun x3 => cond (!(!x3.1)) (cond (decide (t1.2.2.2.1 > 0)) (rdL t1.1 (w64 (t1.2.2.2.1 - 1)) fun d4 => (f56 (d4, d2, ())).bind fun x5 => cond (decide (x5.1 ≥ 0)) (some (false, ())) (rec (t1.1, t1.2.1, t1.2.2.1, (w64 (t1.2.2.2.1 + 1)), ()))) (rec (t1.1, t1.2.1, t1.2.2.1, (w64 (t1.2.2.2.1 + 1)), ()))) (some (false, ()))) (K (t1.1, t1.2.1, t1.2.2.1, t1.2.2.2.1, ()))
noncomputable def F22 (f55 : T55) (f56 : T56) (a : List Place × Unit) : Option (Bool × Unit) :=
  iterF (s22_0 f55 f56) fuel (a.1, a.1, (Int.ofNat (List.length a.1)), 0, ()) fun t6 => cond (decide ((Int.ofNat (List.length t6.1)) ≥ 1)) (some ((decide ((Int.ofNat (List.length t6.1)) ≤ 4)), ())) (some (false, ()))
def E22 (f55 : T55) (f56 : T56) : Env := envL [(55, N55 f55), (56, N56 f56)]
noncomputable def L22 (f55 : T55) (f56 : T56) : LEnv (densS (muts p22 ++ r22)) := lenv [(0, loopL (R := densS (muts p22 ++ r22)) q22_0 (s22_0 f55 f56))]
theorem e22_0 (f55 : T55) (f56 : T56) (X : Nat → St → Option (densS (muts p22 ++ r22))) (rec K : densS q22_0 → Option (densS (muts p22 ++ r22))) (t : densS q22_0) :
    ev (E22 f55 f56) tab (fun _ => false) (L22 f55 f56) (retK tab p22 r22 Proofs.Tryz.f22.results.toList) (loopC Proofs.Tryz.f22 0) (fun i s => cond (Nat.beq i 0) (decK 100 q22_0 s K) (X i s)) (fun s => decK 100 q22_0 s rec) (enc q22_0 t) = s22_0 f55 f56 t rec K := by kernel_rfl
theorem e22 (f55 : T55) (f56 : T56) (a : densS p22) : runF (E22 f55 f56) tab (fun _ => false) p22 r22 Proofs.Tryz.f22 (L22 f55 f56) a = F22 f55 f56 a := by kernel_rfl
theorem ok22 {f55 : T55} {f56 : T56} (h55 : OK Proofs.Tryz.prog 55 (N55 f55)) (h56 : OK Proofs.Tryz.prog 56 (N56 f56)) : OK Proofs.Tryz.prog 22 (mkE p22 r22 false (F22 f55 f56)) :=
  fn_ok (E := E22 f55 f56) tab_ok (envL_ok (OKs.cons h55 (OKs.cons h56 OKs.nil))) mixed (ann := (fun _ => false)) (L := L22 f55 f56) (fn := Proofs.Tryz.f22) (c := bodyC Proofs.Tryz.f22) (ls := [(0, loopC Proofs.Tryz.f22 0)]) Proofs.Tryz.func22 (by kernel_rfl) (by kernel_rfl) (by kernel_rfl) (by kernel_rfl)
    (LoopsP.cons q22_0 (s22_0 f55 f56) rfl (e22_0 f55 f56) LoopsP.nil) (e22 f55 f56)
/-! spec.l1Floor -/
def p197 : List SP := [.one (.int .i64), .one (.int .i64)]
def r197 : List SP := [.one (.int .i64)]
abbrev T197 := Int × Int × Unit → Option (Int × Unit)
abbrev N197 (f : T197) : Entry := mkE p197 r197 false f
noncomputable def F197 (a : Int × Int × Unit) : Option (Int × Unit) :=
  cond (decide (a.2.1 = 0)) none (cond (decide (a.2.1 = 0)) none (cond (decide ((Int.tmod a.1 a.2.1) < 0)) (some ((w64 ((w64 (Int.tdiv a.1 a.2.1)) - 1)), ())) (some ((w64 (Int.tdiv a.1 a.2.1)), ()))))
def E197 : Env := envL []
noncomputable def L197 : LEnv (densS (muts p197 ++ r197)) := lenv []
theorem e197 (a : densS p197) : runF (E197) tab (fun _ => false) p197 r197 Proofs.Tryz.f197 (L197) a = F197 a := by kernel_rfl
theorem ok197 : OK Proofs.Tryz.prog 197 (mkE p197 r197 false (F197)) :=
  fn_ok (E := E197) tab_ok (envL_ok OKs.nil) mixed (ann := (fun _ => false)) (L := L197) (fn := Proofs.Tryz.f197) (c := bodyC Proofs.Tryz.f197) (ls := []) Proofs.Tryz.func197 (by kernel_rfl) (by kernel_rfl) (by kernel_rfl) (by kernel_rfl)
    LoopsP.nil (e197)
/-! spec.RampAt -/
def p163 : List SP := [.one (.int .i64), .one (.int .i64), .one (.int .i64), .one (.int .i64)]
def r163 : List SP := [.one (.int .i64)]
abbrev T163 := Int × Int × Int × Int × Unit → Option (Int × Unit)
abbrev N163 (f : T163) : Entry := mkE p163 r163 false f
noncomputable def F163 (f96 : T96) (f197 : T197) (a : Int × Int × Int × Int × Unit) : Option (Int × Unit) :=
  (f96 (a.1, ())).bind fun x1 => cond (!(!x1.1)) ((f96 (a.2.1, ())).bind fun x2 => cond (!x2.1) (some (0, ())) (cond (decide (a.2.2.1 ≥ a.2.2.2.1)) (some (a.2.1, ())) (cond (!(decide (a.2.2.1 ≤ 0))) (cond (decide (a.2.2.2.1 > 999)) (some (a.1, ())) ((f197 ((w64 ((w64 (a.2.1 - a.1)) * a.2.2.1)), a.2.2.2.1, ())).bind fun x3 => some ((w64 (a.1 + x3.1)), ()))) (some (a.1, ()))))) (some (0, ()))
def E163 (f96 : T96) (f197 : T197) : Env := envL [(96, N96 f96), (197, N197 f197)]
noncomputable def L163 (f96 : T96) (f197 : T197) : LEnv (densS (muts p163 ++ r163)) := lenv []
theorem e163 (f96 : T96) (f197 : T197) (a : densS p163) : runF (E163 f96 f197) tab (fun _ => false) p163 r163 Proofs.Tryz.f163 (L163 f96 f197) a = F163 f96 f197 a := by kernel_rfl
theorem ok163 {f96 : T96} {f197 : T197} (h96 : OK Proofs.Tryz.prog 96 (N96 f96)) (h197 : OK Proofs.Tryz.prog 197 (N197 f197)) : OK Proofs.Tryz.prog 163 (mkE p163 r163 false (F163 f96 f197)) :=
  fn_ok (E := E163 f96 f197) tab_ok (envL_ok (OKs.cons h96 (OKs.cons h197 OKs.nil))) mixed (ann := (fun _ => false)) (L := L163 f96 f197) (fn := Proofs.Tryz.f163) (c := bodyC Proofs.Tryz.f163) (ls := []) Proofs.Tryz.func163 (by kernel_rfl) (by kernel_rfl) (by kernel_rfl) (by kernel_rfl)
    LoopsP.nil (e163 f96 f197)
/-! spec.l7Level -/
def p133 : List SP := [.one (.r .cue), .one (.str), .one (.int .i64)]
def r133 : List SP := [.one (.int .i64)]
abbrev T133 := List Cue × Str × Int × Unit → Option (Int × Unit)
abbrev N133 (f : T133) : Entry := mkE p133 r133 false f
def q133_0 : List SP := pat 51 0 [(1, .one (.str)), (2, .one (.int .i64)), (7, .one (.int .i64)), (8, .boxt 5000001 .cue), (12, .one (.r .cue)), (13, .one (.int .i64)), (14, .one (.int .i64))]
noncomputable def s133_0 (f163 : T163) (t1 : Str × Int × Int × Cue × List Cue × Int × Int × Unit) (rec K : Str × Int × Int × Cue × List Cue × Int × Int × Unit → Option (Int × Unit)) : Option (Int × Unit) :=
  cond (decide (t1.2.2.2.2.2.2.1 < t1.2.2.2.2.2.1)) (rdL t1.2.2.2.2.1 t1.2.2.2.2.2.2.1 fun d2 => cond (decide (d2.Name = t1.1)) (cond (decide (d2.Tick ≤ t1.2.1)) ((f163 (t1.2.2.1, t1.2.2.2.1.Level, (w64 (d2.Tick - t1.2.2.2.1.Tick)), t1.2.2.2.1.Ramp, ())).bind fun x3 => rec (t1.1, t1.2.1, x3.1, d2, t1.2.2.2.2.1, t1.2.2.2.2.2.1, (w64 (t1.2.2.2.2.2.2.1 + 1)), ())) (rec (t1.1, t1.2.1, t1.2.2.1, t1.2.2.2.1, t1.2.2.2.2.1, t1.2.2.2.2.2.1, (w64 (t1.2.2.2.2.2.2.1 + 1)), ()))) (rec (t1.1, t1.2.1, t1.2.2.1, t1.2.2.2.1, t1.2.2.2.2.1, t1.2.2.2.2.2.1, (w64 (t1.2.2.2.2.2.2.1 + 1)), ()))) (K (t1.1, t1.2.1, t1.2.2.1, t1.2.2.2.1, t1.2.2.2.2.1, t1.2.2.2.2.2.1, t1.2.2.2.2.2.2.1, ()))
noncomputable def F133 (f163 : T163) (a : List Cue × Str × Int × Unit) : Option (Int × Unit) :=
  iterF (s133_0 f163) fuel (a.2.1, a.2.2.1, 0, (⟨0, [], 0, 0⟩ : Cue), a.1, (Int.ofNat (List.length a.1)), 0, ()) fun t4 => (f163 (t4.2.2.1, t4.2.2.2.1.Level, (w64 (t4.2.1 - t4.2.2.2.1.Tick)), t4.2.2.2.1.Ramp, ())).bind fun x5 => some (x5.1, ())
def E133 (f163 : T163) : Env := envL [(163, N163 f163)]
noncomputable def L133 (f163 : T163) : LEnv (densS (muts p133 ++ r133)) := lenv [(0, loopL (R := densS (muts p133 ++ r133)) q133_0 (s133_0 f163))]
theorem e133_0 (f163 : T163) (X : Nat → St → Option (densS (muts p133 ++ r133))) (rec K : densS q133_0 → Option (densS (muts p133 ++ r133))) (t : densS q133_0) :
    ev (E133 f163) tab (fun _ => false) (L133 f163) (retK tab p133 r133 Proofs.Tryz.f133.results.toList) (loopC Proofs.Tryz.f133 0) (fun i s => cond (Nat.beq i 0) (decK 100 q133_0 s K) (X i s)) (fun s => decK 100 q133_0 s rec) (enc q133_0 t) = s133_0 f163 t rec K := by kernel_rfl
theorem e133 (f163 : T163) (a : densS p133) : runF (E133 f163) tab (fun _ => false) p133 r133 Proofs.Tryz.f133 (L133 f163) a = F133 f163 a := by kernel_rfl
theorem ok133 {f163 : T163} (h163 : OK Proofs.Tryz.prog 163 (N163 f163)) : OK Proofs.Tryz.prog 133 (mkE p133 r133 false (F133 f163)) :=
  fn_ok (E := E133 f163) tab_ok (envL_ok (OKs.cons h163 OKs.nil)) mixed (ann := (fun _ => false)) (L := L133 f163) (fn := Proofs.Tryz.f133) (c := bodyC Proofs.Tryz.f133) (ls := [(0, loopC Proofs.Tryz.f133 0)]) Proofs.Tryz.func133 (by kernel_rfl) (by kernel_rfl) (by kernel_rfl) (by kernel_rfl)
    (LoopsP.cons q133_0 (s133_0 f163) rfl (e133_0 f163) LoopsP.nil) (e133 f163)
/-! spec.IsDemands -/
def p164 : List SP := [.one (.r .int)]
def r164 : List SP := [.one (.bool)]
abbrev T164 := List Int × Unit → Option (Bool × Unit)
abbrev N164 (f : T164) : Entry := mkE p164 r164 false f
def q164_0 : List SP := pat 18 0 [(0, .one (.r .int)), (5, .one (.r .int)), (6, .one (.int .i64)), (7, .one (.int .i64))]
noncomputable def s164_0 (f54 : T54) (t1 : List Int × List Int × Int × Int × Unit) (rec K : List Int × List Int × Int × Int × Unit → Option (Bool × Unit)) : Option (Bool × Unit) :=
  cond (decide (t1.2.2.2.1 < t1.2.2.1)) (rdL t1.2.1 t1.2.2.2.1 fun d2 => (f54 (d2, 0, 64, ())).bind fun x3 => cond (!x3.1) (some (false, ())) (rec (t1.1, t1.2.1, t1.2.2.1, (w64 (t1.2.2.2.1 + 1)), ()))) (K (t1.1, t1.2.1, t1.2.2.1, t1.2.2.2.1, ()))
noncomputable def F164 (f54 : T54) (a : List Int × Unit) : Option (Bool × Unit) :=
  iterF (s164_0 f54) fuel (a.1, a.1, (Int.ofNat (List.length a.1)), 0, ()) fun t4 => some ((decide ((Int.ofNat (List.length t4.1)) ≤ 8)), ())
def E164 (f54 : T54) : Env := envL [(54, N54 f54)]
noncomputable def L164 (f54 : T54) : LEnv (densS (muts p164 ++ r164)) := lenv [(0, loopL (R := densS (muts p164 ++ r164)) q164_0 (s164_0 f54))]
theorem e164_0 (f54 : T54) (X : Nat → St → Option (densS (muts p164 ++ r164))) (rec K : densS q164_0 → Option (densS (muts p164 ++ r164))) (t : densS q164_0) :
    ev (E164 f54) tab (fun _ => false) (L164 f54) (retK tab p164 r164 Proofs.Tryz.f164.results.toList) (loopC Proofs.Tryz.f164 0) (fun i s => cond (Nat.beq i 0) (decK 100 q164_0 s K) (X i s)) (fun s => decK 100 q164_0 s rec) (enc q164_0 t) = s164_0 f54 t rec K := by kernel_rfl
theorem e164 (f54 : T54) (a : densS p164) : runF (E164 f54) tab (fun _ => false) p164 r164 Proofs.Tryz.f164 (L164 f54) a = F164 f54 a := by kernel_rfl
theorem ok164 {f54 : T54} (h54 : OK Proofs.Tryz.prog 54 (N54 f54)) : OK Proofs.Tryz.prog 164 (mkE p164 r164 false (F164 f54)) :=
  fn_ok (E := E164 f54) tab_ok (envL_ok (OKs.cons h54 OKs.nil)) mixed (ann := (fun _ => false)) (L := L164 f54) (fn := Proofs.Tryz.f164) (c := bodyC Proofs.Tryz.f164) (ls := [(0, loopC Proofs.Tryz.f164 0)]) Proofs.Tryz.func164 (by kernel_rfl) (by kernel_rfl) (by kernel_rfl) (by kernel_rfl)
    (LoopsP.cons q164_0 (s164_0 f54) rfl (e164_0 f54) LoopsP.nil) (e164 f54)
/-! spec.l5Cut -/
def p166 : List SP := [.one (.r .int), .one (.int .i64)]
def r166 : List SP := [.one (.o 0 .int)]
abbrev T166 := List Int × Int × Unit → Option (List Int × Unit)
abbrev N166 (f : T166) : Entry := mkE p166 r166 false f
def q166_0 : List SP := pat 23 0 [(1, .one (.int .i64)), (5, .one (.o 5000001 .int)), (9, .one (.r .int)), (10, .one (.int .i64)), (11, .one (.int .i64))]
noncomputable def s166_0 (f122 : T122) (t1 : Int × List Int × List Int × Int × Int × Unit) (rec K : Int × List Int × List Int × Int × Int × Unit → Option (List Int × Unit)) : Option (List Int × Unit) :=
  cond (decide (t1.2.2.2.2.1 < t1.2.2.2.1)) (rdL t1.2.2.1 t1.2.2.2.2.1 fun d2 => (f122 (d2, t1.1, ())).bind fun x3 => capK (List.length t1.2.1 + List.length ([x3.1] : List Int)) (rec (t1.1, (t1.2.1 ++ ([x3.1] : List Int)), t1.2.2.1, t1.2.2.2.1, (w64 (t1.2.2.2.2.1 + 1)), ()))) (K (t1.1, t1.2.1, t1.2.2.1, t1.2.2.2.1, t1.2.2.2.2.1, ()))
noncomputable def F166 (f122 : T122) (a : List Int × Int × Unit) : Option (List Int × Unit) :=
  iterF (s166_0 f122) fuel (a.2.1, ([] : List Int), a.1, (Int.ofNat (List.length a.1)), 0, ()) fun t4 => some (t4.2.1, ())
def E166 (f122 : T122) : Env := envL [(122, N122 f122)]
noncomputable def L166 (f122 : T122) : LEnv (densS (muts p166 ++ r166)) := lenv [(0, loopL (R := densS (muts p166 ++ r166)) q166_0 (s166_0 f122))]
theorem e166_0 (f122 : T122) (X : Nat → St → Option (densS (muts p166 ++ r166))) (rec K : densS q166_0 → Option (densS (muts p166 ++ r166))) (t : densS q166_0) :
    ev (E166 f122) tab (fun _ => false) (L166 f122) (retK tab p166 r166 Proofs.Tryz.f166.results.toList) (loopC Proofs.Tryz.f166 0) (fun i s => cond (Nat.beq i 0) (decK 100 q166_0 s K) (X i s)) (fun s => decK 100 q166_0 s rec) (enc q166_0 t) = s166_0 f122 t rec K := by kernel_rfl
theorem e166 (f122 : T122) (a : densS p166) : runF (E166 f122) tab (fun _ => false) p166 r166 Proofs.Tryz.f166 (L166 f122) a = F166 f122 a := by kernel_rfl
theorem ok166 {f122 : T122} (h122 : OK Proofs.Tryz.prog 122 (N122 f122)) : OK Proofs.Tryz.prog 166 (mkE p166 r166 false (F166 f122)) :=
  fn_ok (E := E166 f122) tab_ok (envL_ok (OKs.cons h122 OKs.nil)) mixed (ann := (fun _ => false)) (L := L166 f122) (fn := Proofs.Tryz.f166) (c := bodyC Proofs.Tryz.f166) (ls := [(0, loopC Proofs.Tryz.f166 0)]) Proofs.Tryz.func166 (by kernel_rfl) (by kernel_rfl) (by kernel_rfl) (by kernel_rfl)
    (LoopsP.cons q166_0 (s166_0 f122) rfl (e166_0 f122) LoopsP.nil) (e166 f122)
/-! spec.l5Sum -/
def p167 : List SP := [.one (.r .int)]
def r167 : List SP := [.one (.int .i64)]
abbrev T167 := List Int × Unit → Option (Int × Unit)
abbrev N167 (f : T167) : Entry := mkE p167 r167 false f
def q167_0 : List SP := pat 17 0 [(3, .one (.int .i64)), (6, .one (.r .int)), (7, .one (.int .i64)), (8, .one (.int .i64))]
noncomputable def s167_0 (t1 : Int × List Int × Int × Int × Unit) (rec K : Int × List Int × Int × Int × Unit → Option (Int × Unit)) : Option (Int × Unit) :=
  cond (decide (t1.2.2.2.1 < t1.2.2.1)) (rdL t1.2.1 t1.2.2.2.1 fun d2 => rec ((w64 (t1.1 + d2)), t1.2.1, t1.2.2.1, (w64 (t1.2.2.2.1 + 1)), ())) (K (t1.1, t1.2.1, t1.2.2.1, t1.2.2.2.1, ()))
noncomputable def F167 (a : List Int × Unit) : Option (Int × Unit) :=
  iterF (s167_0) fuel (0, a.1, (Int.ofNat (List.length a.1)), 0, ()) fun t3 => some (t3.1, ())
def E167 : Env := envL []
noncomputable def L167 : LEnv (densS (muts p167 ++ r167)) := lenv [(0, loopL (R := densS (muts p167 ++ r167)) q167_0 (s167_0))]
theorem e167_0 (X : Nat → St → Option (densS (muts p167 ++ r167))) (rec K : densS q167_0 → Option (densS (muts p167 ++ r167))) (t : densS q167_0) :
    ev (E167) tab (fun _ => false) (L167) (retK tab p167 r167 Proofs.Tryz.f167.results.toList) (loopC Proofs.Tryz.f167 0) (fun i s => cond (Nat.beq i 0) (decK 100 q167_0 s K) (X i s)) (fun s => decK 100 q167_0 s rec) (enc q167_0 t) = s167_0 t rec K := by kernel_rfl
theorem e167 (a : densS p167) : runF (E167) tab (fun _ => false) p167 r167 Proofs.Tryz.f167 (L167) a = F167 a := by kernel_rfl
theorem ok167 : OK Proofs.Tryz.prog 167 (mkE p167 r167 false (F167)) :=
  fn_ok (E := E167) tab_ok (envL_ok OKs.nil) mixed (ann := (fun _ => false)) (L := L167) (fn := Proofs.Tryz.f167) (c := bodyC Proofs.Tryz.f167) (ls := [(0, loopC Proofs.Tryz.f167 0)]) Proofs.Tryz.func167 (by kernel_rfl) (by kernel_rfl) (by kernel_rfl) (by kernel_rfl)
    (LoopsP.cons q167_0 (s167_0) rfl (e167_0) LoopsP.nil) (e167)
/-! spec.LevelFor -/
def p165 : List SP := [.one (.int .i64), .one (.r .int)]
def r165 : List SP := [.one (.int .i64)]
abbrev T165 := Int × List Int × Unit → Option (Int × Unit)
abbrev N165 (f : T165) : Entry := mkE p165 r165 false f
def q165_0 : List SP := pat 27 0 [(0, .one (.int .i64)), (1, .one (.r .int)), (5, .one (.int .i64)), (6, .one (.int .i64))]
noncomputable def s165_0 (f164 : T164) (f130 : T130) (f166 : T166) (f167 : T167) (t1 : Int × List Int × Int × Int × Unit) (rec K : Int × List Int × Int × Int × Unit → Option (Int × Unit)) : Option (Int × Unit) :=
  cond (decide (t1.2.2.2.1 ≤ 64)) ((f164 (t1.2.1, ())).bind fun x2 => cond x2.1 ((f130 (t1.1, ())).bind fun x3 => cond x3.1 ((f166 (t1.2.1, t1.2.2.2.1, ())).bind fun x4 => (f167 (x4.1, ())).bind fun x5 => cond (decide (x5.1 ≤ t1.1)) (rec (t1.1, t1.2.1, t1.2.2.2.1, (w64 (t1.2.2.2.1 + 1)), ())) (rec (t1.1, t1.2.1, t1.2.2.1, (w64 (t1.2.2.2.1 + 1)), ()))) (K (t1.1, t1.2.1, t1.2.2.1, t1.2.2.2.1, ()))) (K (t1.1, t1.2.1, t1.2.2.1, t1.2.2.2.1, ()))) (K (t1.1, t1.2.1, t1.2.2.1, t1.2.2.2.1, ()))
noncomputable def F165 (f164 : T164) (f130 : T130) (f166 : T166) (f167 : T167) (a : Int × List Int × Unit) : Option (Int × Unit) :=
  iterF (s165_0 f164 f130 f166 f167) fuel (a.1, a.2.1, 0, 1, ()) fun t6 => some (t6.2.2.1, ())
def E165 (f164 : T164) (f130 : T130) (f166 : T166) (f167 : T167) : Env := envL [(164, N164 f164), (130, N130 f130), (166, N166 f166), (167, N167 f167)]
noncomputable def L165 (f164 : T164) (f130 : T130) (f166 : T166) (f167 : T167) : LEnv (densS (muts p165 ++ r165)) := lenv [(0, loopL (R := densS (muts p165 ++ r165)) q165_0 (s165_0 f164 f130 f166 f167))]
theorem e165_0 (f164 : T164) (f130 : T130) (f166 : T166) (f167 : T167) (X : Nat → St → Option (densS (muts p165 ++ r165))) (rec K : densS q165_0 → Option (densS (muts p165 ++ r165))) (t : densS q165_0) :
    ev (E165 f164 f130 f166 f167) tab (fun _ => false) (L165 f164 f130 f166 f167) (retK tab p165 r165 Proofs.Tryz.f165.results.toList) (loopC Proofs.Tryz.f165 0) (fun i s => cond (Nat.beq i 0) (decK 100 q165_0 s K) (X i s)) (fun s => decK 100 q165_0 s rec) (enc q165_0 t) = s165_0 f164 f130 f166 f167 t rec K := by kernel_rfl
theorem e165 (f164 : T164) (f130 : T130) (f166 : T166) (f167 : T167) (a : densS p165) : runF (E165 f164 f130 f166 f167) tab (fun _ => false) p165 r165 Proofs.Tryz.f165 (L165 f164 f130 f166 f167) a = F165 f164 f130 f166 f167 a := by kernel_rfl
theorem ok165 {f164 : T164} {f130 : T130} {f166 : T166} {f167 : T167} (h164 : OK Proofs.Tryz.prog 164 (N164 f164)) (h130 : OK Proofs.Tryz.prog 130 (N130 f130)) (h166 : OK Proofs.Tryz.prog 166 (N166 f166)) (h167 : OK Proofs.Tryz.prog 167 (N167 f167)) : OK Proofs.Tryz.prog 165 (mkE p165 r165 false (F165 f164 f130 f166 f167)) :=
  fn_ok (E := E165 f164 f130 f166 f167) tab_ok (envL_ok (OKs.cons h164 (OKs.cons h130 (OKs.cons h166 (OKs.cons h167 OKs.nil))))) mixed (ann := (fun _ => false)) (L := L165 f164 f130 f166 f167) (fn := Proofs.Tryz.f165) (c := bodyC Proofs.Tryz.f165) (ls := [(0, loopC Proofs.Tryz.f165 0)]) Proofs.Tryz.func165 (by kernel_rfl) (by kernel_rfl) (by kernel_rfl) (by kernel_rfl)
    (LoopsP.cons q165_0 (s165_0 f164 f130 f166 f167) rfl (e165_0 f164 f130 f166 f167) LoopsP.nil) (e165 f164 f130 f166 f167)
/-! spec.ShareOut -/
def p134 : List SP := [.one (.int .i64), .one (.r .int)]
def r134 : List SP := [.one (.o 0 .int)]
abbrev T134 := Int × List Int × Unit → Option (List Int × Unit)
abbrev N134 (f : T134) : Entry := mkE p134 r134 false f
def q134_0 : List SP := pat 55 0 [(5, .one (.int .i64)), (6, .one (.o 5000001 .int)), (7, .one (.int .i64)), (29, .one (.r .int)), (30, .one (.int .i64)), (31, .one (.int .i64))]
noncomputable def s134_0 (f164 : T164) (f130 : T130) (f165 : T165) (f166 : T166) (f167 : T167) (t6 : Int × List Int × Int × List Int × Int × Int × Unit) (rec K : Int × List Int × Int × List Int × Int × Int × Unit → Option (List Int × Unit)) : Option (List Int × Unit) :=
  cond (decide (t6.2.2.2.2.2.1 < t6.2.2.2.2.1)) (rdL t6.2.2.2.1 t6.2.2.2.2.2.1 fun d7 => cond (decide (d7 > t6.1)) (cond (decide (t6.2.2.1 > 0)) (rdL t6.2.1 t6.2.2.2.2.2.1 fun _ => (t6.2.1[(Int.toNat t6.2.2.2.2.2.1)]?).bind fun d8 => rdL t6.2.1 t6.2.2.2.2.2.1 fun _ => (t6.2.1[(Int.toNat t6.2.2.2.2.2.1)]?).bind fun d9 => rec (t6.1, (List.set t6.2.1 (Int.toNat t6.2.2.2.2.2.1) (w64 (d8 + 1))), (w64 (t6.2.2.1 - 1)), t6.2.2.2.1, t6.2.2.2.2.1, (w64 (t6.2.2.2.2.2.1 + 1)), ())) (rec (t6.1, t6.2.1, t6.2.2.1, t6.2.2.2.1, t6.2.2.2.2.1, (w64 (t6.2.2.2.2.2.1 + 1)), ()))) (rec (t6.1, t6.2.1, t6.2.2.1, t6.2.2.2.1, t6.2.2.2.2.1, (w64 (t6.2.2.2.2.2.1 + 1)), ()))) (K (t6.1, t6.2.1, t6.2.2.1, t6.2.2.2.1, t6.2.2.2.2.1, t6.2.2.2.2.2.1, ()))
noncomputable def F134 (f164 : T164) (f130 : T130) (f165 : T165) (f166 : T166) (f167 : T167) (a : Int × List Int × Unit) : Option (List Int × Unit) :=
  (f164 (a.2.1, ())).bind fun x1 => cond (!(!x1.1)) ((f130 (a.1, ())).bind fun x2 => cond (!x2.1) (some (([] : List Int), ())) ((f165 (a.1, a.2.1, ())).bind fun x3 => (f166 (a.2.1, x3.1, ())).bind fun x4 => (f167 (x4.1, ())).bind fun x5 => iterF (s134_0 f164 f130 f165 f166 f167) fuel (x3.1, x4.1, (w64 (a.1 - x5.1)), a.2.1, (Int.ofNat (List.length a.2.1)), 0, ()) fun t10 => some (t10.2.1, ()))) (some (([] : List Int), ()))
def E134 (f164 : T164) (f130 : T130) (f165 : T165) (f166 : T166) (f167 : T167) : Env := envL [(164, N164 f164), (130, N130 f130), (165, N165 f165), (166, N166 f166), (167, N167 f167)]
noncomputable def L134 (f164 : T164) (f130 : T130) (f165 : T165) (f166 : T166) (f167 : T167) : LEnv (densS (muts p134 ++ r134)) := lenv [(0, loopL (R := densS (muts p134 ++ r134)) q134_0 (s134_0 f164 f130 f165 f166 f167))]
theorem e134_0 (f164 : T164) (f130 : T130) (f165 : T165) (f166 : T166) (f167 : T167) (X : Nat → St → Option (densS (muts p134 ++ r134))) (rec K : densS q134_0 → Option (densS (muts p134 ++ r134))) (t : densS q134_0) :
    ev (E134 f164 f130 f165 f166 f167) tab (fun _ => false) (L134 f164 f130 f165 f166 f167) (retK tab p134 r134 Proofs.Tryz.f134.results.toList) (loopC Proofs.Tryz.f134 0) (fun i s => cond (Nat.beq i 0) (decK 100 q134_0 s K) (X i s)) (fun s => decK 100 q134_0 s rec) (enc q134_0 t) = s134_0 f164 f130 f165 f166 f167 t rec K := by kernel_rfl
theorem e134 (f164 : T164) (f130 : T130) (f165 : T165) (f166 : T166) (f167 : T167) (a : densS p134) : runF (E134 f164 f130 f165 f166 f167) tab (fun _ => false) p134 r134 Proofs.Tryz.f134 (L134 f164 f130 f165 f166 f167) a = F134 f164 f130 f165 f166 f167 a := by kernel_rfl
theorem ok134 {f164 : T164} {f130 : T130} {f165 : T165} {f166 : T166} {f167 : T167} (h164 : OK Proofs.Tryz.prog 164 (N164 f164)) (h130 : OK Proofs.Tryz.prog 130 (N130 f130)) (h165 : OK Proofs.Tryz.prog 165 (N165 f165)) (h166 : OK Proofs.Tryz.prog 166 (N166 f166)) (h167 : OK Proofs.Tryz.prog 167 (N167 f167)) : OK Proofs.Tryz.prog 134 (mkE p134 r134 false (F134 f164 f130 f165 f166 f167)) :=
  fn_ok (E := E134 f164 f130 f165 f166 f167) tab_ok (envL_ok (OKs.cons h164 (OKs.cons h130 (OKs.cons h165 (OKs.cons h166 (OKs.cons h167 OKs.nil)))))) mixed (ann := (fun _ => false)) (L := L134 f164 f130 f165 f166 f167) (fn := Proofs.Tryz.f134) (c := bodyC Proofs.Tryz.f134) (ls := [(0, loopC Proofs.Tryz.f134 0)]) Proofs.Tryz.func134 (by kernel_rfl) (by kernel_rfl) (by kernel_rfl) (by kernel_rfl)
    (LoopsP.cons q134_0 (s134_0 f164 f130 f165 f166 f167) rfl (e134_0 f164 f130 f165 f166 f167) LoopsP.nil) (e134 f164 f130 f165 f166 f167)
/-! spec.l9Lifts -/
def p97 : List SP := [.agg [.r .device, .r .cue, .r .gust, .int .i64], .one (.int .i64)]
def r97 : List SP := [.one (.o 0 .int)]
abbrev T97 := ShD × Int × Unit → Option (List Int × Unit)
abbrev N97 (f : T97) : Entry := mkE p97 r97 false f
def q97_2 : List SP := pat 92 0 [(1, .one (.int .i64)), (2, .box 5002001 [.r .device, .r .cue, .r .gust, .int .i64]), (5, .one (.o 5002002 .int)), (7, .boxt 5002003 .device), (8, .one (.o 5002004 .int)), (9, .one (.o 5002005 .int)), (19, .one (.r .device)), (20, .one (.int .i64)), (21, .one (.int .i64)), (28, .one (.r .device)), (29, .one (.int .i64)), (30, .one (.int .i64))]
noncomputable def s97_2 (f54 : T54) (f133 : T133) (f122 : T122) (f134 : T134) (t3 : Int × ShD × List Int × Device × List Int × List Int × List Device × Int × Int × List Device × Int × Int × Unit) (rec K : Int × ShD × List Int × Device × List Int × List Int × List Device × Int × Int × List Device × Int × Int × Unit → Option (List Int × Unit)) : Option (List Int × Unit) :=
  cond (decide (t3.2.2.2.2.2.2.2.2.2.2.2.1 < t3.2.2.2.2.2.2.2.2.2.2.1)) (rdL t3.2.2.2.2.2.2.2.2.2.1 t3.2.2.2.2.2.2.2.2.2.2.2.1 fun d4 => cond (decide (d4.Kind = 2)) (cond (decide (d4.Line = t3.2.2.2.1.Name)) ((f54 (t3.1, 0, (w64 (t3.2.1.2.2.2.1 - 1)), ())).bind fun x5 => cond x5.1 ((f133 (t3.2.1.2.1, d4.Name, t3.1, ())).bind fun x6 => (f122 (x6.1, d4.Most, ())).bind fun x7 => capK (List.length t3.2.2.2.2.1 + List.length ([x7.1] : List Int)) (capK (List.length t3.2.2.2.2.2.1 + List.length ([t3.2.2.2.2.2.2.2.2.2.2.2.1] : List Int)) (rec (t3.1, (t3.2.1.1, t3.2.1.2.1, t3.2.1.2.2.1, t3.2.1.2.2.2.1, ()), t3.2.2.1, t3.2.2.2.1, (t3.2.2.2.2.1 ++ ([x7.1] : List Int)), (t3.2.2.2.2.2.1 ++ ([t3.2.2.2.2.2.2.2.2.2.2.2.1] : List Int)), t3.2.2.2.2.2.2.1, t3.2.2.2.2.2.2.2.1, t3.2.2.2.2.2.2.2.2.1, t3.2.2.2.2.2.2.2.2.2.1, t3.2.2.2.2.2.2.2.2.2.2.1, (w64 (t3.2.2.2.2.2.2.2.2.2.2.2.1 + 1)), ())))) (rec (t3.1, (t3.2.1.1, t3.2.1.2.1, t3.2.1.2.2.1, t3.2.1.2.2.2.1, ()), t3.2.2.1, t3.2.2.2.1, t3.2.2.2.2.1, t3.2.2.2.2.2.1, t3.2.2.2.2.2.2.1, t3.2.2.2.2.2.2.2.1, t3.2.2.2.2.2.2.2.2.1, t3.2.2.2.2.2.2.2.2.2.1, t3.2.2.2.2.2.2.2.2.2.2.1, (w64 (t3.2.2.2.2.2.2.2.2.2.2.2.1 + 1)), ()))) (rec (t3.1, (t3.2.1.1, t3.2.1.2.1, t3.2.1.2.2.1, t3.2.1.2.2.2.1, ()), t3.2.2.1, t3.2.2.2.1, t3.2.2.2.2.1, t3.2.2.2.2.2.1, t3.2.2.2.2.2.2.1, t3.2.2.2.2.2.2.2.1, t3.2.2.2.2.2.2.2.2.1, t3.2.2.2.2.2.2.2.2.2.1, t3.2.2.2.2.2.2.2.2.2.2.1, (w64 (t3.2.2.2.2.2.2.2.2.2.2.2.1 + 1)), ()))) (rec (t3.1, (t3.2.1.1, t3.2.1.2.1, t3.2.1.2.2.1, t3.2.1.2.2.2.1, ()), t3.2.2.1, t3.2.2.2.1, t3.2.2.2.2.1, t3.2.2.2.2.2.1, t3.2.2.2.2.2.2.1, t3.2.2.2.2.2.2.2.1, t3.2.2.2.2.2.2.2.2.1, t3.2.2.2.2.2.2.2.2.2.1, t3.2.2.2.2.2.2.2.2.2.2.1, (w64 (t3.2.2.2.2.2.2.2.2.2.2.2.1 + 1)), ()))) (K (t3.1, (t3.2.1.1, t3.2.1.2.1, t3.2.1.2.2.1, t3.2.1.2.2.2.1, ()), t3.2.2.1, t3.2.2.2.1, t3.2.2.2.2.1, t3.2.2.2.2.2.1, t3.2.2.2.2.2.2.1, t3.2.2.2.2.2.2.2.1, t3.2.2.2.2.2.2.2.2.1, t3.2.2.2.2.2.2.2.2.2.1, t3.2.2.2.2.2.2.2.2.2.2.1, t3.2.2.2.2.2.2.2.2.2.2.2.1, ()))
def q97_4 : List SP := pat 92 0 [(1, .one (.int .i64)), (2, .box 5004001 [.r .device, .r .cue, .r .gust, .int .i64]), (5, .one (.o 5004002 .int)), (9, .one (.o 5004003 .int)), (19, .one (.r .device)), (20, .one (.int .i64)), (21, .one (.int .i64)), (75, .one (.o 5004004 .int)), (76, .one (.int .i64)), (77, .one (.int .i64))]
noncomputable def s97_4 (f54 : T54) (f133 : T133) (f122 : T122) (f134 : T134) (t10 : Int × ShD × List Int × List Int × List Device × Int × Int × List Int × Int × Int × Unit) (rec K : Int × ShD × List Int × List Int × List Device × Int × Int × List Int × Int × Int × Unit → Option (List Int × Unit)) : Option (List Int × Unit) :=
  cond (decide (t10.2.2.2.2.2.2.2.2.2.1 < t10.2.2.2.2.2.2.2.2.1)) (rdL t10.2.2.2.2.2.2.2.1 t10.2.2.2.2.2.2.2.2.2.1 fun _ => (t10.2.2.2.2.2.2.2.1[(Int.toNat t10.2.2.2.2.2.2.2.2.2.1)]?).bind fun d11 => rdL t10.2.2.2.1 t10.2.2.2.2.2.2.2.2.2.1 fun _ => (t10.2.2.2.1[(Int.toNat t10.2.2.2.2.2.2.2.2.2.1)]?).bind fun d12 => rdL t10.2.2.1 d12 fun _ => (t10.2.2.1[(Int.toNat d12)]?).bind fun d13 => rec (t10.1, (t10.2.1.1, t10.2.1.2.1, t10.2.1.2.2.1, t10.2.1.2.2.2.1, ()), (List.set t10.2.2.1 (Int.toNat d12) d11), t10.2.2.2.1, t10.2.2.2.2.1, t10.2.2.2.2.2.1, t10.2.2.2.2.2.2.1, t10.2.2.2.2.2.2.2.1, t10.2.2.2.2.2.2.2.2.1, (w64 (t10.2.2.2.2.2.2.2.2.2.1 + 1)), ())) (K (t10.1, (t10.2.1.1, t10.2.1.2.1, t10.2.1.2.2.1, t10.2.1.2.2.2.1, ()), t10.2.2.1, t10.2.2.2.1, t10.2.2.2.2.1, t10.2.2.2.2.2.1, t10.2.2.2.2.2.2.1, t10.2.2.2.2.2.2.2.1, t10.2.2.2.2.2.2.2.2.1, t10.2.2.2.2.2.2.2.2.2.1, ()))
def q97_0 : List SP := pat 92 0 [(1, .one (.int .i64)), (2, .box 5000001 [.r .device, .r .cue, .r .gust, .int .i64]), (5, .one (.o 5000002 .int)), (19, .one (.r .device)), (20, .one (.int .i64)), (21, .one (.int .i64))]
noncomputable def s97_0 (f54 : T54) (f133 : T133) (f122 : T122) (f134 : T134) (t1 : Int × ShD × List Int × List Device × Int × Int × Unit) (rec K : Int × ShD × List Int × List Device × Int × Int × Unit → Option (List Int × Unit)) : Option (List Int × Unit) :=
  cond (decide (t1.2.2.2.2.2.1 < t1.2.2.2.2.1)) (rdL t1.2.2.2.1 t1.2.2.2.2.2.1 fun d2 => iterF (s97_2 f54 f133 f122 f134) fuel (t1.1, (t1.2.1.1, t1.2.1.2.1, t1.2.1.2.2.1, t1.2.1.2.2.2.1, ()), t1.2.2.1, d2, ([] : List Int), ([] : List Int), t1.2.2.2.1, t1.2.2.2.2.1, t1.2.2.2.2.2.1, t1.2.1.1, (Int.ofNat (List.length t1.2.1.1)), 0, ()) fun t8 => cond (decide ((Int.ofNat (List.length t8.2.2.2.2.1)) > 0)) ((f134 (t8.2.2.2.1.Most, t8.2.2.2.2.1, ())).bind fun x9 => iterF (s97_4 f54 f133 f122 f134) fuel (t8.1, (t8.2.1.1, t8.2.1.2.1, t8.2.1.2.2.1, t8.2.1.2.2.2.1, ()), t8.2.2.1, t8.2.2.2.2.2.1, t8.2.2.2.2.2.2.1, t8.2.2.2.2.2.2.2.1, t8.2.2.2.2.2.2.2.2.1, x9.1, (Int.ofNat (List.length x9.1)), 0, ()) fun t14 => rec (t14.1, (t14.2.1.1, t14.2.1.2.1, t14.2.1.2.2.1, t14.2.1.2.2.2.1, ()), t14.2.2.1, t14.2.2.2.2.1, t14.2.2.2.2.2.1, (w64 (t14.2.2.2.2.2.2.1 + 1)), ())) (rec (t8.1, (t8.2.1.1, t8.2.1.2.1, t8.2.1.2.2.1, t8.2.1.2.2.2.1, ()), t8.2.2.1, t8.2.2.2.2.2.2.1, t8.2.2.2.2.2.2.2.1, (w64 (t8.2.2.2.2.2.2.2.2.1 + 1)), ()))) (K (t1.1, (t1.2.1.1, t1.2.1.2.1, t1.2.1.2.2.1, t1.2.1.2.2.2.1, ()), t1.2.2.1, t1.2.2.2.1, t1.2.2.2.2.1, t1.2.2.2.2.2.1, ()))
noncomputable def F97 (f54 : T54) (f133 : T133) (f122 : T122) (f134 : T134) (a : ShD × Int × Unit) : Option (List Int × Unit) :=
  okIf ((0 : Int) ≤ (Int.ofNat (List.length a.1.1))) (capK (Int.toNat (Int.ofNat (List.length a.1.1))) (iterF (s97_0 f54 f133 f122 f134) fuel (a.2.1, (a.1.1, a.1.2.1, a.1.2.2.1, a.1.2.2.2.1, ()), (List.replicate (Int.toNat (Int.ofNat (List.length a.1.1))) (Ty.zero .int)), a.1.1, (Int.ofNat (List.length a.1.1)), 0, ()) fun t15 => some (t15.2.2.1, ())))
def E97 (f54 : T54) (f133 : T133) (f122 : T122) (f134 : T134) : Env := envL [(54, N54 f54), (133, N133 f133), (122, N122 f122), (134, N134 f134)]
noncomputable def L97 (f54 : T54) (f133 : T133) (f122 : T122) (f134 : T134) : LEnv (densS (muts p97 ++ r97)) := lenv [(0, loopL (R := densS (muts p97 ++ r97)) q97_0 (s97_0 f54 f133 f122 f134)), (2, loopL (R := densS (muts p97 ++ r97)) q97_2 (s97_2 f54 f133 f122 f134)), (4, loopL (R := densS (muts p97 ++ r97)) q97_4 (s97_4 f54 f133 f122 f134))]
theorem e97_0 (f54 : T54) (f133 : T133) (f122 : T122) (f134 : T134) (X : Nat → St → Option (densS (muts p97 ++ r97))) (rec K : densS q97_0 → Option (densS (muts p97 ++ r97))) (t : densS q97_0) :
    ev (E97 f54 f133 f122 f134) tab (fun _ => false) (L97 f54 f133 f122 f134) (retK tab p97 r97 Proofs.Tryz.f97.results.toList) (loopC Proofs.Tryz.f97 0) (fun i s => cond (Nat.beq i 0) (decK 100 q97_0 s K) (X i s)) (fun s => decK 100 q97_0 s rec) (enc q97_0 t) = s97_0 f54 f133 f122 f134 t rec K := by kernel_rfl
theorem e97_2 (f54 : T54) (f133 : T133) (f122 : T122) (f134 : T134) (X : Nat → St → Option (densS (muts p97 ++ r97))) (rec K : densS q97_2 → Option (densS (muts p97 ++ r97))) (t : densS q97_2) :
    ev (E97 f54 f133 f122 f134) tab (fun _ => false) (L97 f54 f133 f122 f134) (retK tab p97 r97 Proofs.Tryz.f97.results.toList) (loopC Proofs.Tryz.f97 1) (fun i s => cond (Nat.beq i 2) (decK 100 q97_2 s K) (X i s)) (fun s => decK 100 q97_2 s rec) (enc q97_2 t) = s97_2 f54 f133 f122 f134 t rec K := by kernel_rfl
theorem e97_4 (f54 : T54) (f133 : T133) (f122 : T122) (f134 : T134) (X : Nat → St → Option (densS (muts p97 ++ r97))) (rec K : densS q97_4 → Option (densS (muts p97 ++ r97))) (t : densS q97_4) :
    ev (E97 f54 f133 f122 f134) tab (fun _ => false) (L97 f54 f133 f122 f134) (retK tab p97 r97 Proofs.Tryz.f97.results.toList) (loopC Proofs.Tryz.f97 2) (fun i s => cond (Nat.beq i 4) (decK 100 q97_4 s K) (X i s)) (fun s => decK 100 q97_4 s rec) (enc q97_4 t) = s97_4 f54 f133 f122 f134 t rec K := by kernel_rfl
theorem e97 (f54 : T54) (f133 : T133) (f122 : T122) (f134 : T134) (a : densS p97) : runF (E97 f54 f133 f122 f134) tab (fun _ => false) p97 r97 Proofs.Tryz.f97 (L97 f54 f133 f122 f134) a = F97 f54 f133 f122 f134 a := by kernel_rfl
theorem ok97 {f54 : T54} {f133 : T133} {f122 : T122} {f134 : T134} (h54 : OK Proofs.Tryz.prog 54 (N54 f54)) (h133 : OK Proofs.Tryz.prog 133 (N133 f133)) (h122 : OK Proofs.Tryz.prog 122 (N122 f122)) (h134 : OK Proofs.Tryz.prog 134 (N134 f134)) : OK Proofs.Tryz.prog 97 (mkE p97 r97 false (F97 f54 f133 f122 f134)) :=
  fn_ok (E := E97 f54 f133 f122 f134) tab_ok (envL_ok (OKs.cons h54 (OKs.cons h133 (OKs.cons h122 (OKs.cons h134 OKs.nil))))) mixed (ann := (fun _ => false)) (L := L97 f54 f133 f122 f134) (fn := Proofs.Tryz.f97) (c := bodyC Proofs.Tryz.f97) (ls := [(0, loopC Proofs.Tryz.f97 0), (2, loopC Proofs.Tryz.f97 1), (4, loopC Proofs.Tryz.f97 2)]) Proofs.Tryz.func97 (by kernel_rfl) (by kernel_rfl) (by kernel_rfl) (by kernel_rfl)
    (LoopsP.cons q97_0 (s97_0 f54 f133 f122 f134) rfl (e97_0 f54 f133 f122 f134) (LoopsP.cons q97_2 (s97_2 f54 f133 f122 f134) rfl (e97_2 f54 f133 f122 f134) (LoopsP.cons q97_4 (s97_4 f54 f133 f122 f134) rfl (e97_4 f54 f133 f122 f134) LoopsP.nil))) (e97 f54 f133 f122 f134)
/-! spec.l9Jet -/
def p98 : List SP := [.t .device, .one (.int .i64)]
def r98 : List SP := [.t .jet]
abbrev T98 := Device × Int × Unit → Option (Jet × Unit)
abbrev N98 (f : T98) : Entry := mkE p98 r98 false f
noncomputable def F98 (a : Device × Int × Unit) : Option (Jet × Unit) :=
  some ((⟨⟨a.1.At.X, a.1.At.Y⟩, a.1.Heading, a.1.Tilt, a.2.1⟩ : Jet), ())
def E98 : Env := envL []
noncomputable def L98 : LEnv (densS (muts p98 ++ r98)) := lenv []
theorem e98 (a : densS p98) : runF (E98) tab (fun _ => false) p98 r98 Proofs.Tryz.f98 (L98) a = F98 a := by kernel_rfl
theorem ok98 : OK Proofs.Tryz.prog 98 (mkE p98 r98 false (F98)) :=
  fn_ok (E := E98) tab_ok (envL_ok OKs.nil) mixed (ann := (fun _ => false)) (L := L98) (fn := Proofs.Tryz.f98) (c := bodyC Proofs.Tryz.f98) (ls := []) Proofs.Tryz.func98 (by kernel_rfl) (by kernel_rfl) (by kernel_rfl) (by kernel_rfl)
    LoopsP.nil (e98)
/-! spec.l9All -/
def p58 : List SP := [.agg [.r .device, .r .cue, .r .gust, .int .i64]]
def r58 : List SP := [.one (.o 0 .throw)]
abbrev T58 := ShD × Unit → Option (List Throw × Unit)
abbrev N58 (f : T58) : Entry := mkE p58 r58 false f
def q58_2 : List SP := pat 45 0 [(1, .box 5002001 [.r .device, .r .cue, .r .gust, .int .i64]), (3, .one (.o 5002002 .throw)), (4, .one (.int .i64)), (16, .one (.o 5002003 .int)), (17, .one (.int .i64)), (18, .one (.int .i64))]
noncomputable def s58_2 (f97 : T97) (f98 : T98) (t3 : ShD × List Throw × Int × List Int × Int × Int × Unit) (rec K : ShD × List Throw × Int × List Int × Int × Int × Unit → Option (List Throw × Unit)) : Option (List Throw × Unit) :=
  cond (decide (t3.2.2.2.2.2.1 < t3.2.2.2.2.1)) (rdL t3.2.2.2.1 t3.2.2.2.2.2.1 fun _ => (t3.2.2.2.1[(Int.toNat t3.2.2.2.2.2.1)]?).bind fun d4 => cond (decide (d4 > 0)) (rdL t3.1.1 t3.2.2.2.2.2.1 fun d5 => rdL t3.1.1 t3.2.2.2.2.2.1 fun d6 => (f98 (d6, d4, ())).bind fun x7 => capK (List.length t3.2.1 + List.length ([(⟨d5.Name, t3.2.2.1, ⟨⟨x7.1.At.X, x7.1.At.Y⟩, x7.1.Heading, x7.1.Tilt, x7.1.Lift⟩⟩ : Throw)] : List Throw)) (rec ((t3.1.1, t3.1.2.1, t3.1.2.2.1, t3.1.2.2.2.1, ()), (t3.2.1 ++ ([(⟨d5.Name, t3.2.2.1, ⟨⟨x7.1.At.X, x7.1.At.Y⟩, x7.1.Heading, x7.1.Tilt, x7.1.Lift⟩⟩ : Throw)] : List Throw)), t3.2.2.1, t3.2.2.2.1, t3.2.2.2.2.1, (w64 (t3.2.2.2.2.2.1 + 1)), ()))) (rec ((t3.1.1, t3.1.2.1, t3.1.2.2.1, t3.1.2.2.2.1, ()), t3.2.1, t3.2.2.1, t3.2.2.2.1, t3.2.2.2.2.1, (w64 (t3.2.2.2.2.2.1 + 1)), ()))) (K ((t3.1.1, t3.1.2.1, t3.1.2.2.1, t3.1.2.2.2.1, ()), t3.2.1, t3.2.2.1, t3.2.2.2.1, t3.2.2.2.2.1, t3.2.2.2.2.2.1, ()))
def q58_0 : List SP := pat 45 0 [(1, .box 5000001 [.r .device, .r .cue, .r .gust, .int .i64]), (3, .one (.o 5000002 .throw)), (4, .one (.int .i64))]
noncomputable def s58_0 (f97 : T97) (f98 : T98) (t1 : ShD × List Throw × Int × Unit) (rec K : ShD × List Throw × Int × Unit → Option (List Throw × Unit)) : Option (List Throw × Unit) :=
  cond (decide (t1.2.2.1 < t1.1.2.2.2.1)) ((f97 ((t1.1.1, t1.1.2.1, t1.1.2.2.1, t1.1.2.2.2.1, ()), t1.2.2.1, ())).bind fun x2 => iterF (s58_2 f97 f98) fuel ((t1.1.1, t1.1.2.1, t1.1.2.2.1, t1.1.2.2.2.1, ()), t1.2.1, t1.2.2.1, x2.1, (Int.ofNat (List.length x2.1)), 0, ()) fun t8 => rec ((t8.1.1, t8.1.2.1, t8.1.2.2.1, t8.1.2.2.2.1, ()), t8.2.1, (w64 (t8.2.2.1 + 1)), ())) (K ((t1.1.1, t1.1.2.1, t1.1.2.2.1, t1.1.2.2.2.1, ()), t1.2.1, t1.2.2.1, ()))
noncomputable def F58 (f97 : T97) (f98 : T98) (a : ShD × Unit) : Option (List Throw × Unit) :=
  iterF (s58_0 f97 f98) fuel ((a.1.1, a.1.2.1, a.1.2.2.1, a.1.2.2.2.1, ()), ([] : List Throw), 0, ()) fun t9 => some (t9.2.1, ())
def E58 (f97 : T97) (f98 : T98) : Env := envL [(97, N97 f97), (98, N98 f98)]
noncomputable def L58 (f97 : T97) (f98 : T98) : LEnv (densS (muts p58 ++ r58)) := lenv [(0, loopL (R := densS (muts p58 ++ r58)) q58_0 (s58_0 f97 f98)), (2, loopL (R := densS (muts p58 ++ r58)) q58_2 (s58_2 f97 f98))]
theorem e58_0 (f97 : T97) (f98 : T98) (X : Nat → St → Option (densS (muts p58 ++ r58))) (rec K : densS q58_0 → Option (densS (muts p58 ++ r58))) (t : densS q58_0) :
    ev (E58 f97 f98) tab (fun _ => false) (L58 f97 f98) (retK tab p58 r58 Proofs.Tryz.f58.results.toList) (loopC Proofs.Tryz.f58 0) (fun i s => cond (Nat.beq i 0) (decK 100 q58_0 s K) (X i s)) (fun s => decK 100 q58_0 s rec) (enc q58_0 t) = s58_0 f97 f98 t rec K := by kernel_rfl
theorem e58_2 (f97 : T97) (f98 : T98) (X : Nat → St → Option (densS (muts p58 ++ r58))) (rec K : densS q58_2 → Option (densS (muts p58 ++ r58))) (t : densS q58_2) :
    ev (E58 f97 f98) tab (fun _ => false) (L58 f97 f98) (retK tab p58 r58 Proofs.Tryz.f58.results.toList) (loopC Proofs.Tryz.f58 1) (fun i s => cond (Nat.beq i 2) (decK 100 q58_2 s K) (X i s)) (fun s => decK 100 q58_2 s rec) (enc q58_2 t) = s58_2 f97 f98 t rec K := by kernel_rfl
theorem e58 (f97 : T97) (f98 : T98) (a : densS p58) : runF (E58 f97 f98) tab (fun _ => false) p58 r58 Proofs.Tryz.f58 (L58 f97 f98) a = F58 f97 f98 a := by kernel_rfl
theorem ok58 {f97 : T97} {f98 : T98} (h97 : OK Proofs.Tryz.prog 97 (N97 f97)) (h98 : OK Proofs.Tryz.prog 98 (N98 f98)) : OK Proofs.Tryz.prog 58 (mkE p58 r58 false (F58 f97 f98)) :=
  fn_ok (E := E58 f97 f98) tab_ok (envL_ok (OKs.cons h97 (OKs.cons h98 OKs.nil))) mixed (ann := (fun _ => false)) (L := L58 f97 f98) (fn := Proofs.Tryz.f58) (c := bodyC Proofs.Tryz.f58) (ls := [(0, loopC Proofs.Tryz.f58 0), (2, loopC Proofs.Tryz.f58 1)]) Proofs.Tryz.func58 (by kernel_rfl) (by kernel_rfl) (by kernel_rfl) (by kernel_rfl)
    (LoopsP.cons q58_0 (s58_0 f97 f98) rfl (e58_0 f97 f98) (LoopsP.cons q58_2 (s58_2 f97 f98) rfl (e58_2 f97 f98) LoopsP.nil)) (e58 f97 f98)
/-! spec.FlightOf -/
def p27 : List SP := [.t .jet]
def r27 : List SP := [.one (.int .i64)]
abbrev T27 := Jet × Unit → Option (Int × Unit)
abbrev N27 (f : T27) : Entry := mkE p27 r27 false f
def q27_0 : List SP := pat 24 0 [(3, .one (.int .i64)), (4, .one (.int .i64)), (5, .one (.int .i64))]
noncomputable def s27_0 (f63 : T63) (t2 : Int × Int × Int × Unit) (rec K : Int × Int × Int × Unit → Option (Int × Unit)) : Option (Int × Unit) :=
  cond (decide (t2.2.1 > 0)) (rec ((w64 (t2.1 + 1)), (w64 (t2.2.1 + t2.2.2.1)), (w64 (t2.2.2.1 - 2)), ())) (K (t2.1, t2.2.1, t2.2.2.1, ()))
noncomputable def F27 (f63 : T63) (a : Jet × Unit) : Option (Int × Unit) :=
  (f63 (a.1, ())).bind fun x1 => cond (!x1.1) (some (0, ())) (iterF (s27_0 f63) fuel (1, a.1.Lift, (w64 (a.1.Lift - 2)), ()) fun t3 => some (t3.1, ()))
def E27 (f63 : T63) : Env := envL [(63, N63 f63)]
noncomputable def L27 (f63 : T63) : LEnv (densS (muts p27 ++ r27)) := lenv [(0, loopL (R := densS (muts p27 ++ r27)) q27_0 (s27_0 f63))]
theorem e27_0 (f63 : T63) (X : Nat → St → Option (densS (muts p27 ++ r27))) (rec K : densS q27_0 → Option (densS (muts p27 ++ r27))) (t : densS q27_0) :
    ev (E27 f63) tab (fun _ => false) (L27 f63) (retK tab p27 r27 Proofs.Tryz.f27.results.toList) (loopC Proofs.Tryz.f27 0) (fun i s => cond (Nat.beq i 0) (decK 100 q27_0 s K) (X i s)) (fun s => decK 100 q27_0 s rec) (enc q27_0 t) = s27_0 f63 t rec K := by kernel_rfl
theorem e27 (f63 : T63) (a : densS p27) : runF (E27 f63) tab (fun _ => false) p27 r27 Proofs.Tryz.f27 (L27 f63) a = F27 f63 a := by kernel_rfl
theorem ok27 {f63 : T63} (h63 : OK Proofs.Tryz.prog 63 (N63 f63)) : OK Proofs.Tryz.prog 27 (mkE p27 r27 false (F27 f63)) :=
  fn_ok (E := E27 f63) tab_ok (envL_ok (OKs.cons h63 OKs.nil)) mixed (ann := (fun _ => false)) (L := L27 f63) (fn := Proofs.Tryz.f27) (c := bodyC Proofs.Tryz.f27) (ls := [(0, loopC Proofs.Tryz.f27 0)]) Proofs.Tryz.func27 (by kernel_rfl) (by kernel_rfl) (by kernel_rfl) (by kernel_rfl)
    (LoopsP.cons q27_0 (s27_0 f63) rfl (e27_0 f63) LoopsP.nil) (e27 f63)
/-! spec.l2Mod -/
def p99 : List SP := [.one (.int .i64)]
def r99 : List SP := [.one (.int .i64)]
abbrev T99 := Int × Unit → Option (Int × Unit)
abbrev N99 (f : T99) : Entry := mkE p99 r99 false f
noncomputable def F99 (a : Int × Unit) : Option (Int × Unit) :=
  cond (decide ((Int.tmod a.1 4) < 0)) (some ((w64 ((Int.tmod a.1 4) + 4)), ())) (some ((Int.tmod a.1 4), ()))
def E99 : Env := envL []
noncomputable def L99 : LEnv (densS (muts p99 ++ r99)) := lenv []
theorem e99 (a : densS p99) : runF (E99) tab (fun _ => false) p99 r99 Proofs.Tryz.f99 (L99) a = F99 a := by kernel_rfl
theorem ok99 : OK Proofs.Tryz.prog 99 (mkE p99 r99 false (F99)) :=
  fn_ok (E := E99) tab_ok (envL_ok OKs.nil) mixed (ann := (fun _ => false)) (L := L99) (fn := Proofs.Tryz.f99) (c := bodyC Proofs.Tryz.f99) (ls := []) Proofs.Tryz.func99 (by kernel_rfl) (by kernel_rfl) (by kernel_rfl) (by kernel_rfl)
    LoopsP.nil (e99)
/-! spec.l2Turn -/
def p61 : List SP := [.t .place, .one (.int .i64)]
def r61 : List SP := [.t .place]
abbrev T61 := Place × Int × Unit → Option (Place × Unit)
abbrev N61 (f : T61) : Entry := mkE p61 r61 false f
def q61_0 : List SP := pat 19 0 [(2, .boxt 5000001 .place), (4, .boxt 5000002 .place), (5, .one (.int .i64))]
noncomputable def s61_0 (f99 : T99) (t2 : Place × Place × Int × Unit) (rec K : Place × Place × Int × Unit → Option (Place × Unit)) : Option (Place × Unit) :=
  cond (decide (t2.2.2.1 > 0)) (rec ((⟨(w64 (0 - t2.1.Y)), t2.1.X⟩ : Place), t2.2.1, (w64 (t2.2.2.1 - 1)), ())) (K (t2.1, t2.2.1, t2.2.2.1, ()))
noncomputable def F61 (f99 : T99) (a : Place × Int × Unit) : Option (Place × Unit) :=
  (f99 (a.2.1, ())).bind fun x1 => iterF (s61_0 f99) fuel (a.1, (⟨0, 0⟩ : Place), x1.1, ()) fun t3 => some (t3.1, ())
def E61 (f99 : T99) : Env := envL [(99, N99 f99)]
noncomputable def L61 (f99 : T99) : LEnv (densS (muts p61 ++ r61)) := lenv [(0, loopL (R := densS (muts p61 ++ r61)) q61_0 (s61_0 f99))]
theorem e61_0 (f99 : T99) (X : Nat → St → Option (densS (muts p61 ++ r61))) (rec K : densS q61_0 → Option (densS (muts p61 ++ r61))) (t : densS q61_0) :
    ev (E61 f99) tab (fun _ => false) (L61 f99) (retK tab p61 r61 Proofs.Tryz.f61.results.toList) (loopC Proofs.Tryz.f61 0) (fun i s => cond (Nat.beq i 0) (decK 100 q61_0 s K) (X i s)) (fun s => decK 100 q61_0 s rec) (enc q61_0 t) = s61_0 f99 t rec K := by kernel_rfl
theorem e61 (f99 : T99) (a : densS p61) : runF (E61 f99) tab (fun _ => false) p61 r61 Proofs.Tryz.f61 (L61 f99) a = F61 f99 a := by kernel_rfl
theorem ok61 {f99 : T99} (h99 : OK Proofs.Tryz.prog 99 (N99 f99)) : OK Proofs.Tryz.prog 61 (mkE p61 r61 false (F61 f99)) :=
  fn_ok (E := E61 f99) tab_ok (envL_ok (OKs.cons h99 OKs.nil)) mixed (ann := (fun _ => false)) (L := L61 f99) (fn := Proofs.Tryz.f61) (c := bodyC Proofs.Tryz.f61) (ls := [(0, loopC Proofs.Tryz.f61 0)]) Proofs.Tryz.func61 (by kernel_rfl) (by kernel_rfl) (by kernel_rfl) (by kernel_rfl)
    (LoopsP.cons q61_0 (s61_0 f99) rfl (e61_0 f99) LoopsP.nil) (e61 f99)
/-! spec.l2Add -/
def p30 : List SP := [.t .place, .t .place]
def r30 : List SP := [.t .place]
abbrev T30 := Place × Place × Unit → Option (Place × Unit)
abbrev N30 (f : T30) : Entry := mkE p30 r30 false f
noncomputable def F30 (a : Place × Place × Unit) : Option (Place × Unit) :=
  some ((⟨(w64 (a.1.X + a.2.1.X)), (w64 (a.1.Y + a.2.1.Y))⟩ : Place), ())
def E30 : Env := envL []
noncomputable def L30 : LEnv (densS (muts p30 ++ r30)) := lenv []
theorem e30 (a : densS p30) : runF (E30) tab (fun _ => false) p30 r30 Proofs.Tryz.f30 (L30) a = F30 a := by kernel_rfl
theorem ok30 : OK Proofs.Tryz.prog 30 (mkE p30 r30 false (F30)) :=
  fn_ok (E := E30) tab_ok (envL_ok OKs.nil) mixed (ann := (fun _ => false)) (L := L30) (fn := Proofs.Tryz.f30) (c := bodyC Proofs.Tryz.f30) (ls := []) Proofs.Tryz.func30 (by kernel_rfl) (by kernel_rfl) (by kernel_rfl) (by kernel_rfl)
    LoopsP.nil (e30)
/-! spec.l3Place -/
def p100 : List SP := [.t .jet, .one (.int .i64)]
def r100 : List SP := [.t .place]
abbrev T100 := Jet × Int × Unit → Option (Place × Unit)
abbrev N100 (f : T100) : Entry := mkE p100 r100 false f
noncomputable def F100 (f61 : T61) (f30 : T30) (a : Jet × Int × Unit) : Option (Place × Unit) :=
  (f61 ((⟨(w64 (a.2.1 * a.1.Tilt)), 0⟩ : Place), a.1.Heading, ())).bind fun x1 => (f30 (a.1.At, x1.1, ())).bind fun x2 => some (x2.1, ())
def E100 (f61 : T61) (f30 : T30) : Env := envL [(61, N61 f61), (30, N30 f30)]
noncomputable def L100 (f61 : T61) (f30 : T30) : LEnv (densS (muts p100 ++ r100)) := lenv []
theorem e100 (f61 : T61) (f30 : T30) (a : densS p100) : runF (E100 f61 f30) tab (fun _ => false) p100 r100 Proofs.Tryz.f100 (L100 f61 f30) a = F100 f61 f30 a := by kernel_rfl
theorem ok100 {f61 : T61} {f30 : T30} (h61 : OK Proofs.Tryz.prog 61 (N61 f61)) (h30 : OK Proofs.Tryz.prog 30 (N30 f30)) : OK Proofs.Tryz.prog 100 (mkE p100 r100 false (F100 f61 f30)) :=
  fn_ok (E := E100 f61 f30) tab_ok (envL_ok (OKs.cons h61 (OKs.cons h30 OKs.nil))) mixed (ann := (fun _ => false)) (L := L100 f61 f30) (fn := Proofs.Tryz.f100) (c := bodyC Proofs.Tryz.f100) (ls := []) Proofs.Tryz.func100 (by kernel_rfl) (by kernel_rfl) (by kernel_rfl) (by kernel_rfl)
    LoopsP.nil (e100 f61 f30)
/-! spec.PlaceAt -/
def p62 : List SP := [.t .jet, .one (.int .i64)]
def r62 : List SP := [.t .place, .one (.bool)]
abbrev T62 := Jet × Int × Unit → Option (Place × Bool × Unit)
abbrev N62 (f : T62) : Entry := mkE p62 r62 false f
noncomputable def F62 (f63 : T63) (f27 : T27) (f100 : T100) (a : Jet × Int × Unit) : Option (Place × Bool × Unit) :=
  (f63 (a.1, ())).bind fun x1 => cond (!(!x1.1)) (cond (!(decide (a.2.1 < 0))) ((f27 (a.1, ())).bind fun x2 => cond (decide (a.2.1 > x2.1)) (some ((⟨0, 0⟩ : Place), false, ())) ((f100 (a.1, a.2.1, ())).bind fun x3 => some (x3.1, true, ()))) (some ((⟨0, 0⟩ : Place), false, ()))) (some ((⟨0, 0⟩ : Place), false, ()))
def E62 (f63 : T63) (f27 : T27) (f100 : T100) : Env := envL [(63, N63 f63), (27, N27 f27), (100, N100 f100)]
noncomputable def L62 (f63 : T63) (f27 : T27) (f100 : T100) : LEnv (densS (muts p62 ++ r62)) := lenv []
theorem e62 (f63 : T63) (f27 : T27) (f100 : T100) (a : densS p62) : runF (E62 f63 f27 f100) tab (fun _ => false) p62 r62 Proofs.Tryz.f62 (L62 f63 f27 f100) a = F62 f63 f27 f100 a := by kernel_rfl
theorem ok62 {f63 : T63} {f27 : T27} {f100 : T100} (h63 : OK Proofs.Tryz.prog 63 (N63 f63)) (h27 : OK Proofs.Tryz.prog 27 (N27 f27)) (h100 : OK Proofs.Tryz.prog 100 (N100 f100)) : OK Proofs.Tryz.prog 62 (mkE p62 r62 false (F62 f63 f27 f100)) :=
  fn_ok (E := E62 f63 f27 f100) tab_ok (envL_ok (OKs.cons h63 (OKs.cons h27 (OKs.cons h100 OKs.nil)))) mixed (ann := (fun _ => false)) (L := L62 f63 f27 f100) (fn := Proofs.Tryz.f62) (c := bodyC Proofs.Tryz.f62) (ls := []) Proofs.Tryz.func62 (by kernel_rfl) (by kernel_rfl) (by kernel_rfl) (by kernel_rfl)
    LoopsP.nil (e62 f63 f27 f100)
/-! spec.LandingOf -/
def p26 : List SP := [.t .jet]
def r26 : List SP := [.t .place, .one (.bool)]
abbrev T26 := Jet × Unit → Option (Place × Bool × Unit)
abbrev N26 (f : T26) : Entry := mkE p26 r26 false f
noncomputable def F26 (f27 : T27) (f62 : T62) (a : Jet × Unit) : Option (Place × Bool × Unit) :=
  (f27 (a.1, ())).bind fun x1 => (f62 (a.1, x1.1, ())).bind fun x2 => some (x2.1, x2.2.1, ())
def E26 (f27 : T27) (f62 : T62) : Env := envL [(27, N27 f27), (62, N62 f62)]
noncomputable def L26 (f27 : T27) (f62 : T62) : LEnv (densS (muts p26 ++ r26)) := lenv []
theorem e26 (f27 : T27) (f62 : T62) (a : densS p26) : runF (E26 f27 f62) tab (fun _ => false) p26 r26 Proofs.Tryz.f26 (L26 f27 f62) a = F26 f27 f62 a := by kernel_rfl
theorem ok26 {f27 : T27} {f62 : T62} (h27 : OK Proofs.Tryz.prog 27 (N27 f27)) (h62 : OK Proofs.Tryz.prog 62 (N62 f62)) : OK Proofs.Tryz.prog 26 (mkE p26 r26 false (F26 f27 f62)) :=
  fn_ok (E := E26 f27 f62) tab_ok (envL_ok (OKs.cons h27 (OKs.cons h62 OKs.nil))) mixed (ann := (fun _ => false)) (L := L26 f27 f62) (fn := Proofs.Tryz.f26) (c := bodyC Proofs.Tryz.f26) (ls := []) Proofs.Tryz.func26 (by kernel_rfl) (by kernel_rfl) (by kernel_rfl) (by kernel_rfl)
    LoopsP.nil (e26 f27 f62)
/-! spec.l1Max -/
def p196 : List SP := [.one (.int .i64), .one (.int .i64)]
def r196 : List SP := [.one (.int .i64)]
abbrev T196 := Int × Int × Unit → Option (Int × Unit)
abbrev N196 (f : T196) : Entry := mkE p196 r196 false f
noncomputable def F196 (a : Int × Int × Unit) : Option (Int × Unit) :=
  cond (decide (a.1 > a.2.1)) (some (a.1, ())) (some (a.2.1, ()))
def E196 : Env := envL []
noncomputable def L196 : LEnv (densS (muts p196 ++ r196)) := lenv []
theorem e196 (a : densS p196) : runF (E196) tab (fun _ => false) p196 r196 Proofs.Tryz.f196 (L196) a = F196 a := by kernel_rfl
theorem ok196 : OK Proofs.Tryz.prog 196 (mkE p196 r196 false (F196)) :=
  fn_ok (E := E196) tab_ok (envL_ok OKs.nil) mixed (ann := (fun _ => false)) (L := L196) (fn := Proofs.Tryz.f196) (c := bodyC Proofs.Tryz.f196) (ls := []) Proofs.Tryz.func196 (by kernel_rfl) (by kernel_rfl) (by kernel_rfl) (by kernel_rfl)
    LoopsP.nil (e196)
/-! spec.BoxOf -/
def p161 : List SP := [.one (.r .place)]
def r161 : List SP := [.t .box, .one (.bool)]
abbrev T161 := List Place × Unit → Option (Box × Bool × Unit)
abbrev N161 (f : T161) : Entry := mkE p161 r161 false f
def q161_0 : List SP := pat 57 0 [(0, .one (.r .place)), (2, .boxt 5000001 .box), (4, .boxt 5000002 .box), (8, .one (.r .place)), (9, .one (.int .i64)), (10, .one (.int .i64))]
noncomputable def s161_0 (f57 : T57) (f122 : T122) (f196 : T196) (t1 : List Place × Box × Box × List Place × Int × Int × Unit) (rec K : List Place × Box × Box × List Place × Int × Int × Unit → Option (Box × Bool × Unit)) : Option (Box × Bool × Unit) :=
  cond (decide (t1.2.2.2.2.2.1 < t1.2.2.2.2.1)) (rdL t1.2.2.2.1 t1.2.2.2.2.2.1 fun d2 => (f57 (d2, ())).bind fun x3 => cond (!x3.1) (some ((⟨⟨0, 0⟩, ⟨0, 0⟩⟩ : Box), false, ())) (cond (decide (t1.2.2.2.2.2.1 = 0)) ((f122 (d2.X, d2.X, ())).bind fun x4 => (f122 (d2.Y, d2.Y, ())).bind fun x5 => (f196 (d2.X, d2.X, ())).bind fun x6 => (f196 (d2.Y, d2.Y, ())).bind fun x7 => rec (t1.1, t1.2.1, (⟨⟨x4.1, x5.1⟩, ⟨x6.1, x7.1⟩⟩ : Box), t1.2.2.2.1, t1.2.2.2.2.1, (w64 (t1.2.2.2.2.2.1 + 1)), ())) ((f122 (t1.2.2.1.Low.X, d2.X, ())).bind fun x8 => (f122 (t1.2.2.1.Low.Y, d2.Y, ())).bind fun x9 => (f196 (t1.2.2.1.High.X, d2.X, ())).bind fun x10 => (f196 (t1.2.2.1.High.Y, d2.Y, ())).bind fun x11 => rec (t1.1, t1.2.1, (⟨⟨x8.1, x9.1⟩, ⟨x10.1, x11.1⟩⟩ : Box), t1.2.2.2.1, t1.2.2.2.2.1, (w64 (t1.2.2.2.2.2.1 + 1)), ())))) (K (t1.1, t1.2.1, t1.2.2.1, t1.2.2.2.1, t1.2.2.2.2.1, t1.2.2.2.2.2.1, ()))
noncomputable def F161 (f57 : T57) (f122 : T122) (f196 : T196) (a : List Place × Unit) : Option (Box × Bool × Unit) :=
  iterF (s161_0 f57 f122 f196) fuel (a.1, (⟨⟨0, 0⟩, ⟨0, 0⟩⟩ : Box), (⟨⟨0, 0⟩, ⟨0, 0⟩⟩ : Box), a.1, (Int.ofNat (List.length a.1)), 0, ()) fun t12 => some (t12.2.2.1, (decide ((Int.ofNat (List.length t12.1)) > 0)), ())
def E161 (f57 : T57) (f122 : T122) (f196 : T196) : Env := envL [(57, N57 f57), (122, N122 f122), (196, N196 f196)]
noncomputable def L161 (f57 : T57) (f122 : T122) (f196 : T196) : LEnv (densS (muts p161 ++ r161)) := lenv [(0, loopL (R := densS (muts p161 ++ r161)) q161_0 (s161_0 f57 f122 f196))]
theorem e161_0 (f57 : T57) (f122 : T122) (f196 : T196) (X : Nat → St → Option (densS (muts p161 ++ r161))) (rec K : densS q161_0 → Option (densS (muts p161 ++ r161))) (t : densS q161_0) :
    ev (E161 f57 f122 f196) tab (fun _ => false) (L161 f57 f122 f196) (retK tab p161 r161 Proofs.Tryz.f161.results.toList) (loopC Proofs.Tryz.f161 0) (fun i s => cond (Nat.beq i 0) (decK 100 q161_0 s K) (X i s)) (fun s => decK 100 q161_0 s rec) (enc q161_0 t) = s161_0 f57 f122 f196 t rec K := by kernel_rfl
theorem e161 (f57 : T57) (f122 : T122) (f196 : T196) (a : densS p161) : runF (E161 f57 f122 f196) tab (fun _ => false) p161 r161 Proofs.Tryz.f161 (L161 f57 f122 f196) a = F161 f57 f122 f196 a := by kernel_rfl
theorem ok161 {f57 : T57} {f122 : T122} {f196 : T196} (h57 : OK Proofs.Tryz.prog 57 (N57 f57)) (h122 : OK Proofs.Tryz.prog 122 (N122 f122)) (h196 : OK Proofs.Tryz.prog 196 (N196 f196)) : OK Proofs.Tryz.prog 161 (mkE p161 r161 false (F161 f57 f122 f196)) :=
  fn_ok (E := E161 f57 f122 f196) tab_ok (envL_ok (OKs.cons h57 (OKs.cons h122 (OKs.cons h196 OKs.nil)))) mixed (ann := (fun _ => false)) (L := L161 f57 f122 f196) (fn := Proofs.Tryz.f161) (c := bodyC Proofs.Tryz.f161) (ls := [(0, loopC Proofs.Tryz.f161 0)]) Proofs.Tryz.func161 (by kernel_rfl) (by kernel_rfl) (by kernel_rfl) (by kernel_rfl)
    (LoopsP.cons q161_0 (s161_0 f57 f122 f196) rfl (e161_0 f57 f122 f196) LoopsP.nil) (e161 f57 f122 f196)
/-! spec.RoseBox -/
def p195 : List SP := [.one (.r .place), .one (.int .i64)]
def r195 : List SP := [.t .box, .one (.bool)]
abbrev T195 := List Place × Int × Unit → Option (Box × Bool × Unit)
abbrev N195 (f : T195) : Entry := mkE p195 r195 false f
noncomputable def F195 (f161 : T161) (f22 : T22) (a : List Place × Int × Unit) : Option (Box × Bool × Unit) :=
  (f161 (a.1, ())).bind fun x1 => (f22 (a.1, ())).bind fun x2 => cond (!(!x2.1)) (cond (!(decide (a.2.1 < 0))) (cond (decide (a.2.1 > 128)) (some ((⟨⟨0, 0⟩, ⟨0, 0⟩⟩ : Box), false, ())) (some ((⟨⟨(w64 (a.2.1 * x1.1.Low.X)), (w64 (a.2.1 * x1.1.Low.Y))⟩, ⟨(w64 (a.2.1 * x1.1.High.X)), (w64 (a.2.1 * x1.1.High.Y))⟩⟩ : Box), true, ()))) (some ((⟨⟨0, 0⟩, ⟨0, 0⟩⟩ : Box), false, ()))) (some ((⟨⟨0, 0⟩, ⟨0, 0⟩⟩ : Box), false, ()))
def E195 (f161 : T161) (f22 : T22) : Env := envL [(161, N161 f161), (22, N22 f22)]
noncomputable def L195 (f161 : T161) (f22 : T22) : LEnv (densS (muts p195 ++ r195)) := lenv []
theorem e195 (f161 : T161) (f22 : T22) (a : densS p195) : runF (E195 f161 f22) tab (fun _ => false) p195 r195 Proofs.Tryz.f195 (L195 f161 f22) a = F195 f161 f22 a := by kernel_rfl
theorem ok195 {f161 : T161} {f22 : T22} (h161 : OK Proofs.Tryz.prog 161 (N161 f161)) (h22 : OK Proofs.Tryz.prog 22 (N22 f22)) : OK Proofs.Tryz.prog 195 (mkE p195 r195 false (F195 f161 f22)) :=
  fn_ok (E := E195 f161 f22) tab_ok (envL_ok (OKs.cons h161 (OKs.cons h22 OKs.nil))) mixed (ann := (fun _ => false)) (L := L195 f161 f22) (fn := Proofs.Tryz.f195) (c := bodyC Proofs.Tryz.f195) (ls := []) Proofs.Tryz.func195 (by kernel_rfl) (by kernel_rfl) (by kernel_rfl) (by kernel_rfl)
    LoopsP.nil (e195 f161 f22)
/-! spec.LandingBox -/
def p160 : List SP := [.t .jet, .one (.r .place)]
def r160 : List SP := [.t .box, .one (.bool)]
abbrev T160 := Jet × List Place × Unit → Option (Box × Bool × Unit)
abbrev N160 (f : T160) : Entry := mkE p160 r160 false f
noncomputable def F160 (f26 : T26) (f27 : T27) (f195 : T195) (f30 : T30) (a : Jet × List Place × Unit) : Option (Box × Bool × Unit) :=
  (f26 (a.1, ())).bind fun x1 => (f27 (a.1, ())).bind fun x2 => (f195 (a.2.1, x2.1, ())).bind fun x3 => cond (!(!x1.2.1)) (cond (!x3.2.1) (some ((⟨⟨0, 0⟩, ⟨0, 0⟩⟩ : Box), false, ())) ((f30 (x1.1, x3.1.Low, ())).bind fun x4 => (f30 (x1.1, x3.1.High, ())).bind fun x5 => some ((⟨⟨x4.1.X, x4.1.Y⟩, ⟨x5.1.X, x5.1.Y⟩⟩ : Box), true, ()))) (some ((⟨⟨0, 0⟩, ⟨0, 0⟩⟩ : Box), false, ()))
def E160 (f26 : T26) (f27 : T27) (f195 : T195) (f30 : T30) : Env := envL [(26, N26 f26), (27, N27 f27), (195, N195 f195), (30, N30 f30)]
noncomputable def L160 (f26 : T26) (f27 : T27) (f195 : T195) (f30 : T30) : LEnv (densS (muts p160 ++ r160)) := lenv []
theorem e160 (f26 : T26) (f27 : T27) (f195 : T195) (f30 : T30) (a : densS p160) : runF (E160 f26 f27 f195 f30) tab (fun _ => false) p160 r160 Proofs.Tryz.f160 (L160 f26 f27 f195 f30) a = F160 f26 f27 f195 f30 a := by kernel_rfl
theorem ok160 {f26 : T26} {f27 : T27} {f195 : T195} {f30 : T30} (h26 : OK Proofs.Tryz.prog 26 (N26 f26)) (h27 : OK Proofs.Tryz.prog 27 (N27 f27)) (h195 : OK Proofs.Tryz.prog 195 (N195 f195)) (h30 : OK Proofs.Tryz.prog 30 (N30 f30)) : OK Proofs.Tryz.prog 160 (mkE p160 r160 false (F160 f26 f27 f195 f30)) :=
  fn_ok (E := E160 f26 f27 f195 f30) tab_ok (envL_ok (OKs.cons h26 (OKs.cons h27 (OKs.cons h195 (OKs.cons h30 OKs.nil))))) mixed (ann := (fun _ => false)) (L := L160 f26 f27 f195 f30) (fn := Proofs.Tryz.f160) (c := bodyC Proofs.Tryz.f160) (ls := []) Proofs.Tryz.func160 (by kernel_rfl) (by kernel_rfl) (by kernel_rfl) (by kernel_rfl)
    LoopsP.nil (e160 f26 f27 f195 f30)
/-! spec.LeastBasin -/
def p125 : List SP := [.agg [.r .device, .r .cue, .r .gust, .int .i64], .one (.r .place)]
def r125 : List SP := [.t .box, .one (.bool)]
abbrev T125 := ShD × List Place × Unit → Option (Box × Bool × Unit)
abbrev N125 (f : T125) : Entry := mkE p125 r125 false f
def q125_0 : List SP := pat 47 0 [(1, .one (.r .place)), (4, .boxt 5000001 .box), (6, .one (.o 5000002 .place)), (22, .one (.o 5000003 .throw)), (23, .one (.int .i64)), (24, .one (.int .i64))]
noncomputable def s125_0 (f21 : T21) (f22 : T22) (f58 : T58) (f160 : T160) (f161 : T161) (t4 : List Place × Box × List Place × List Throw × Int × Int × Unit) (rec K : List Place × Box × List Place × List Throw × Int × Int × Unit → Option (Box × Bool × Unit)) : Option (Box × Bool × Unit) :=
  cond (decide (t4.2.2.2.2.2.1 < t4.2.2.2.2.1)) (rdL t4.2.2.2.1 t4.2.2.2.2.2.1 fun _ => (t4.2.2.2.1[(Int.toNat t4.2.2.2.2.2.1)]?).bind fun d5 => (f160 (d5.jet, t4.1, ())).bind fun x6 => capK (List.length t4.2.2.1 + List.length ([x6.1.Low, x6.1.High] : List Place)) (rec (t4.1, t4.2.1, (t4.2.2.1 ++ ([x6.1.Low, x6.1.High] : List Place)), t4.2.2.2.1, t4.2.2.2.2.1, (w64 (t4.2.2.2.2.2.1 + 1)), ()))) (K (t4.1, t4.2.1, t4.2.2.1, t4.2.2.2.1, t4.2.2.2.2.1, t4.2.2.2.2.2.1, ()))
noncomputable def F125 (f21 : T21) (f22 : T22) (f58 : T58) (f160 : T160) (f161 : T161) (a : ShD × List Place × Unit) : Option (Box × Bool × Unit) :=
  (f21 ((a.1.1, a.1.2.1, a.1.2.2.1, a.1.2.2.2.1, ()), ())).bind fun x1 => cond (!(!x1.1)) ((f22 (a.2.1, ())).bind fun x2 => cond (!x2.1) (some ((⟨⟨0, 0⟩, ⟨0, 0⟩⟩ : Box), false, ())) ((f58 ((a.1.1, a.1.2.1, a.1.2.2.1, a.1.2.2.2.1, ()), ())).bind fun x3 => iterF (s125_0 f21 f22 f58 f160 f161) fuel (a.2.1, (⟨⟨0, 0⟩, ⟨0, 0⟩⟩ : Box), ([] : List Place), x3.1, (Int.ofNat (List.length x3.1)), 0, ()) fun t7 => (f161 (t7.2.2.1, ())).bind fun x8 => some (x8.1, x8.2.1, ()))) (some ((⟨⟨0, 0⟩, ⟨0, 0⟩⟩ : Box), false, ()))
def E125 (f21 : T21) (f22 : T22) (f58 : T58) (f160 : T160) (f161 : T161) : Env := envL [(21, N21 f21), (22, N22 f22), (58, N58 f58), (160, N160 f160), (161, N161 f161)]
noncomputable def L125 (f21 : T21) (f22 : T22) (f58 : T58) (f160 : T160) (f161 : T161) : LEnv (densS (muts p125 ++ r125)) := lenv [(0, loopL (R := densS (muts p125 ++ r125)) q125_0 (s125_0 f21 f22 f58 f160 f161))]
theorem e125_0 (f21 : T21) (f22 : T22) (f58 : T58) (f160 : T160) (f161 : T161) (X : Nat → St → Option (densS (muts p125 ++ r125))) (rec K : densS q125_0 → Option (densS (muts p125 ++ r125))) (t : densS q125_0) :
    ev (E125 f21 f22 f58 f160 f161) tab (fun _ => false) (L125 f21 f22 f58 f160 f161) (retK tab p125 r125 Proofs.Tryz.f125.results.toList) (loopC Proofs.Tryz.f125 0) (fun i s => cond (Nat.beq i 0) (decK 100 q125_0 s K) (X i s)) (fun s => decK 100 q125_0 s rec) (enc q125_0 t) = s125_0 f21 f22 f58 f160 f161 t rec K := by kernel_rfl
theorem e125 (f21 : T21) (f22 : T22) (f58 : T58) (f160 : T160) (f161 : T161) (a : densS p125) : runF (E125 f21 f22 f58 f160 f161) tab (fun _ => false) p125 r125 Proofs.Tryz.f125 (L125 f21 f22 f58 f160 f161) a = F125 f21 f22 f58 f160 f161 a := by kernel_rfl
theorem ok125 {f21 : T21} {f22 : T22} {f58 : T58} {f160 : T160} {f161 : T161} (h21 : OK Proofs.Tryz.prog 21 (N21 f21)) (h22 : OK Proofs.Tryz.prog 22 (N22 f22)) (h58 : OK Proofs.Tryz.prog 58 (N58 f58)) (h160 : OK Proofs.Tryz.prog 160 (N160 f160)) (h161 : OK Proofs.Tryz.prog 161 (N161 f161)) : OK Proofs.Tryz.prog 125 (mkE p125 r125 false (F125 f21 f22 f58 f160 f161)) :=
  fn_ok (E := E125 f21 f22 f58 f160 f161) tab_ok (envL_ok (OKs.cons h21 (OKs.cons h22 (OKs.cons h58 (OKs.cons h160 (OKs.cons h161 OKs.nil)))))) mixed (ann := (fun _ => false)) (L := L125 f21 f22 f58 f160 f161) (fn := Proofs.Tryz.f125) (c := bodyC Proofs.Tryz.f125) (ls := [(0, loopC Proofs.Tryz.f125 0)]) Proofs.Tryz.func125 (by kernel_rfl) (by kernel_rfl) (by kernel_rfl) (by kernel_rfl)
    (LoopsP.cons q125_0 (s125_0 f21 f22 f58 f160 f161) rfl (e125_0 f21 f22 f58 f160 f161) LoopsP.nil) (e125 f21 f22 f58 f160 f161)
/-! spec.l2Box -/
def p162 : List SP := [.box 0 [.r .u8, .int .i64, .int .i64]]
def r162 : List SP := [.t .box]
abbrev T162 := CuD × Unit → Option (CuD × Box × Unit)
abbrev N162 (f : T162) : Entry := mkE p162 r162 true f
noncomputable def F162 (f187 : T187) (f116 : T116) (f192 : T192) (a : CuD × Unit) : Option (CuD × Box × Unit) :=
  (f187 ((a.1.1, a.1.2.1, a.1.2.2.1, ()), ())).bind fun x1 => (f116 ((x1.1.1, x1.1.2.1, x1.1.2.2.1, ()), 90, ())).bind fun x2 => both ((f116 ((x2.1.1, x2.1.2.1, x2.1.2.2.1, ()), 90, ())).bind fun x3 => (f116 ((x3.1.1, x3.1.2.1, x3.1.2.2.1, ()), 14, ())).bind fun x4 => cond (decide (x4.2.1 = 0)) ((f192 ((x4.1.1, x4.1.2.1, x4.1.2.2.1, ()), ())).bind fun x5 => some ((x5.1.1, x5.1.2.1, x5.1.2.2.1, ()), (⟨⟨x1.2.1.X, x1.2.1.Y⟩, ⟨x5.2.1.X, x5.2.1.Y⟩⟩ : Box), ())) (cond (decide (x4.2.1 = 1)) ((f192 ((x4.1.1, x4.1.2.1, x4.1.2.2.1, ()), ())).bind fun x6 => some ((x6.1.1, x6.1.2.1, x6.1.2.2.1, ()), (⟨⟨x6.2.1.X, x6.2.1.Y⟩, ⟨(w64 (x1.2.1.X + x2.2.1)), (w64 (x1.2.1.Y + x3.2.1))⟩⟩ : Box), ())) (some ((x4.1.1, x4.1.2.1, x4.1.2.2.1, ()), (⟨⟨x1.2.1.X, x1.2.1.Y⟩, ⟨(w64 (x1.2.1.X + x2.2.1)), (w64 (x1.2.1.Y + x3.2.1))⟩⟩ : Box), ())))) ((f116 ((x2.1.1, x2.1.2.1, x2.1.2.2.1, ()), 90, ())).bind fun x7 => both ((f116 ((x7.1.1, x7.1.2.1, x7.1.2.2.1, ()), 14, ())).bind fun x8 => cond (decide (x8.2.1 = 0)) ((f192 ((x8.1.1, x8.1.2.1, x8.1.2.2.1, ()), ())).bind fun x9 => some ((x9.1.1, x9.1.2.1, x9.1.2.2.1, ()), (⟨⟨x1.2.1.X, x1.2.1.Y⟩, ⟨x9.2.1.X, x9.2.1.Y⟩⟩ : Box), ())) (cond (decide (x8.2.1 = 1)) ((f192 ((x8.1.1, x8.1.2.1, x8.1.2.2.1, ()), ())).bind fun x10 => some ((x10.1.1, x10.1.2.1, x10.1.2.2.1, ()), (⟨⟨x10.2.1.X, x10.2.1.Y⟩, ⟨(w64 (x1.2.1.X + x2.2.1)), (w64 (x1.2.1.Y + x7.2.1))⟩⟩ : Box), ())) (some ((x8.1.1, x8.1.2.1, x8.1.2.2.1, ()), (⟨⟨x1.2.1.X, x1.2.1.Y⟩, ⟨(w64 (x1.2.1.X + x2.2.1)), (w64 (x1.2.1.Y + x7.2.1))⟩⟩ : Box), ())))) ((f116 ((x7.1.1, x7.1.2.1, x7.1.2.2.1, ()), 14, ())).bind fun x11 => cond (decide (x11.2.1 = 0)) ((f192 ((x11.1.1, x11.1.2.1, x11.1.2.2.1, ()), ())).bind fun x12 => some ((x12.1.1, x12.1.2.1, x12.1.2.2.1, ()), (⟨⟨x1.2.1.X, x1.2.1.Y⟩, ⟨x12.2.1.X, x12.2.1.Y⟩⟩ : Box), ())) (cond (decide (x11.2.1 = 1)) ((f192 ((x11.1.1, x11.1.2.1, x11.1.2.2.1, ()), ())).bind fun x13 => some ((x13.1.1, x13.1.2.1, x13.1.2.2.1, ()), (⟨⟨x13.2.1.X, x13.2.1.Y⟩, ⟨(w64 (x1.2.1.X + x2.2.1)), (w64 (x1.2.1.Y + x7.2.1))⟩⟩ : Box), ())) (some ((x11.1.1, x11.1.2.1, x11.1.2.2.1, ()), (⟨⟨x1.2.1.X, x1.2.1.Y⟩, ⟨(w64 (x1.2.1.X + x2.2.1)), (w64 (x1.2.1.Y + x7.2.1))⟩⟩ : Box), ())))))
def E162 (f187 : T187) (f116 : T116) (f192 : T192) : Env := envL [(187, N187 f187), (116, N116 f116), (192, N192 f192)]
noncomputable def L162 (f187 : T187) (f116 : T116) (f192 : T192) : LEnv (densS (muts p162 ++ r162)) := lenv []
theorem e162 (f187 : T187) (f116 : T116) (f192 : T192) (a : densS p162) : runF (E162 f187 f116 f192) tab (fun n => Nat.beq n 1200000 || Nat.beq n 1299998) p162 r162 Proofs.Tryz.f162 (L162 f187 f116 f192) a = F162 f187 f116 f192 a := by kernel_rfl
theorem ok162 {f187 : T187} {f116 : T116} {f192 : T192} (h187 : OK Proofs.Tryz.prog 187 (N187 f187)) (h116 : OK Proofs.Tryz.prog 116 (N116 f116)) (h192 : OK Proofs.Tryz.prog 192 (N192 f192)) : OK Proofs.Tryz.prog 162 (mkE p162 r162 true (F162 f187 f116 f192)) :=
  fn_ok (E := E162 f187 f116 f192) tab_ok (envL_ok (OKs.cons h187 (OKs.cons h116 (OKs.cons h192 OKs.nil)))) mixed (ann := (fun n => Nat.beq n 1200000 || Nat.beq n 1299998)) (L := L162 f187 f116 f192) (fn := Proofs.Tryz.f162) (c := bodyC Proofs.Tryz.f162) (ls := []) Proofs.Tryz.func162 (by kernel_rfl) (by kernel_rfl) (by kernel_rfl) (by kernel_rfl)
    LoopsP.nil (e162 f187 f116 f192)
/-! spec.l10Basin -/
def p127 : List SP := [.box 0 [.r .u8, .int .i64, .int .i64]]
def r127 : List SP := [.t .box]
abbrev T127 := CuD × Unit → Option (CuD × Box × Unit)
abbrev N127 (f : T127) : Entry := mkE p127 r127 true f
noncomputable def F127 (f116 : T116) (f162 : T162) (a : CuD × Unit) : Option (CuD × Box × Unit) :=
  (f116 ((a.1.1, a.1.2.1, a.1.2.2.1, ()), 400, ())).bind fun x1 => (f116 ((x1.1.1, x1.1.2.1, x1.1.2.2.1, ()), 400, ())).bind fun x2 => (f116 ((x2.1.1, x2.1.2.1, x2.1.2.2.1, ()), 400, ())).bind fun x3 => (f116 ((x3.1.1, x3.1.2.1, x3.1.2.2.1, ()), 400, ())).bind fun x4 => (f116 ((x4.1.1, x4.1.2.1, x4.1.2.2.1, ()), 12, ())).bind fun x5 => cond (decide (x5.2.1 = 0)) ((f162 ((x5.1.1, x5.1.2.1, x5.1.2.2.1, ()), ())).bind fun x6 => some ((x6.1.1, x6.1.2.1, x6.1.2.2.1, ()), x6.2.1, ())) (cond (decide (x5.2.1 = 1)) (some ((x5.1.1, x5.1.2.1, x5.1.2.2.1, ()), (⟨⟨(-1900), (-1900)⟩, ⟨1900, 1900⟩⟩ : Box), ())) (some ((x5.1.1, x5.1.2.1, x5.1.2.2.1, ()), (⟨⟨(w64 (0 - x1.2.1)), (w64 (0 - x2.2.1))⟩, ⟨x3.2.1, x4.2.1⟩⟩ : Box), ())))
def E127 (f116 : T116) (f162 : T162) : Env := envL [(116, N116 f116), (162, N162 f162)]
noncomputable def L127 (f116 : T116) (f162 : T162) : LEnv (densS (muts p127 ++ r127)) := lenv []
theorem e127 (f116 : T116) (f162 : T162) (a : densS p127) : runF (E127 f116 f162) tab (fun _ => false) p127 r127 Proofs.Tryz.f127 (L127 f116 f162) a = F127 f116 f162 a := by kernel_rfl
theorem ok127 {f116 : T116} {f162 : T162} (h116 : OK Proofs.Tryz.prog 116 (N116 f116)) (h162 : OK Proofs.Tryz.prog 162 (N162 f162)) : OK Proofs.Tryz.prog 127 (mkE p127 r127 true (F127 f116 f162)) :=
  fn_ok (E := E127 f116 f162) tab_ok (envL_ok (OKs.cons h116 (OKs.cons h162 OKs.nil))) mixed (ann := (fun _ => false)) (L := L127 f116 f162) (fn := Proofs.Tryz.f127) (c := bodyC Proofs.Tryz.f127) (ls := []) Proofs.Tryz.func127 (by kernel_rfl) (by kernel_rfl) (by kernel_rfl) (by kernel_rfl)
    LoopsP.nil (e127 f116 f162)
/-! spec.l10Near -/
def p88 : List SP := [.box 0 [.r .u8, .int .i64, .int .i64], .agg [.r .device, .r .cue, .r .gust, .int .i64], .one (.r .place)]
def r88 : List SP := [.t .box]
abbrev T88 := CuD × ShD × List Place × Unit → Option (CuD × Box × Unit)
abbrev N88 (f : T88) : Entry := mkE p88 r88 true f
noncomputable def F88 (f125 : T125) (f126 : T126) (f127 : T127) (f116 : T116) (a : CuD × ShD × List Place × Unit) : Option (CuD × Box × Unit) :=
  (f125 ((a.2.1.1, a.2.1.2.1, a.2.1.2.2.1, a.2.1.2.2.2.1, ()), a.2.2.1, ())).bind fun x1 => cond (!(!x1.2.1)) ((f126 ((a.1.1, a.1.2.1, a.1.2.2.1, ()), 3, ())).bind fun x2 => cond x2.2.1 ((f127 ((x2.1.1, x2.1.2.1, x2.1.2.2.1, ()), ())).bind fun x3 => some ((x3.1.1, x3.1.2.1, x3.1.2.2.1, ()), x3.2.1, ())) ((f116 ((x2.1.1, x2.1.2.1, x2.1.2.2.1, ()), 7, ())).bind fun x4 => cond (decide (x4.2.1 = 0)) (some ((x4.1.1, x4.1.2.1, x4.1.2.2.1, ()), (⟨⟨(w64 (x1.1.Low.X + 1)), x1.1.Low.Y⟩, ⟨x1.1.High.X, x1.1.High.Y⟩⟩ : Box), ())) (cond (decide (x4.2.1 = 1)) (some ((x4.1.1, x4.1.2.1, x4.1.2.2.1, ()), (⟨⟨x1.1.Low.X, (w64 (x1.1.Low.Y + 1))⟩, ⟨x1.1.High.X, x1.1.High.Y⟩⟩ : Box), ())) (cond (decide (x4.2.1 = 2)) (some ((x4.1.1, x4.1.2.1, x4.1.2.2.1, ()), (⟨⟨x1.1.Low.X, x1.1.Low.Y⟩, ⟨(w64 (x1.1.High.X - 1)), x1.1.High.Y⟩⟩ : Box), ())) (cond (decide (x4.2.1 = 3)) (some ((x4.1.1, x4.1.2.1, x4.1.2.2.1, ()), (⟨⟨x1.1.Low.X, x1.1.Low.Y⟩, ⟨x1.1.High.X, (w64 (x1.1.High.Y - 1))⟩⟩ : Box), ())) (some ((x4.1.1, x4.1.2.1, x4.1.2.2.1, ()), x1.1, ()))))))) ((f127 ((a.1.1, a.1.2.1, a.1.2.2.1, ()), ())).bind fun x5 => some ((x5.1.1, x5.1.2.1, x5.1.2.2.1, ()), x5.2.1, ()))
def E88 (f125 : T125) (f126 : T126) (f127 : T127) (f116 : T116) : Env := envL [(125, N125 f125), (126, N126 f126), (127, N127 f127), (116, N116 f116)]
noncomputable def L88 (f125 : T125) (f126 : T126) (f127 : T127) (f116 : T116) : LEnv (densS (muts p88 ++ r88)) := lenv []
theorem e88 (f125 : T125) (f126 : T126) (f127 : T127) (f116 : T116) (a : densS p88) : runF (E88 f125 f126 f127 f116) tab (fun _ => false) p88 r88 Proofs.Tryz.f88 (L88 f125 f126 f127 f116) a = F88 f125 f126 f127 f116 a := by kernel_rfl
theorem ok88 {f125 : T125} {f126 : T126} {f127 : T127} {f116 : T116} (h125 : OK Proofs.Tryz.prog 125 (N125 f125)) (h126 : OK Proofs.Tryz.prog 126 (N126 f126)) (h127 : OK Proofs.Tryz.prog 127 (N127 f127)) (h116 : OK Proofs.Tryz.prog 116 (N116 f116)) : OK Proofs.Tryz.prog 88 (mkE p88 r88 true (F88 f125 f126 f127 f116)) :=
  fn_ok (E := E88 f125 f126 f127 f116) tab_ok (envL_ok (OKs.cons h125 (OKs.cons h126 (OKs.cons h127 (OKs.cons h116 OKs.nil))))) mixed (ann := (fun _ => false)) (L := L88 f125 f126 f127 f116) (fn := Proofs.Tryz.f88) (c := bodyC Proofs.Tryz.f88) (ls := []) Proofs.Tryz.func88 (by kernel_rfl) (by kernel_rfl) (by kernel_rfl) (by kernel_rfl)
    LoopsP.nil (e88 f125 f126 f127 f116)
/-! spec.DrawIsSafe -/
def p45 : List SP := [.one (.r .u8)]
def r45 : List SP := [.agg [.r .device, .r .cue, .r .gust, .int .i64], .one (.r .place), .t .box]
abbrev T45 := List Int × Unit → Option (ShD × List Place × Box × Unit)
abbrev N45 (f : T45) : Entry := mkE p45 r45 true f
noncomputable def F45 (f85 : T85) (f86 : T86) (f87 : T87) (f88 : T88) (a : List Int × Unit) : Option (ShD × List Place × Box × Unit) :=
  (f85 (a.1, ())).bind fun x1 => (f86 ((x1.1.1, x1.1.2.1, x1.1.2.2.1, ()), ())).bind fun x2 => (f87 ((x2.1.1, x2.1.2.1, x2.1.2.2.1, ()), ())).bind fun x3 => both (both (both (both ((f88 ((x3.1.1, x3.1.2.1, x3.1.2.2.1, ()), (x2.2.1.1, x2.2.1.2.1, x2.2.1.2.2.1, x2.2.1.2.2.2.1, ()), x3.2.1, ())).bind fun x4 => some ((x2.2.1.1, x2.2.1.2.1, x2.2.1.2.2.1, x2.2.1.2.2.2.1, ()), x3.2.1, x4.2.1, ())) ((f88 ((x3.1.1, x3.1.2.1, x3.1.2.2.1, ()), (x2.2.1.1, x2.2.1.2.1, x2.2.1.2.2.1, x2.2.1.2.2.2.1, ()), x3.2.1, ())).bind fun x5 => some ((x2.2.1.1, x2.2.1.2.1, x2.2.1.2.2.1, x2.2.1.2.2.2.1, ()), x3.2.1, x5.2.1, ()))) (both (both ((f88 ((x3.1.1, x3.1.2.1, x3.1.2.2.1, ()), (x2.2.1.1, x2.2.1.2.1, x2.2.1.2.2.1, x2.2.1.2.2.2.1, ()), x3.2.1, ())).bind fun x6 => some ((x2.2.1.1, x2.2.1.2.1, x2.2.1.2.2.1, x2.2.1.2.2.2.1, ()), x3.2.1, x6.2.1, ())) ((f88 ((x3.1.1, x3.1.2.1, x3.1.2.2.1, ()), (x2.2.1.1, x2.2.1.2.1, x2.2.1.2.2.1, x2.2.1.2.2.2.1, ()), x3.2.1, ())).bind fun x7 => some ((x2.2.1.1, x2.2.1.2.1, x2.2.1.2.2.1, x2.2.1.2.2.2.1, ()), x3.2.1, x7.2.1, ()))) (both ((f88 ((x3.1.1, x3.1.2.1, x3.1.2.2.1, ()), (x2.2.1.1, x2.2.1.2.1, x2.2.1.2.2.1, x2.2.1.2.2.2.1, ()), x3.2.1, ())).bind fun x8 => some ((x2.2.1.1, x2.2.1.2.1, x2.2.1.2.2.1, x2.2.1.2.2.2.1, ()), x3.2.1, x8.2.1, ())) ((f88 ((x3.1.1, x3.1.2.1, x3.1.2.2.1, ()), (x2.2.1.1, x2.2.1.2.1, x2.2.1.2.2.1, x2.2.1.2.2.2.1, ()), x3.2.1, ())).bind fun x9 => some ((x2.2.1.1, x2.2.1.2.1, x2.2.1.2.2.1, x2.2.1.2.2.2.1, ()), x3.2.1, x9.2.1, ()))))) (both (both (both ((f88 ((x3.1.1, x3.1.2.1, x3.1.2.2.1, ()), (x2.2.1.1, x2.2.1.2.1, x2.2.1.2.2.1, x2.2.1.2.2.2.1, ()), x3.2.1, ())).bind fun x10 => some ((x2.2.1.1, x2.2.1.2.1, x2.2.1.2.2.1, x2.2.1.2.2.2.1, ()), x3.2.1, x10.2.1, ())) ((f88 ((x3.1.1, x3.1.2.1, x3.1.2.2.1, ()), (x2.2.1.1, x2.2.1.2.1, x2.2.1.2.2.1, x2.2.1.2.2.2.1, ()), x3.2.1, ())).bind fun x11 => some ((x2.2.1.1, x2.2.1.2.1, x2.2.1.2.2.1, x2.2.1.2.2.2.1, ()), x3.2.1, x11.2.1, ()))) (both (both ((f88 ((x3.1.1, x3.1.2.1, x3.1.2.2.1, ()), (x2.2.1.1, x2.2.1.2.1, x2.2.1.2.2.1, x2.2.1.2.2.2.1, ()), x3.2.1, ())).bind fun x12 => some ((x2.2.1.1, x2.2.1.2.1, x2.2.1.2.2.1, x2.2.1.2.2.2.1, ()), x3.2.1, x12.2.1, ())) (both ((f88 ((x3.1.1, x3.1.2.1, x3.1.2.2.1, ()), (x2.2.1.1, x2.2.1.2.1, x2.2.1.2.2.1, x2.2.1.2.2.2.1, ()), x3.2.1, ())).bind fun x13 => some ((x2.2.1.1, x2.2.1.2.1, x2.2.1.2.2.1, x2.2.1.2.2.2.1, ()), x3.2.1, x13.2.1, ())) ((f88 ((x3.1.1, x3.1.2.1, x3.1.2.2.1, ()), (x2.2.1.1, x2.2.1.2.1, x2.2.1.2.2.1, x2.2.1.2.2.2.1, ()), x3.2.1, ())).bind fun x14 => both (some ((x2.2.1.1, x2.2.1.2.1, x2.2.1.2.2.1, x2.2.1.2.2.2.1, ()), x3.2.1, x14.2.1, ())) (some ((x2.2.1.1, x2.2.1.2.1, x2.2.1.2.2.1, x2.2.1.2.2.2.1, ()), x3.2.1, x14.2.1, ()))))) (both ((f88 ((x3.1.1, x3.1.2.1, x3.1.2.2.1, ()), (x2.2.1.1, x2.2.1.2.1, x2.2.1.2.2.1, x2.2.1.2.2.2.1, ()), x3.2.1, ())).bind fun x15 => some ((x2.2.1.1, x2.2.1.2.1, x2.2.1.2.2.1, x2.2.1.2.2.2.1, ()), x3.2.1, x15.2.1, ())) (both ((f88 ((x3.1.1, x3.1.2.1, x3.1.2.2.1, ()), (x2.2.1.1, x2.2.1.2.1, x2.2.1.2.2.1, x2.2.1.2.2.2.1, ()), x3.2.1, ())).bind fun x16 => some ((x2.2.1.1, x2.2.1.2.1, x2.2.1.2.2.1, x2.2.1.2.2.2.1, ()), x3.2.1, x16.2.1, ())) ((f88 ((x3.1.1, x3.1.2.1, x3.1.2.2.1, ()), (x2.2.1.1, x2.2.1.2.1, x2.2.1.2.2.1, x2.2.1.2.2.2.1, ()), x3.2.1, ())).bind fun x17 => both (some ((x2.2.1.1, x2.2.1.2.1, x2.2.1.2.2.1, x2.2.1.2.2.2.1, ()), x3.2.1, x17.2.1, ())) (some ((x2.2.1.1, x2.2.1.2.1, x2.2.1.2.2.1, x2.2.1.2.2.2.1, ()), x3.2.1, x17.2.1, ()))))))) (both (both (both ((f88 ((x3.1.1, x3.1.2.1, x3.1.2.2.1, ()), (x2.2.1.1, x2.2.1.2.1, x2.2.1.2.2.1, x2.2.1.2.2.2.1, ()), x3.2.1, ())).bind fun x18 => some ((x2.2.1.1, x2.2.1.2.1, x2.2.1.2.2.1, x2.2.1.2.2.2.1, ()), x3.2.1, x18.2.1, ())) ((f88 ((x3.1.1, x3.1.2.1, x3.1.2.2.1, ()), (x2.2.1.1, x2.2.1.2.1, x2.2.1.2.2.1, x2.2.1.2.2.2.1, ()), x3.2.1, ())).bind fun x19 => some ((x2.2.1.1, x2.2.1.2.1, x2.2.1.2.2.1, x2.2.1.2.2.2.1, ()), x3.2.1, x19.2.1, ()))) (both (both ((f88 ((x3.1.1, x3.1.2.1, x3.1.2.2.1, ()), (x2.2.1.1, x2.2.1.2.1, x2.2.1.2.2.1, x2.2.1.2.2.2.1, ()), x3.2.1, ())).bind fun x20 => some ((x2.2.1.1, x2.2.1.2.1, x2.2.1.2.2.1, x2.2.1.2.2.2.1, ()), x3.2.1, x20.2.1, ())) (both ((f88 ((x3.1.1, x3.1.2.1, x3.1.2.2.1, ()), (x2.2.1.1, x2.2.1.2.1, x2.2.1.2.2.1, x2.2.1.2.2.2.1, ()), x3.2.1, ())).bind fun x21 => some ((x2.2.1.1, x2.2.1.2.1, x2.2.1.2.2.1, x2.2.1.2.2.2.1, ()), x3.2.1, x21.2.1, ())) ((f88 ((x3.1.1, x3.1.2.1, x3.1.2.2.1, ()), (x2.2.1.1, x2.2.1.2.1, x2.2.1.2.2.1, x2.2.1.2.2.2.1, ()), x3.2.1, ())).bind fun x22 => both (some ((x2.2.1.1, x2.2.1.2.1, x2.2.1.2.2.1, x2.2.1.2.2.2.1, ()), x3.2.1, x22.2.1, ())) (some ((x2.2.1.1, x2.2.1.2.1, x2.2.1.2.2.1, x2.2.1.2.2.2.1, ()), x3.2.1, x22.2.1, ()))))) (both ((f88 ((x3.1.1, x3.1.2.1, x3.1.2.2.1, ()), (x2.2.1.1, x2.2.1.2.1, x2.2.1.2.2.1, x2.2.1.2.2.2.1, ()), x3.2.1, ())).bind fun x23 => some ((x2.2.1.1, x2.2.1.2.1, x2.2.1.2.2.1, x2.2.1.2.2.2.1, ()), x3.2.1, x23.2.1, ())) (both ((f88 ((x3.1.1, x3.1.2.1, x3.1.2.2.1, ()), (x2.2.1.1, x2.2.1.2.1, x2.2.1.2.2.1, x2.2.1.2.2.2.1, ()), x3.2.1, ())).bind fun x24 => some ((x2.2.1.1, x2.2.1.2.1, x2.2.1.2.2.1, x2.2.1.2.2.2.1, ()), x3.2.1, x24.2.1, ())) ((f88 ((x3.1.1, x3.1.2.1, x3.1.2.2.1, ()), (x2.2.1.1, x2.2.1.2.1, x2.2.1.2.2.1, x2.2.1.2.2.2.1, ()), x3.2.1, ())).bind fun x25 => both (some ((x2.2.1.1, x2.2.1.2.1, x2.2.1.2.2.1, x2.2.1.2.2.2.1, ()), x3.2.1, x25.2.1, ())) (some ((x2.2.1.1, x2.2.1.2.1, x2.2.1.2.2.1, x2.2.1.2.2.2.1, ()), x3.2.1, x25.2.1, ()))))))) (both (both ((f88 ((x3.1.1, x3.1.2.1, x3.1.2.2.1, ()), (x2.2.1.1, x2.2.1.2.1, x2.2.1.2.2.1, x2.2.1.2.2.2.1, ()), x3.2.1, ())).bind fun x26 => some ((x2.2.1.1, x2.2.1.2.1, x2.2.1.2.2.1, x2.2.1.2.2.2.1, ()), x3.2.1, x26.2.1, ())) ((f88 ((x3.1.1, x3.1.2.1, x3.1.2.2.1, ()), (x2.2.1.1, x2.2.1.2.1, x2.2.1.2.2.1, x2.2.1.2.2.2.1, ()), x3.2.1, ())).bind fun x27 => some ((x2.2.1.1, x2.2.1.2.1, x2.2.1.2.2.1, x2.2.1.2.2.2.1, ()), x3.2.1, x27.2.1, ()))) (both (both ((f88 ((x3.1.1, x3.1.2.1, x3.1.2.2.1, ()), (x2.2.1.1, x2.2.1.2.1, x2.2.1.2.2.1, x2.2.1.2.2.2.1, ()), x3.2.1, ())).bind fun x28 => some ((x2.2.1.1, x2.2.1.2.1, x2.2.1.2.2.1, x2.2.1.2.2.2.1, ()), x3.2.1, x28.2.1, ())) (both ((f88 ((x3.1.1, x3.1.2.1, x3.1.2.2.1, ()), (x2.2.1.1, x2.2.1.2.1, x2.2.1.2.2.1, x2.2.1.2.2.2.1, ()), x3.2.1, ())).bind fun x29 => some ((x2.2.1.1, x2.2.1.2.1, x2.2.1.2.2.1, x2.2.1.2.2.2.1, ()), x3.2.1, x29.2.1, ())) ((f88 ((x3.1.1, x3.1.2.1, x3.1.2.2.1, ()), (x2.2.1.1, x2.2.1.2.1, x2.2.1.2.2.1, x2.2.1.2.2.2.1, ()), x3.2.1, ())).bind fun x30 => both (some ((x2.2.1.1, x2.2.1.2.1, x2.2.1.2.2.1, x2.2.1.2.2.2.1, ()), x3.2.1, x30.2.1, ())) (some ((x2.2.1.1, x2.2.1.2.1, x2.2.1.2.2.1, x2.2.1.2.2.2.1, ()), x3.2.1, x30.2.1, ()))))) (both ((f88 ((x3.1.1, x3.1.2.1, x3.1.2.2.1, ()), (x2.2.1.1, x2.2.1.2.1, x2.2.1.2.2.1, x2.2.1.2.2.2.1, ()), x3.2.1, ())).bind fun x31 => some ((x2.2.1.1, x2.2.1.2.1, x2.2.1.2.2.1, x2.2.1.2.2.2.1, ()), x3.2.1, x31.2.1, ())) (both ((f88 ((x3.1.1, x3.1.2.1, x3.1.2.2.1, ()), (x2.2.1.1, x2.2.1.2.1, x2.2.1.2.2.1, x2.2.1.2.2.2.1, ()), x3.2.1, ())).bind fun x32 => some ((x2.2.1.1, x2.2.1.2.1, x2.2.1.2.2.1, x2.2.1.2.2.2.1, ()), x3.2.1, x32.2.1, ())) ((f88 ((x3.1.1, x3.1.2.1, x3.1.2.2.1, ()), (x2.2.1.1, x2.2.1.2.1, x2.2.1.2.2.1, x2.2.1.2.2.2.1, ()), x3.2.1, ())).bind fun x33 => both (some ((x2.2.1.1, x2.2.1.2.1, x2.2.1.2.2.1, x2.2.1.2.2.2.1, ()), x3.2.1, x33.2.1, ())) (some ((x2.2.1.1, x2.2.1.2.1, x2.2.1.2.2.1, x2.2.1.2.2.2.1, ()), x3.2.1, x33.2.1, ())))))))))) (both (both (both (both ((f88 ((x3.1.1, x3.1.2.1, x3.1.2.2.1, ()), (x2.2.1.1, x2.2.1.2.1, x2.2.1.2.2.1, x2.2.1.2.2.2.1, ()), x3.2.1, ())).bind fun x34 => some ((x2.2.1.1, x2.2.1.2.1, x2.2.1.2.2.1, x2.2.1.2.2.2.1, ()), x3.2.1, x34.2.1, ())) ((f88 ((x3.1.1, x3.1.2.1, x3.1.2.2.1, ()), (x2.2.1.1, x2.2.1.2.1, x2.2.1.2.2.1, x2.2.1.2.2.2.1, ()), x3.2.1, ())).bind fun x35 => some ((x2.2.1.1, x2.2.1.2.1, x2.2.1.2.2.1, x2.2.1.2.2.2.1, ()), x3.2.1, x35.2.1, ()))) (both (both ((f88 ((x3.1.1, x3.1.2.1, x3.1.2.2.1, ()), (x2.2.1.1, x2.2.1.2.1, x2.2.1.2.2.1, x2.2.1.2.2.2.1, ()), x3.2.1, ())).bind fun x36 => some ((x2.2.1.1, x2.2.1.2.1, x2.2.1.2.2.1, x2.2.1.2.2.2.1, ()), x3.2.1, x36.2.1, ())) ((f88 ((x3.1.1, x3.1.2.1, x3.1.2.2.1, ()), (x2.2.1.1, x2.2.1.2.1, x2.2.1.2.2.1, x2.2.1.2.2.2.1, ()), x3.2.1, ())).bind fun x37 => some ((x2.2.1.1, x2.2.1.2.1, x2.2.1.2.2.1, x2.2.1.2.2.2.1, ()), x3.2.1, x37.2.1, ()))) (both ((f88 ((x3.1.1, x3.1.2.1, x3.1.2.2.1, ()), (x2.2.1.1, x2.2.1.2.1, x2.2.1.2.2.1, x2.2.1.2.2.2.1, ()), x3.2.1, ())).bind fun x38 => some ((x2.2.1.1, x2.2.1.2.1, x2.2.1.2.2.1, x2.2.1.2.2.2.1, ()), x3.2.1, x38.2.1, ())) ((f88 ((x3.1.1, x3.1.2.1, x3.1.2.2.1, ()), (x2.2.1.1, x2.2.1.2.1, x2.2.1.2.2.1, x2.2.1.2.2.2.1, ()), x3.2.1, ())).bind fun x39 => some ((x2.2.1.1, x2.2.1.2.1, x2.2.1.2.2.1, x2.2.1.2.2.2.1, ()), x3.2.1, x39.2.1, ()))))) (both (both (both ((f88 ((x3.1.1, x3.1.2.1, x3.1.2.2.1, ()), (x2.2.1.1, x2.2.1.2.1, x2.2.1.2.2.1, x2.2.1.2.2.2.1, ()), x3.2.1, ())).bind fun x40 => some ((x2.2.1.1, x2.2.1.2.1, x2.2.1.2.2.1, x2.2.1.2.2.2.1, ()), x3.2.1, x40.2.1, ())) ((f88 ((x3.1.1, x3.1.2.1, x3.1.2.2.1, ()), (x2.2.1.1, x2.2.1.2.1, x2.2.1.2.2.1, x2.2.1.2.2.2.1, ()), x3.2.1, ())).bind fun x41 => some ((x2.2.1.1, x2.2.1.2.1, x2.2.1.2.2.1, x2.2.1.2.2.2.1, ()), x3.2.1, x41.2.1, ()))) (both (both ((f88 ((x3.1.1, x3.1.2.1, x3.1.2.2.1, ()), (x2.2.1.1, x2.2.1.2.1, x2.2.1.2.2.1, x2.2.1.2.2.2.1, ()), x3.2.1, ())).bind fun x42 => some ((x2.2.1.1, x2.2.1.2.1, x2.2.1.2.2.1, x2.2.1.2.2.2.1, ()), x3.2.1, x42.2.1, ())) (both ((f88 ((x3.1.1, x3.1.2.1, x3.1.2.2.1, ()), (x2.2.1.1, x2.2.1.2.1, x2.2.1.2.2.1, x2.2.1.2.2.2.1, ()), x3.2.1, ())).bind fun x43 => some ((x2.2.1.1, x2.2.1.2.1, x2.2.1.2.2.1, x2.2.1.2.2.2.1, ()), x3.2.1, x43.2.1, ())) ((f88 ((x3.1.1, x3.1.2.1, x3.1.2.2.1, ()), (x2.2.1.1, x2.2.1.2.1, x2.2.1.2.2.1, x2.2.1.2.2.2.1, ()), x3.2.1, ())).bind fun x44 => some ((x2.2.1.1, x2.2.1.2.1, x2.2.1.2.2.1, x2.2.1.2.2.2.1, ()), x3.2.1, x44.2.1, ())))) (both ((f88 ((x3.1.1, x3.1.2.1, x3.1.2.2.1, ()), (x2.2.1.1, x2.2.1.2.1, x2.2.1.2.2.1, x2.2.1.2.2.2.1, ()), x3.2.1, ())).bind fun x45 => some ((x2.2.1.1, x2.2.1.2.1, x2.2.1.2.2.1, x2.2.1.2.2.2.1, ()), x3.2.1, x45.2.1, ())) (both ((f88 ((x3.1.1, x3.1.2.1, x3.1.2.2.1, ()), (x2.2.1.1, x2.2.1.2.1, x2.2.1.2.2.1, x2.2.1.2.2.2.1, ()), x3.2.1, ())).bind fun x46 => some ((x2.2.1.1, x2.2.1.2.1, x2.2.1.2.2.1, x2.2.1.2.2.2.1, ()), x3.2.1, x46.2.1, ())) ((f88 ((x3.1.1, x3.1.2.1, x3.1.2.2.1, ()), (x2.2.1.1, x2.2.1.2.1, x2.2.1.2.2.1, x2.2.1.2.2.2.1, ()), x3.2.1, ())).bind fun x47 => some ((x2.2.1.1, x2.2.1.2.1, x2.2.1.2.2.1, x2.2.1.2.2.2.1, ()), x3.2.1, x47.2.1, ())))))) (both (both (both ((f88 ((x3.1.1, x3.1.2.1, x3.1.2.2.1, ()), (x2.2.1.1, x2.2.1.2.1, x2.2.1.2.2.1, x2.2.1.2.2.2.1, ()), x3.2.1, ())).bind fun x48 => some ((x2.2.1.1, x2.2.1.2.1, x2.2.1.2.2.1, x2.2.1.2.2.2.1, ()), x3.2.1, x48.2.1, ())) ((f88 ((x3.1.1, x3.1.2.1, x3.1.2.2.1, ()), (x2.2.1.1, x2.2.1.2.1, x2.2.1.2.2.1, x2.2.1.2.2.2.1, ()), x3.2.1, ())).bind fun x49 => some ((x2.2.1.1, x2.2.1.2.1, x2.2.1.2.2.1, x2.2.1.2.2.2.1, ()), x3.2.1, x49.2.1, ()))) (both (both ((f88 ((x3.1.1, x3.1.2.1, x3.1.2.2.1, ()), (x2.2.1.1, x2.2.1.2.1, x2.2.1.2.2.1, x2.2.1.2.2.2.1, ()), x3.2.1, ())).bind fun x50 => some ((x2.2.1.1, x2.2.1.2.1, x2.2.1.2.2.1, x2.2.1.2.2.2.1, ()), x3.2.1, x50.2.1, ())) (both ((f88 ((x3.1.1, x3.1.2.1, x3.1.2.2.1, ()), (x2.2.1.1, x2.2.1.2.1, x2.2.1.2.2.1, x2.2.1.2.2.2.1, ()), x3.2.1, ())).bind fun x51 => some ((x2.2.1.1, x2.2.1.2.1, x2.2.1.2.2.1, x2.2.1.2.2.2.1, ()), x3.2.1, x51.2.1, ())) ((f88 ((x3.1.1, x3.1.2.1, x3.1.2.2.1, ()), (x2.2.1.1, x2.2.1.2.1, x2.2.1.2.2.1, x2.2.1.2.2.2.1, ()), x3.2.1, ())).bind fun x52 => some ((x2.2.1.1, x2.2.1.2.1, x2.2.1.2.2.1, x2.2.1.2.2.2.1, ()), x3.2.1, x52.2.1, ())))) (both ((f88 ((x3.1.1, x3.1.2.1, x3.1.2.2.1, ()), (x2.2.1.1, x2.2.1.2.1, x2.2.1.2.2.1, x2.2.1.2.2.2.1, ()), x3.2.1, ())).bind fun x53 => some ((x2.2.1.1, x2.2.1.2.1, x2.2.1.2.2.1, x2.2.1.2.2.2.1, ()), x3.2.1, x53.2.1, ())) (both ((f88 ((x3.1.1, x3.1.2.1, x3.1.2.2.1, ()), (x2.2.1.1, x2.2.1.2.1, x2.2.1.2.2.1, x2.2.1.2.2.2.1, ()), x3.2.1, ())).bind fun x54 => some ((x2.2.1.1, x2.2.1.2.1, x2.2.1.2.2.1, x2.2.1.2.2.2.1, ()), x3.2.1, x54.2.1, ())) ((f88 ((x3.1.1, x3.1.2.1, x3.1.2.2.1, ()), (x2.2.1.1, x2.2.1.2.1, x2.2.1.2.2.1, x2.2.1.2.2.2.1, ()), x3.2.1, ())).bind fun x55 => some ((x2.2.1.1, x2.2.1.2.1, x2.2.1.2.2.1, x2.2.1.2.2.2.1, ()), x3.2.1, x55.2.1, ())))))) (both (both ((f88 ((x3.1.1, x3.1.2.1, x3.1.2.2.1, ()), (x2.2.1.1, x2.2.1.2.1, x2.2.1.2.2.1, x2.2.1.2.2.2.1, ()), x3.2.1, ())).bind fun x56 => some ((x2.2.1.1, x2.2.1.2.1, x2.2.1.2.2.1, x2.2.1.2.2.2.1, ()), x3.2.1, x56.2.1, ())) ((f88 ((x3.1.1, x3.1.2.1, x3.1.2.2.1, ()), (x2.2.1.1, x2.2.1.2.1, x2.2.1.2.2.1, x2.2.1.2.2.2.1, ()), x3.2.1, ())).bind fun x57 => some ((x2.2.1.1, x2.2.1.2.1, x2.2.1.2.2.1, x2.2.1.2.2.2.1, ()), x3.2.1, x57.2.1, ()))) (both (both ((f88 ((x3.1.1, x3.1.2.1, x3.1.2.2.1, ()), (x2.2.1.1, x2.2.1.2.1, x2.2.1.2.2.1, x2.2.1.2.2.2.1, ()), x3.2.1, ())).bind fun x58 => some ((x2.2.1.1, x2.2.1.2.1, x2.2.1.2.2.1, x2.2.1.2.2.2.1, ()), x3.2.1, x58.2.1, ())) (both ((f88 ((x3.1.1, x3.1.2.1, x3.1.2.2.1, ()), (x2.2.1.1, x2.2.1.2.1, x2.2.1.2.2.1, x2.2.1.2.2.2.1, ()), x3.2.1, ())).bind fun x59 => some ((x2.2.1.1, x2.2.1.2.1, x2.2.1.2.2.1, x2.2.1.2.2.2.1, ()), x3.2.1, x59.2.1, ())) ((f88 ((x3.1.1, x3.1.2.1, x3.1.2.2.1, ()), (x2.2.1.1, x2.2.1.2.1, x2.2.1.2.2.1, x2.2.1.2.2.2.1, ()), x3.2.1, ())).bind fun x60 => some ((x2.2.1.1, x2.2.1.2.1, x2.2.1.2.2.1, x2.2.1.2.2.2.1, ()), x3.2.1, x60.2.1, ())))) (both ((f88 ((x3.1.1, x3.1.2.1, x3.1.2.2.1, ()), (x2.2.1.1, x2.2.1.2.1, x2.2.1.2.2.1, x2.2.1.2.2.2.1, ()), x3.2.1, ())).bind fun x61 => some ((x2.2.1.1, x2.2.1.2.1, x2.2.1.2.2.1, x2.2.1.2.2.2.1, ()), x3.2.1, x61.2.1, ())) (both ((f88 ((x3.1.1, x3.1.2.1, x3.1.2.2.1, ()), (x2.2.1.1, x2.2.1.2.1, x2.2.1.2.2.1, x2.2.1.2.2.2.1, ()), x3.2.1, ())).bind fun x62 => some ((x2.2.1.1, x2.2.1.2.1, x2.2.1.2.2.1, x2.2.1.2.2.2.1, ()), x3.2.1, x62.2.1, ())) ((f88 ((x3.1.1, x3.1.2.1, x3.1.2.2.1, ()), (x2.2.1.1, x2.2.1.2.1, x2.2.1.2.2.1, x2.2.1.2.2.2.1, ()), x3.2.1, ())).bind fun x63 => some ((x2.2.1.1, x2.2.1.2.1, x2.2.1.2.2.1, x2.2.1.2.2.2.1, ()), x3.2.1, x63.2.1, ()))))))))) (both (both (both (both ((f88 ((x3.1.1, x3.1.2.1, x3.1.2.2.1, ()), (x2.2.1.1, x2.2.1.2.1, x2.2.1.2.2.1, x2.2.1.2.2.2.1, ()), x3.2.1, ())).bind fun x64 => some ((x2.2.1.1, x2.2.1.2.1, x2.2.1.2.2.1, x2.2.1.2.2.2.1, ()), x3.2.1, x64.2.1, ())) ((f88 ((x3.1.1, x3.1.2.1, x3.1.2.2.1, ()), (x2.2.1.1, x2.2.1.2.1, x2.2.1.2.2.1, x2.2.1.2.2.2.1, ()), x3.2.1, ())).bind fun x65 => some ((x2.2.1.1, x2.2.1.2.1, x2.2.1.2.2.1, x2.2.1.2.2.2.1, ()), x3.2.1, x65.2.1, ()))) (both (both ((f88 ((x3.1.1, x3.1.2.1, x3.1.2.2.1, ()), (x2.2.1.1, x2.2.1.2.1, x2.2.1.2.2.1, x2.2.1.2.2.2.1, ()), x3.2.1, ())).bind fun x66 => some ((x2.2.1.1, x2.2.1.2.1, x2.2.1.2.2.1, x2.2.1.2.2.2.1, ()), x3.2.1, x66.2.1, ())) (both ((f88 ((x3.1.1, x3.1.2.1, x3.1.2.2.1, ()), (x2.2.1.1, x2.2.1.2.1, x2.2.1.2.2.1, x2.2.1.2.2.2.1, ()), x3.2.1, ())).bind fun x67 => some ((x2.2.1.1, x2.2.1.2.1, x2.2.1.2.2.1, x2.2.1.2.2.2.1, ()), x3.2.1, x67.2.1, ())) ((f88 ((x3.1.1, x3.1.2.1, x3.1.2.2.1, ()), (x2.2.1.1, x2.2.1.2.1, x2.2.1.2.2.1, x2.2.1.2.2.2.1, ()), x3.2.1, ())).bind fun x68 => both (some ((x2.2.1.1, x2.2.1.2.1, x2.2.1.2.2.1, x2.2.1.2.2.2.1, ()), x3.2.1, x68.2.1, ())) (some ((x2.2.1.1, x2.2.1.2.1, x2.2.1.2.2.1, x2.2.1.2.2.2.1, ()), x3.2.1, x68.2.1, ()))))) (both ((f88 ((x3.1.1, x3.1.2.1, x3.1.2.2.1, ()), (x2.2.1.1, x2.2.1.2.1, x2.2.1.2.2.1, x2.2.1.2.2.2.1, ()), x3.2.1, ())).bind fun x69 => some ((x2.2.1.1, x2.2.1.2.1, x2.2.1.2.2.1, x2.2.1.2.2.2.1, ()), x3.2.1, x69.2.1, ())) (both ((f88 ((x3.1.1, x3.1.2.1, x3.1.2.2.1, ()), (x2.2.1.1, x2.2.1.2.1, x2.2.1.2.2.1, x2.2.1.2.2.2.1, ()), x3.2.1, ())).bind fun x70 => some ((x2.2.1.1, x2.2.1.2.1, x2.2.1.2.2.1, x2.2.1.2.2.2.1, ()), x3.2.1, x70.2.1, ())) ((f88 ((x3.1.1, x3.1.2.1, x3.1.2.2.1, ()), (x2.2.1.1, x2.2.1.2.1, x2.2.1.2.2.1, x2.2.1.2.2.2.1, ()), x3.2.1, ())).bind fun x71 => both (some ((x2.2.1.1, x2.2.1.2.1, x2.2.1.2.2.1, x2.2.1.2.2.2.1, ()), x3.2.1, x71.2.1, ())) (some ((x2.2.1.1, x2.2.1.2.1, x2.2.1.2.2.1, x2.2.1.2.2.2.1, ()), x3.2.1, x71.2.1, ()))))))) (both (both (both ((f88 ((x3.1.1, x3.1.2.1, x3.1.2.2.1, ()), (x2.2.1.1, x2.2.1.2.1, x2.2.1.2.2.1, x2.2.1.2.2.2.1, ()), x3.2.1, ())).bind fun x72 => some ((x2.2.1.1, x2.2.1.2.1, x2.2.1.2.2.1, x2.2.1.2.2.2.1, ()), x3.2.1, x72.2.1, ())) ((f88 ((x3.1.1, x3.1.2.1, x3.1.2.2.1, ()), (x2.2.1.1, x2.2.1.2.1, x2.2.1.2.2.1, x2.2.1.2.2.2.1, ()), x3.2.1, ())).bind fun x73 => some ((x2.2.1.1, x2.2.1.2.1, x2.2.1.2.2.1, x2.2.1.2.2.2.1, ()), x3.2.1, x73.2.1, ()))) (both (both ((f88 ((x3.1.1, x3.1.2.1, x3.1.2.2.1, ()), (x2.2.1.1, x2.2.1.2.1, x2.2.1.2.2.1, x2.2.1.2.2.2.1, ()), x3.2.1, ())).bind fun x74 => some ((x2.2.1.1, x2.2.1.2.1, x2.2.1.2.2.1, x2.2.1.2.2.2.1, ()), x3.2.1, x74.2.1, ())) (both ((f88 ((x3.1.1, x3.1.2.1, x3.1.2.2.1, ()), (x2.2.1.1, x2.2.1.2.1, x2.2.1.2.2.1, x2.2.1.2.2.2.1, ()), x3.2.1, ())).bind fun x75 => some ((x2.2.1.1, x2.2.1.2.1, x2.2.1.2.2.1, x2.2.1.2.2.2.1, ()), x3.2.1, x75.2.1, ())) ((f88 ((x3.1.1, x3.1.2.1, x3.1.2.2.1, ()), (x2.2.1.1, x2.2.1.2.1, x2.2.1.2.2.1, x2.2.1.2.2.2.1, ()), x3.2.1, ())).bind fun x76 => some ((x2.2.1.1, x2.2.1.2.1, x2.2.1.2.2.1, x2.2.1.2.2.2.1, ()), x3.2.1, x76.2.1, ())))) (both ((f88 ((x3.1.1, x3.1.2.1, x3.1.2.2.1, ()), (x2.2.1.1, x2.2.1.2.1, x2.2.1.2.2.1, x2.2.1.2.2.2.1, ()), x3.2.1, ())).bind fun x77 => some ((x2.2.1.1, x2.2.1.2.1, x2.2.1.2.2.1, x2.2.1.2.2.2.1, ()), x3.2.1, x77.2.1, ())) (both ((f88 ((x3.1.1, x3.1.2.1, x3.1.2.2.1, ()), (x2.2.1.1, x2.2.1.2.1, x2.2.1.2.2.1, x2.2.1.2.2.2.1, ()), x3.2.1, ())).bind fun x78 => some ((x2.2.1.1, x2.2.1.2.1, x2.2.1.2.2.1, x2.2.1.2.2.2.1, ()), x3.2.1, x78.2.1, ())) ((f88 ((x3.1.1, x3.1.2.1, x3.1.2.2.1, ()), (x2.2.1.1, x2.2.1.2.1, x2.2.1.2.2.1, x2.2.1.2.2.2.1, ()), x3.2.1, ())).bind fun x79 => some ((x2.2.1.1, x2.2.1.2.1, x2.2.1.2.2.1, x2.2.1.2.2.2.1, ()), x3.2.1, x79.2.1, ())))))) (both (both (both ((f88 ((x3.1.1, x3.1.2.1, x3.1.2.2.1, ()), (x2.2.1.1, x2.2.1.2.1, x2.2.1.2.2.1, x2.2.1.2.2.2.1, ()), x3.2.1, ())).bind fun x80 => some ((x2.2.1.1, x2.2.1.2.1, x2.2.1.2.2.1, x2.2.1.2.2.2.1, ()), x3.2.1, x80.2.1, ())) (both ((f88 ((x3.1.1, x3.1.2.1, x3.1.2.2.1, ()), (x2.2.1.1, x2.2.1.2.1, x2.2.1.2.2.1, x2.2.1.2.2.2.1, ()), x3.2.1, ())).bind fun x81 => some ((x2.2.1.1, x2.2.1.2.1, x2.2.1.2.2.1, x2.2.1.2.2.2.1, ()), x3.2.1, x81.2.1, ())) ((f88 ((x3.1.1, x3.1.2.1, x3.1.2.2.1, ()), (x2.2.1.1, x2.2.1.2.1, x2.2.1.2.2.1, x2.2.1.2.2.2.1, ()), x3.2.1, ())).bind fun x82 => both (some ((x2.2.1.1, x2.2.1.2.1, x2.2.1.2.2.1, x2.2.1.2.2.2.1, ()), x3.2.1, x82.2.1, ())) (some ((x2.2.1.1, x2.2.1.2.1, x2.2.1.2.2.1, x2.2.1.2.2.2.1, ()), x3.2.1, x82.2.1, ()))))) (both (both ((f88 ((x3.1.1, x3.1.2.1, x3.1.2.2.1, ()), (x2.2.1.1, x2.2.1.2.1, x2.2.1.2.2.1, x2.2.1.2.2.2.1, ()), x3.2.1, ())).bind fun x83 => some ((x2.2.1.1, x2.2.1.2.1, x2.2.1.2.2.1, x2.2.1.2.2.2.1, ()), x3.2.1, x83.2.1, ())) (both ((f88 ((x3.1.1, x3.1.2.1, x3.1.2.2.1, ()), (x2.2.1.1, x2.2.1.2.1, x2.2.1.2.2.1, x2.2.1.2.2.2.1, ()), x3.2.1, ())).bind fun x84 => some ((x2.2.1.1, x2.2.1.2.1, x2.2.1.2.2.1, x2.2.1.2.2.2.1, ()), x3.2.1, x84.2.1, ())) ((f88 ((x3.1.1, x3.1.2.1, x3.1.2.2.1, ()), (x2.2.1.1, x2.2.1.2.1, x2.2.1.2.2.1, x2.2.1.2.2.2.1, ()), x3.2.1, ())).bind fun x85 => some ((x2.2.1.1, x2.2.1.2.1, x2.2.1.2.2.1, x2.2.1.2.2.2.1, ()), x3.2.1, x85.2.1, ())))) (both (both ((f88 ((x3.1.1, x3.1.2.1, x3.1.2.2.1, ()), (x2.2.1.1, x2.2.1.2.1, x2.2.1.2.2.1, x2.2.1.2.2.2.1, ()), x3.2.1, ())).bind fun x86 => some ((x2.2.1.1, x2.2.1.2.1, x2.2.1.2.2.1, x2.2.1.2.2.2.1, ()), x3.2.1, x86.2.1, ())) ((f88 ((x3.1.1, x3.1.2.1, x3.1.2.2.1, ()), (x2.2.1.1, x2.2.1.2.1, x2.2.1.2.2.1, x2.2.1.2.2.2.1, ()), x3.2.1, ())).bind fun x87 => both (some ((x2.2.1.1, x2.2.1.2.1, x2.2.1.2.2.1, x2.2.1.2.2.2.1, ()), x3.2.1, x87.2.1, ())) (some ((x2.2.1.1, x2.2.1.2.1, x2.2.1.2.2.1, x2.2.1.2.2.2.1, ()), x3.2.1, x87.2.1, ())))) (both (both ((f88 ((x3.1.1, x3.1.2.1, x3.1.2.2.1, ()), (x2.2.1.1, x2.2.1.2.1, x2.2.1.2.2.1, x2.2.1.2.2.2.1, ()), x3.2.1, ())).bind fun x88 => some ((x2.2.1.1, x2.2.1.2.1, x2.2.1.2.2.1, x2.2.1.2.2.2.1, ()), x3.2.1, x88.2.1, ())) ((f88 ((x3.1.1, x3.1.2.1, x3.1.2.2.1, ()), (x2.2.1.1, x2.2.1.2.1, x2.2.1.2.2.1, x2.2.1.2.2.2.1, ()), x3.2.1, ())).bind fun x89 => some ((x2.2.1.1, x2.2.1.2.1, x2.2.1.2.2.1, x2.2.1.2.2.2.1, ()), x3.2.1, x89.2.1, ()))) ((f88 ((x3.1.1, x3.1.2.1, x3.1.2.2.1, ()), (x2.2.1.1, x2.2.1.2.1, x2.2.1.2.2.1, x2.2.1.2.2.2.1, ()), x3.2.1, ())).bind fun x90 => both (both (some ((x2.2.1.1, x2.2.1.2.1, x2.2.1.2.2.1, x2.2.1.2.2.2.1, ()), x3.2.1, x90.2.1, ())) (some ((x2.2.1.1, x2.2.1.2.1, x2.2.1.2.2.1, x2.2.1.2.2.2.1, ()), x3.2.1, x90.2.1, ()))) (some ((x2.2.1.1, x2.2.1.2.1, x2.2.1.2.2.1, x2.2.1.2.2.2.1, ()), x3.2.1, x90.2.1, ()))))))) (both (both ((f88 ((x3.1.1, x3.1.2.1, x3.1.2.2.1, ()), (x2.2.1.1, x2.2.1.2.1, x2.2.1.2.2.1, x2.2.1.2.2.2.1, ()), x3.2.1, ())).bind fun x91 => some ((x2.2.1.1, x2.2.1.2.1, x2.2.1.2.2.1, x2.2.1.2.2.2.1, ()), x3.2.1, x91.2.1, ())) (both ((f88 ((x3.1.1, x3.1.2.1, x3.1.2.2.1, ()), (x2.2.1.1, x2.2.1.2.1, x2.2.1.2.2.1, x2.2.1.2.2.2.1, ()), x3.2.1, ())).bind fun x92 => some ((x2.2.1.1, x2.2.1.2.1, x2.2.1.2.2.1, x2.2.1.2.2.2.1, ()), x3.2.1, x92.2.1, ())) ((f88 ((x3.1.1, x3.1.2.1, x3.1.2.2.1, ()), (x2.2.1.1, x2.2.1.2.1, x2.2.1.2.2.1, x2.2.1.2.2.2.1, ()), x3.2.1, ())).bind fun x93 => both (some ((x2.2.1.1, x2.2.1.2.1, x2.2.1.2.2.1, x2.2.1.2.2.2.1, ()), x3.2.1, x93.2.1, ())) (some ((x2.2.1.1, x2.2.1.2.1, x2.2.1.2.2.1, x2.2.1.2.2.2.1, ()), x3.2.1, x93.2.1, ()))))) (both (both ((f88 ((x3.1.1, x3.1.2.1, x3.1.2.2.1, ()), (x2.2.1.1, x2.2.1.2.1, x2.2.1.2.2.1, x2.2.1.2.2.2.1, ()), x3.2.1, ())).bind fun x94 => some ((x2.2.1.1, x2.2.1.2.1, x2.2.1.2.2.1, x2.2.1.2.2.2.1, ()), x3.2.1, x94.2.1, ())) (both ((f88 ((x3.1.1, x3.1.2.1, x3.1.2.2.1, ()), (x2.2.1.1, x2.2.1.2.1, x2.2.1.2.2.1, x2.2.1.2.2.2.1, ()), x3.2.1, ())).bind fun x95 => some ((x2.2.1.1, x2.2.1.2.1, x2.2.1.2.2.1, x2.2.1.2.2.2.1, ()), x3.2.1, x95.2.1, ())) ((f88 ((x3.1.1, x3.1.2.1, x3.1.2.2.1, ()), (x2.2.1.1, x2.2.1.2.1, x2.2.1.2.2.1, x2.2.1.2.2.2.1, ()), x3.2.1, ())).bind fun x96 => some ((x2.2.1.1, x2.2.1.2.1, x2.2.1.2.2.1, x2.2.1.2.2.2.1, ()), x3.2.1, x96.2.1, ())))) (both (both ((f88 ((x3.1.1, x3.1.2.1, x3.1.2.2.1, ()), (x2.2.1.1, x2.2.1.2.1, x2.2.1.2.2.1, x2.2.1.2.2.2.1, ()), x3.2.1, ())).bind fun x97 => some ((x2.2.1.1, x2.2.1.2.1, x2.2.1.2.2.1, x2.2.1.2.2.2.1, ()), x3.2.1, x97.2.1, ())) ((f88 ((x3.1.1, x3.1.2.1, x3.1.2.2.1, ()), (x2.2.1.1, x2.2.1.2.1, x2.2.1.2.2.1, x2.2.1.2.2.2.1, ()), x3.2.1, ())).bind fun x98 => both (some ((x2.2.1.1, x2.2.1.2.1, x2.2.1.2.2.1, x2.2.1.2.2.2.1, ()), x3.2.1, x98.2.1, ())) (some ((x2.2.1.1, x2.2.1.2.1, x2.2.1.2.2.1, x2.2.1.2.2.2.1, ()), x3.2.1, x98.2.1, ())))) (both (both ((f88 ((x3.1.1, x3.1.2.1, x3.1.2.2.1, ()), (x2.2.1.1, x2.2.1.2.1, x2.2.1.2.2.1, x2.2.1.2.2.2.1, ()), x3.2.1, ())).bind fun x99 => some ((x2.2.1.1, x2.2.1.2.1, x2.2.1.2.2.1, x2.2.1.2.2.2.1, ()), x3.2.1, x99.2.1, ())) ((f88 ((x3.1.1, x3.1.2.1, x3.1.2.2.1, ()), (x2.2.1.1, x2.2.1.2.1, x2.2.1.2.2.1, x2.2.1.2.2.2.1, ()), x3.2.1, ())).bind fun x100 => some ((x2.2.1.1, x2.2.1.2.1, x2.2.1.2.2.1, x2.2.1.2.2.2.1, ()), x3.2.1, x100.2.1, ()))) ((f88 ((x3.1.1, x3.1.2.1, x3.1.2.2.1, ()), (x2.2.1.1, x2.2.1.2.1, x2.2.1.2.2.1, x2.2.1.2.2.2.1, ()), x3.2.1, ())).bind fun x101 => both (both (some ((x2.2.1.1, x2.2.1.2.1, x2.2.1.2.2.1, x2.2.1.2.2.2.1, ()), x3.2.1, x101.2.1, ())) (some ((x2.2.1.1, x2.2.1.2.1, x2.2.1.2.2.1, x2.2.1.2.2.2.1, ()), x3.2.1, x101.2.1, ()))) (some ((x2.2.1.1, x2.2.1.2.1, x2.2.1.2.2.1, x2.2.1.2.2.2.1, ()), x3.2.1, x101.2.1, ())))))))))) (both (both (both (both ((f88 ((x3.1.1, x3.1.2.1, x3.1.2.2.1, ()), (x2.2.1.1, x2.2.1.2.1, x2.2.1.2.2.1, x2.2.1.2.2.2.1, ()), x3.2.1, ())).bind fun x102 => some ((x2.2.1.1, x2.2.1.2.1, x2.2.1.2.2.1, x2.2.1.2.2.2.1, ()), x3.2.1, x102.2.1, ())) ((f88 ((x3.1.1, x3.1.2.1, x3.1.2.2.1, ()), (x2.2.1.1, x2.2.1.2.1, x2.2.1.2.2.1, x2.2.1.2.2.2.1, ()), x3.2.1, ())).bind fun x103 => some ((x2.2.1.1, x2.2.1.2.1, x2.2.1.2.2.1, x2.2.1.2.2.2.1, ()), x3.2.1, x103.2.1, ()))) (both (both ((f88 ((x3.1.1, x3.1.2.1, x3.1.2.2.1, ()), (x2.2.1.1, x2.2.1.2.1, x2.2.1.2.2.1, x2.2.1.2.2.2.1, ()), x3.2.1, ())).bind fun x104 => some ((x2.2.1.1, x2.2.1.2.1, x2.2.1.2.2.1, x2.2.1.2.2.2.1, ()), x3.2.1, x104.2.1, ())) (both ((f88 ((x3.1.1, x3.1.2.1, x3.1.2.2.1, ()), (x2.2.1.1, x2.2.1.2.1, x2.2.1.2.2.1, x2.2.1.2.2.2.1, ()), x3.2.1, ())).bind fun x105 => some ((x2.2.1.1, x2.2.1.2.1, x2.2.1.2.2.1, x2.2.1.2.2.2.1, ()), x3.2.1, x105.2.1, ())) ((f88 ((x3.1.1, x3.1.2.1, x3.1.2.2.1, ()), (x2.2.1.1, x2.2.1.2.1, x2.2.1.2.2.1, x2.2.1.2.2.2.1, ()), x3.2.1, ())).bind fun x106 => both (some ((x2.2.1.1, x2.2.1.2.1, x2.2.1.2.2.1, x2.2.1.2.2.2.1, ()), x3.2.1, x106.2.1, ())) (some ((x2.2.1.1, x2.2.1.2.1, x2.2.1.2.2.1, x2.2.1.2.2.2.1, ()), x3.2.1, x106.2.1, ()))))) (both ((f88 ((x3.1.1, x3.1.2.1, x3.1.2.2.1, ()), (x2.2.1.1, x2.2.1.2.1, x2.2.1.2.2.1, x2.2.1.2.2.2.1, ()), x3.2.1, ())).bind fun x107 => some ((x2.2.1.1, x2.2.1.2.1, x2.2.1.2.2.1, x2.2.1.2.2.2.1, ()), x3.2.1, x107.2.1, ())) (both ((f88 ((x3.1.1, x3.1.2.1, x3.1.2.2.1, ()), (x2.2.1.1, x2.2.1.2.1, x2.2.1.2.2.1, x2.2.1.2.2.2.1, ()), x3.2.1, ())).bind fun x108 => some ((x2.2.1.1, x2.2.1.2.1, x2.2.1.2.2.1, x2.2.1.2.2.2.1, ()), x3.2.1, x108.2.1, ())) ((f88 ((x3.1.1, x3.1.2.1, x3.1.2.2.1, ()), (x2.2.1.1, x2.2.1.2.1, x2.2.1.2.2.1, x2.2.1.2.2.2.1, ()), x3.2.1, ())).bind fun x109 => both (some ((x2.2.1.1, x2.2.1.2.1, x2.2.1.2.2.1, x2.2.1.2.2.2.1, ()), x3.2.1, x109.2.1, ())) (some ((x2.2.1.1, x2.2.1.2.1, x2.2.1.2.2.1, x2.2.1.2.2.2.1, ()), x3.2.1, x109.2.1, ()))))))) (both (both (both ((f88 ((x3.1.1, x3.1.2.1, x3.1.2.2.1, ()), (x2.2.1.1, x2.2.1.2.1, x2.2.1.2.2.1, x2.2.1.2.2.2.1, ()), x3.2.1, ())).bind fun x110 => some ((x2.2.1.1, x2.2.1.2.1, x2.2.1.2.2.1, x2.2.1.2.2.2.1, ()), x3.2.1, x110.2.1, ())) ((f88 ((x3.1.1, x3.1.2.1, x3.1.2.2.1, ()), (x2.2.1.1, x2.2.1.2.1, x2.2.1.2.2.1, x2.2.1.2.2.2.1, ()), x3.2.1, ())).bind fun x111 => some ((x2.2.1.1, x2.2.1.2.1, x2.2.1.2.2.1, x2.2.1.2.2.2.1, ()), x3.2.1, x111.2.1, ()))) (both (both ((f88 ((x3.1.1, x3.1.2.1, x3.1.2.2.1, ()), (x2.2.1.1, x2.2.1.2.1, x2.2.1.2.2.1, x2.2.1.2.2.2.1, ()), x3.2.1, ())).bind fun x112 => some ((x2.2.1.1, x2.2.1.2.1, x2.2.1.2.2.1, x2.2.1.2.2.2.1, ()), x3.2.1, x112.2.1, ())) (both ((f88 ((x3.1.1, x3.1.2.1, x3.1.2.2.1, ()), (x2.2.1.1, x2.2.1.2.1, x2.2.1.2.2.1, x2.2.1.2.2.2.1, ()), x3.2.1, ())).bind fun x113 => some ((x2.2.1.1, x2.2.1.2.1, x2.2.1.2.2.1, x2.2.1.2.2.2.1, ()), x3.2.1, x113.2.1, ())) ((f88 ((x3.1.1, x3.1.2.1, x3.1.2.2.1, ()), (x2.2.1.1, x2.2.1.2.1, x2.2.1.2.2.1, x2.2.1.2.2.2.1, ()), x3.2.1, ())).bind fun x114 => some ((x2.2.1.1, x2.2.1.2.1, x2.2.1.2.2.1, x2.2.1.2.2.2.1, ()), x3.2.1, x114.2.1, ())))) (both ((f88 ((x3.1.1, x3.1.2.1, x3.1.2.2.1, ()), (x2.2.1.1, x2.2.1.2.1, x2.2.1.2.2.1, x2.2.1.2.2.2.1, ()), x3.2.1, ())).bind fun x115 => some ((x2.2.1.1, x2.2.1.2.1, x2.2.1.2.2.1, x2.2.1.2.2.2.1, ()), x3.2.1, x115.2.1, ())) (both ((f88 ((x3.1.1, x3.1.2.1, x3.1.2.2.1, ()), (x2.2.1.1, x2.2.1.2.1, x2.2.1.2.2.1, x2.2.1.2.2.2.1, ()), x3.2.1, ())).bind fun x116 => some ((x2.2.1.1, x2.2.1.2.1, x2.2.1.2.2.1, x2.2.1.2.2.2.1, ()), x3.2.1, x116.2.1, ())) ((f88 ((x3.1.1, x3.1.2.1, x3.1.2.2.1, ()), (x2.2.1.1, x2.2.1.2.1, x2.2.1.2.2.1, x2.2.1.2.2.2.1, ()), x3.2.1, ())).bind fun x117 => some ((x2.2.1.1, x2.2.1.2.1, x2.2.1.2.2.1, x2.2.1.2.2.2.1, ()), x3.2.1, x117.2.1, ())))))) (both (both (both ((f88 ((x3.1.1, x3.1.2.1, x3.1.2.2.1, ()), (x2.2.1.1, x2.2.1.2.1, x2.2.1.2.2.1, x2.2.1.2.2.2.1, ()), x3.2.1, ())).bind fun x118 => some ((x2.2.1.1, x2.2.1.2.1, x2.2.1.2.2.1, x2.2.1.2.2.2.1, ()), x3.2.1, x118.2.1, ())) (both ((f88 ((x3.1.1, x3.1.2.1, x3.1.2.2.1, ()), (x2.2.1.1, x2.2.1.2.1, x2.2.1.2.2.1, x2.2.1.2.2.2.1, ()), x3.2.1, ())).bind fun x119 => some ((x2.2.1.1, x2.2.1.2.1, x2.2.1.2.2.1, x2.2.1.2.2.2.1, ()), x3.2.1, x119.2.1, ())) ((f88 ((x3.1.1, x3.1.2.1, x3.1.2.2.1, ()), (x2.2.1.1, x2.2.1.2.1, x2.2.1.2.2.1, x2.2.1.2.2.2.1, ()), x3.2.1, ())).bind fun x120 => both (some ((x2.2.1.1, x2.2.1.2.1, x2.2.1.2.2.1, x2.2.1.2.2.2.1, ()), x3.2.1, x120.2.1, ())) (some ((x2.2.1.1, x2.2.1.2.1, x2.2.1.2.2.1, x2.2.1.2.2.2.1, ()), x3.2.1, x120.2.1, ()))))) (both (both ((f88 ((x3.1.1, x3.1.2.1, x3.1.2.2.1, ()), (x2.2.1.1, x2.2.1.2.1, x2.2.1.2.2.1, x2.2.1.2.2.2.1, ()), x3.2.1, ())).bind fun x121 => some ((x2.2.1.1, x2.2.1.2.1, x2.2.1.2.2.1, x2.2.1.2.2.2.1, ()), x3.2.1, x121.2.1, ())) (both ((f88 ((x3.1.1, x3.1.2.1, x3.1.2.2.1, ()), (x2.2.1.1, x2.2.1.2.1, x2.2.1.2.2.1, x2.2.1.2.2.2.1, ()), x3.2.1, ())).bind fun x122 => some ((x2.2.1.1, x2.2.1.2.1, x2.2.1.2.2.1, x2.2.1.2.2.2.1, ()), x3.2.1, x122.2.1, ())) ((f88 ((x3.1.1, x3.1.2.1, x3.1.2.2.1, ()), (x2.2.1.1, x2.2.1.2.1, x2.2.1.2.2.1, x2.2.1.2.2.2.1, ()), x3.2.1, ())).bind fun x123 => some ((x2.2.1.1, x2.2.1.2.1, x2.2.1.2.2.1, x2.2.1.2.2.2.1, ()), x3.2.1, x123.2.1, ())))) (both (both ((f88 ((x3.1.1, x3.1.2.1, x3.1.2.2.1, ()), (x2.2.1.1, x2.2.1.2.1, x2.2.1.2.2.1, x2.2.1.2.2.2.1, ()), x3.2.1, ())).bind fun x124 => some ((x2.2.1.1, x2.2.1.2.1, x2.2.1.2.2.1, x2.2.1.2.2.2.1, ()), x3.2.1, x124.2.1, ())) ((f88 ((x3.1.1, x3.1.2.1, x3.1.2.2.1, ()), (x2.2.1.1, x2.2.1.2.1, x2.2.1.2.2.1, x2.2.1.2.2.2.1, ()), x3.2.1, ())).bind fun x125 => both (some ((x2.2.1.1, x2.2.1.2.1, x2.2.1.2.2.1, x2.2.1.2.2.2.1, ()), x3.2.1, x125.2.1, ())) (some ((x2.2.1.1, x2.2.1.2.1, x2.2.1.2.2.1, x2.2.1.2.2.2.1, ()), x3.2.1, x125.2.1, ())))) (both (both ((f88 ((x3.1.1, x3.1.2.1, x3.1.2.2.1, ()), (x2.2.1.1, x2.2.1.2.1, x2.2.1.2.2.1, x2.2.1.2.2.2.1, ()), x3.2.1, ())).bind fun x126 => some ((x2.2.1.1, x2.2.1.2.1, x2.2.1.2.2.1, x2.2.1.2.2.2.1, ()), x3.2.1, x126.2.1, ())) ((f88 ((x3.1.1, x3.1.2.1, x3.1.2.2.1, ()), (x2.2.1.1, x2.2.1.2.1, x2.2.1.2.2.1, x2.2.1.2.2.2.1, ()), x3.2.1, ())).bind fun x127 => some ((x2.2.1.1, x2.2.1.2.1, x2.2.1.2.2.1, x2.2.1.2.2.2.1, ()), x3.2.1, x127.2.1, ()))) ((f88 ((x3.1.1, x3.1.2.1, x3.1.2.2.1, ()), (x2.2.1.1, x2.2.1.2.1, x2.2.1.2.2.1, x2.2.1.2.2.2.1, ()), x3.2.1, ())).bind fun x128 => both (both (some ((x2.2.1.1, x2.2.1.2.1, x2.2.1.2.2.1, x2.2.1.2.2.2.1, ()), x3.2.1, x128.2.1, ())) (some ((x2.2.1.1, x2.2.1.2.1, x2.2.1.2.2.1, x2.2.1.2.2.2.1, ()), x3.2.1, x128.2.1, ()))) (some ((x2.2.1.1, x2.2.1.2.1, x2.2.1.2.2.1, x2.2.1.2.2.2.1, ()), x3.2.1, x128.2.1, ()))))))) (both (both ((f88 ((x3.1.1, x3.1.2.1, x3.1.2.2.1, ()), (x2.2.1.1, x2.2.1.2.1, x2.2.1.2.2.1, x2.2.1.2.2.2.1, ()), x3.2.1, ())).bind fun x129 => some ((x2.2.1.1, x2.2.1.2.1, x2.2.1.2.2.1, x2.2.1.2.2.2.1, ()), x3.2.1, x129.2.1, ())) (both ((f88 ((x3.1.1, x3.1.2.1, x3.1.2.2.1, ()), (x2.2.1.1, x2.2.1.2.1, x2.2.1.2.2.1, x2.2.1.2.2.2.1, ()), x3.2.1, ())).bind fun x130 => some ((x2.2.1.1, x2.2.1.2.1, x2.2.1.2.2.1, x2.2.1.2.2.2.1, ()), x3.2.1, x130.2.1, ())) ((f88 ((x3.1.1, x3.1.2.1, x3.1.2.2.1, ()), (x2.2.1.1, x2.2.1.2.1, x2.2.1.2.2.1, x2.2.1.2.2.2.1, ()), x3.2.1, ())).bind fun x131 => both (some ((x2.2.1.1, x2.2.1.2.1, x2.2.1.2.2.1, x2.2.1.2.2.2.1, ()), x3.2.1, x131.2.1, ())) (some ((x2.2.1.1, x2.2.1.2.1, x2.2.1.2.2.1, x2.2.1.2.2.2.1, ()), x3.2.1, x131.2.1, ()))))) (both (both ((f88 ((x3.1.1, x3.1.2.1, x3.1.2.2.1, ()), (x2.2.1.1, x2.2.1.2.1, x2.2.1.2.2.1, x2.2.1.2.2.2.1, ()), x3.2.1, ())).bind fun x132 => some ((x2.2.1.1, x2.2.1.2.1, x2.2.1.2.2.1, x2.2.1.2.2.2.1, ()), x3.2.1, x132.2.1, ())) (both ((f88 ((x3.1.1, x3.1.2.1, x3.1.2.2.1, ()), (x2.2.1.1, x2.2.1.2.1, x2.2.1.2.2.1, x2.2.1.2.2.2.1, ()), x3.2.1, ())).bind fun x133 => some ((x2.2.1.1, x2.2.1.2.1, x2.2.1.2.2.1, x2.2.1.2.2.2.1, ()), x3.2.1, x133.2.1, ())) ((f88 ((x3.1.1, x3.1.2.1, x3.1.2.2.1, ()), (x2.2.1.1, x2.2.1.2.1, x2.2.1.2.2.1, x2.2.1.2.2.2.1, ()), x3.2.1, ())).bind fun x134 => some ((x2.2.1.1, x2.2.1.2.1, x2.2.1.2.2.1, x2.2.1.2.2.2.1, ()), x3.2.1, x134.2.1, ())))) (both (both ((f88 ((x3.1.1, x3.1.2.1, x3.1.2.2.1, ()), (x2.2.1.1, x2.2.1.2.1, x2.2.1.2.2.1, x2.2.1.2.2.2.1, ()), x3.2.1, ())).bind fun x135 => some ((x2.2.1.1, x2.2.1.2.1, x2.2.1.2.2.1, x2.2.1.2.2.2.1, ()), x3.2.1, x135.2.1, ())) ((f88 ((x3.1.1, x3.1.2.1, x3.1.2.2.1, ()), (x2.2.1.1, x2.2.1.2.1, x2.2.1.2.2.1, x2.2.1.2.2.2.1, ()), x3.2.1, ())).bind fun x136 => both (some ((x2.2.1.1, x2.2.1.2.1, x2.2.1.2.2.1, x2.2.1.2.2.2.1, ()), x3.2.1, x136.2.1, ())) (some ((x2.2.1.1, x2.2.1.2.1, x2.2.1.2.2.1, x2.2.1.2.2.2.1, ()), x3.2.1, x136.2.1, ())))) (both (both ((f88 ((x3.1.1, x3.1.2.1, x3.1.2.2.1, ()), (x2.2.1.1, x2.2.1.2.1, x2.2.1.2.2.1, x2.2.1.2.2.2.1, ()), x3.2.1, ())).bind fun x137 => some ((x2.2.1.1, x2.2.1.2.1, x2.2.1.2.2.1, x2.2.1.2.2.2.1, ()), x3.2.1, x137.2.1, ())) ((f88 ((x3.1.1, x3.1.2.1, x3.1.2.2.1, ()), (x2.2.1.1, x2.2.1.2.1, x2.2.1.2.2.1, x2.2.1.2.2.2.1, ()), x3.2.1, ())).bind fun x138 => some ((x2.2.1.1, x2.2.1.2.1, x2.2.1.2.2.1, x2.2.1.2.2.2.1, ()), x3.2.1, x138.2.1, ()))) ((f88 ((x3.1.1, x3.1.2.1, x3.1.2.2.1, ()), (x2.2.1.1, x2.2.1.2.1, x2.2.1.2.2.1, x2.2.1.2.2.2.1, ()), x3.2.1, ())).bind fun x139 => both (both (some ((x2.2.1.1, x2.2.1.2.1, x2.2.1.2.2.1, x2.2.1.2.2.2.1, ()), x3.2.1, x139.2.1, ())) (some ((x2.2.1.1, x2.2.1.2.1, x2.2.1.2.2.1, x2.2.1.2.2.2.1, ()), x3.2.1, x139.2.1, ()))) (some ((x2.2.1.1, x2.2.1.2.1, x2.2.1.2.2.1, x2.2.1.2.2.2.1, ()), x3.2.1, x139.2.1, ())))))))))) (both (both (both ((f88 ((x3.1.1, x3.1.2.1, x3.1.2.2.1, ()), (x2.2.1.1, x2.2.1.2.1, x2.2.1.2.2.1, x2.2.1.2.2.2.1, ()), x3.2.1, ())).bind fun x140 => some ((x2.2.1.1, x2.2.1.2.1, x2.2.1.2.2.1, x2.2.1.2.2.2.1, ()), x3.2.1, x140.2.1, ())) ((f88 ((x3.1.1, x3.1.2.1, x3.1.2.2.1, ()), (x2.2.1.1, x2.2.1.2.1, x2.2.1.2.2.1, x2.2.1.2.2.2.1, ()), x3.2.1, ())).bind fun x141 => some ((x2.2.1.1, x2.2.1.2.1, x2.2.1.2.2.1, x2.2.1.2.2.2.1, ()), x3.2.1, x141.2.1, ()))) (both (both ((f88 ((x3.1.1, x3.1.2.1, x3.1.2.2.1, ()), (x2.2.1.1, x2.2.1.2.1, x2.2.1.2.2.1, x2.2.1.2.2.2.1, ()), x3.2.1, ())).bind fun x142 => some ((x2.2.1.1, x2.2.1.2.1, x2.2.1.2.2.1, x2.2.1.2.2.2.1, ()), x3.2.1, x142.2.1, ())) (both ((f88 ((x3.1.1, x3.1.2.1, x3.1.2.2.1, ()), (x2.2.1.1, x2.2.1.2.1, x2.2.1.2.2.1, x2.2.1.2.2.2.1, ()), x3.2.1, ())).bind fun x143 => some ((x2.2.1.1, x2.2.1.2.1, x2.2.1.2.2.1, x2.2.1.2.2.2.1, ()), x3.2.1, x143.2.1, ())) ((f88 ((x3.1.1, x3.1.2.1, x3.1.2.2.1, ()), (x2.2.1.1, x2.2.1.2.1, x2.2.1.2.2.1, x2.2.1.2.2.2.1, ()), x3.2.1, ())).bind fun x144 => both (some ((x2.2.1.1, x2.2.1.2.1, x2.2.1.2.2.1, x2.2.1.2.2.2.1, ()), x3.2.1, x144.2.1, ())) (some ((x2.2.1.1, x2.2.1.2.1, x2.2.1.2.2.1, x2.2.1.2.2.2.1, ()), x3.2.1, x144.2.1, ()))))) (both ((f88 ((x3.1.1, x3.1.2.1, x3.1.2.2.1, ()), (x2.2.1.1, x2.2.1.2.1, x2.2.1.2.2.1, x2.2.1.2.2.2.1, ()), x3.2.1, ())).bind fun x145 => some ((x2.2.1.1, x2.2.1.2.1, x2.2.1.2.2.1, x2.2.1.2.2.2.1, ()), x3.2.1, x145.2.1, ())) (both ((f88 ((x3.1.1, x3.1.2.1, x3.1.2.2.1, ()), (x2.2.1.1, x2.2.1.2.1, x2.2.1.2.2.1, x2.2.1.2.2.2.1, ()), x3.2.1, ())).bind fun x146 => some ((x2.2.1.1, x2.2.1.2.1, x2.2.1.2.2.1, x2.2.1.2.2.2.1, ()), x3.2.1, x146.2.1, ())) ((f88 ((x3.1.1, x3.1.2.1, x3.1.2.2.1, ()), (x2.2.1.1, x2.2.1.2.1, x2.2.1.2.2.1, x2.2.1.2.2.2.1, ()), x3.2.1, ())).bind fun x147 => both (some ((x2.2.1.1, x2.2.1.2.1, x2.2.1.2.2.1, x2.2.1.2.2.2.1, ()), x3.2.1, x147.2.1, ())) (some ((x2.2.1.1, x2.2.1.2.1, x2.2.1.2.2.1, x2.2.1.2.2.2.1, ()), x3.2.1, x147.2.1, ()))))))) (both (both (both ((f88 ((x3.1.1, x3.1.2.1, x3.1.2.2.1, ()), (x2.2.1.1, x2.2.1.2.1, x2.2.1.2.2.1, x2.2.1.2.2.2.1, ()), x3.2.1, ())).bind fun x148 => some ((x2.2.1.1, x2.2.1.2.1, x2.2.1.2.2.1, x2.2.1.2.2.2.1, ()), x3.2.1, x148.2.1, ())) ((f88 ((x3.1.1, x3.1.2.1, x3.1.2.2.1, ()), (x2.2.1.1, x2.2.1.2.1, x2.2.1.2.2.1, x2.2.1.2.2.2.1, ()), x3.2.1, ())).bind fun x149 => some ((x2.2.1.1, x2.2.1.2.1, x2.2.1.2.2.1, x2.2.1.2.2.2.1, ()), x3.2.1, x149.2.1, ()))) (both (both ((f88 ((x3.1.1, x3.1.2.1, x3.1.2.2.1, ()), (x2.2.1.1, x2.2.1.2.1, x2.2.1.2.2.1, x2.2.1.2.2.2.1, ()), x3.2.1, ())).bind fun x150 => some ((x2.2.1.1, x2.2.1.2.1, x2.2.1.2.2.1, x2.2.1.2.2.2.1, ()), x3.2.1, x150.2.1, ())) (both ((f88 ((x3.1.1, x3.1.2.1, x3.1.2.2.1, ()), (x2.2.1.1, x2.2.1.2.1, x2.2.1.2.2.1, x2.2.1.2.2.2.1, ()), x3.2.1, ())).bind fun x151 => some ((x2.2.1.1, x2.2.1.2.1, x2.2.1.2.2.1, x2.2.1.2.2.2.1, ()), x3.2.1, x151.2.1, ())) ((f88 ((x3.1.1, x3.1.2.1, x3.1.2.2.1, ()), (x2.2.1.1, x2.2.1.2.1, x2.2.1.2.2.1, x2.2.1.2.2.2.1, ()), x3.2.1, ())).bind fun x152 => some ((x2.2.1.1, x2.2.1.2.1, x2.2.1.2.2.1, x2.2.1.2.2.2.1, ()), x3.2.1, x152.2.1, ())))) (both ((f88 ((x3.1.1, x3.1.2.1, x3.1.2.2.1, ()), (x2.2.1.1, x2.2.1.2.1, x2.2.1.2.2.1, x2.2.1.2.2.2.1, ()), x3.2.1, ())).bind fun x153 => some ((x2.2.1.1, x2.2.1.2.1, x2.2.1.2.2.1, x2.2.1.2.2.2.1, ()), x3.2.1, x153.2.1, ())) (both ((f88 ((x3.1.1, x3.1.2.1, x3.1.2.2.1, ()), (x2.2.1.1, x2.2.1.2.1, x2.2.1.2.2.1, x2.2.1.2.2.2.1, ()), x3.2.1, ())).bind fun x154 => some ((x2.2.1.1, x2.2.1.2.1, x2.2.1.2.2.1, x2.2.1.2.2.2.1, ()), x3.2.1, x154.2.1, ())) ((f88 ((x3.1.1, x3.1.2.1, x3.1.2.2.1, ()), (x2.2.1.1, x2.2.1.2.1, x2.2.1.2.2.1, x2.2.1.2.2.2.1, ()), x3.2.1, ())).bind fun x155 => some ((x2.2.1.1, x2.2.1.2.1, x2.2.1.2.2.1, x2.2.1.2.2.2.1, ()), x3.2.1, x155.2.1, ())))))) (both (both (both ((f88 ((x3.1.1, x3.1.2.1, x3.1.2.2.1, ()), (x2.2.1.1, x2.2.1.2.1, x2.2.1.2.2.1, x2.2.1.2.2.2.1, ()), x3.2.1, ())).bind fun x156 => some ((x2.2.1.1, x2.2.1.2.1, x2.2.1.2.2.1, x2.2.1.2.2.2.1, ()), x3.2.1, x156.2.1, ())) (both ((f88 ((x3.1.1, x3.1.2.1, x3.1.2.2.1, ()), (x2.2.1.1, x2.2.1.2.1, x2.2.1.2.2.1, x2.2.1.2.2.2.1, ()), x3.2.1, ())).bind fun x157 => some ((x2.2.1.1, x2.2.1.2.1, x2.2.1.2.2.1, x2.2.1.2.2.2.1, ()), x3.2.1, x157.2.1, ())) ((f88 ((x3.1.1, x3.1.2.1, x3.1.2.2.1, ()), (x2.2.1.1, x2.2.1.2.1, x2.2.1.2.2.1, x2.2.1.2.2.2.1, ()), x3.2.1, ())).bind fun x158 => both (some ((x2.2.1.1, x2.2.1.2.1, x2.2.1.2.2.1, x2.2.1.2.2.2.1, ()), x3.2.1, x158.2.1, ())) (some ((x2.2.1.1, x2.2.1.2.1, x2.2.1.2.2.1, x2.2.1.2.2.2.1, ()), x3.2.1, x158.2.1, ()))))) (both (both ((f88 ((x3.1.1, x3.1.2.1, x3.1.2.2.1, ()), (x2.2.1.1, x2.2.1.2.1, x2.2.1.2.2.1, x2.2.1.2.2.2.1, ()), x3.2.1, ())).bind fun x159 => some ((x2.2.1.1, x2.2.1.2.1, x2.2.1.2.2.1, x2.2.1.2.2.2.1, ()), x3.2.1, x159.2.1, ())) (both ((f88 ((x3.1.1, x3.1.2.1, x3.1.2.2.1, ()), (x2.2.1.1, x2.2.1.2.1, x2.2.1.2.2.1, x2.2.1.2.2.2.1, ()), x3.2.1, ())).bind fun x160 => some ((x2.2.1.1, x2.2.1.2.1, x2.2.1.2.2.1, x2.2.1.2.2.2.1, ()), x3.2.1, x160.2.1, ())) ((f88 ((x3.1.1, x3.1.2.1, x3.1.2.2.1, ()), (x2.2.1.1, x2.2.1.2.1, x2.2.1.2.2.1, x2.2.1.2.2.2.1, ()), x3.2.1, ())).bind fun x161 => some ((x2.2.1.1, x2.2.1.2.1, x2.2.1.2.2.1, x2.2.1.2.2.2.1, ()), x3.2.1, x161.2.1, ())))) (both (both ((f88 ((x3.1.1, x3.1.2.1, x3.1.2.2.1, ()), (x2.2.1.1, x2.2.1.2.1, x2.2.1.2.2.1, x2.2.1.2.2.2.1, ()), x3.2.1, ())).bind fun x162 => some ((x2.2.1.1, x2.2.1.2.1, x2.2.1.2.2.1, x2.2.1.2.2.2.1, ()), x3.2.1, x162.2.1, ())) ((f88 ((x3.1.1, x3.1.2.1, x3.1.2.2.1, ()), (x2.2.1.1, x2.2.1.2.1, x2.2.1.2.2.1, x2.2.1.2.2.2.1, ()), x3.2.1, ())).bind fun x163 => both (some ((x2.2.1.1, x2.2.1.2.1, x2.2.1.2.2.1, x2.2.1.2.2.2.1, ()), x3.2.1, x163.2.1, ())) (some ((x2.2.1.1, x2.2.1.2.1, x2.2.1.2.2.1, x2.2.1.2.2.2.1, ()), x3.2.1, x163.2.1, ())))) (both (both ((f88 ((x3.1.1, x3.1.2.1, x3.1.2.2.1, ()), (x2.2.1.1, x2.2.1.2.1, x2.2.1.2.2.1, x2.2.1.2.2.2.1, ()), x3.2.1, ())).bind fun x164 => some ((x2.2.1.1, x2.2.1.2.1, x2.2.1.2.2.1, x2.2.1.2.2.2.1, ()), x3.2.1, x164.2.1, ())) ((f88 ((x3.1.1, x3.1.2.1, x3.1.2.2.1, ()), (x2.2.1.1, x2.2.1.2.1, x2.2.1.2.2.1, x2.2.1.2.2.2.1, ()), x3.2.1, ())).bind fun x165 => some ((x2.2.1.1, x2.2.1.2.1, x2.2.1.2.2.1, x2.2.1.2.2.2.1, ()), x3.2.1, x165.2.1, ()))) ((f88 ((x3.1.1, x3.1.2.1, x3.1.2.2.1, ()), (x2.2.1.1, x2.2.1.2.1, x2.2.1.2.2.1, x2.2.1.2.2.2.1, ()), x3.2.1, ())).bind fun x166 => both (both (some ((x2.2.1.1, x2.2.1.2.1, x2.2.1.2.2.1, x2.2.1.2.2.2.1, ()), x3.2.1, x166.2.1, ())) (some ((x2.2.1.1, x2.2.1.2.1, x2.2.1.2.2.1, x2.2.1.2.2.2.1, ()), x3.2.1, x166.2.1, ()))) (some ((x2.2.1.1, x2.2.1.2.1, x2.2.1.2.2.1, x2.2.1.2.2.2.1, ()), x3.2.1, x166.2.1, ()))))))) (both (both ((f88 ((x3.1.1, x3.1.2.1, x3.1.2.2.1, ()), (x2.2.1.1, x2.2.1.2.1, x2.2.1.2.2.1, x2.2.1.2.2.2.1, ()), x3.2.1, ())).bind fun x167 => some ((x2.2.1.1, x2.2.1.2.1, x2.2.1.2.2.1, x2.2.1.2.2.2.1, ()), x3.2.1, x167.2.1, ())) (both ((f88 ((x3.1.1, x3.1.2.1, x3.1.2.2.1, ()), (x2.2.1.1, x2.2.1.2.1, x2.2.1.2.2.1, x2.2.1.2.2.2.1, ()), x3.2.1, ())).bind fun x168 => some ((x2.2.1.1, x2.2.1.2.1, x2.2.1.2.2.1, x2.2.1.2.2.2.1, ()), x3.2.1, x168.2.1, ())) ((f88 ((x3.1.1, x3.1.2.1, x3.1.2.2.1, ()), (x2.2.1.1, x2.2.1.2.1, x2.2.1.2.2.1, x2.2.1.2.2.2.1, ()), x3.2.1, ())).bind fun x169 => both (some ((x2.2.1.1, x2.2.1.2.1, x2.2.1.2.2.1, x2.2.1.2.2.2.1, ()), x3.2.1, x169.2.1, ())) (some ((x2.2.1.1, x2.2.1.2.1, x2.2.1.2.2.1, x2.2.1.2.2.2.1, ()), x3.2.1, x169.2.1, ()))))) (both (both ((f88 ((x3.1.1, x3.1.2.1, x3.1.2.2.1, ()), (x2.2.1.1, x2.2.1.2.1, x2.2.1.2.2.1, x2.2.1.2.2.2.1, ()), x3.2.1, ())).bind fun x170 => some ((x2.2.1.1, x2.2.1.2.1, x2.2.1.2.2.1, x2.2.1.2.2.2.1, ()), x3.2.1, x170.2.1, ())) (both ((f88 ((x3.1.1, x3.1.2.1, x3.1.2.2.1, ()), (x2.2.1.1, x2.2.1.2.1, x2.2.1.2.2.1, x2.2.1.2.2.2.1, ()), x3.2.1, ())).bind fun x171 => some ((x2.2.1.1, x2.2.1.2.1, x2.2.1.2.2.1, x2.2.1.2.2.2.1, ()), x3.2.1, x171.2.1, ())) ((f88 ((x3.1.1, x3.1.2.1, x3.1.2.2.1, ()), (x2.2.1.1, x2.2.1.2.1, x2.2.1.2.2.1, x2.2.1.2.2.2.1, ()), x3.2.1, ())).bind fun x172 => some ((x2.2.1.1, x2.2.1.2.1, x2.2.1.2.2.1, x2.2.1.2.2.2.1, ()), x3.2.1, x172.2.1, ())))) (both (both ((f88 ((x3.1.1, x3.1.2.1, x3.1.2.2.1, ()), (x2.2.1.1, x2.2.1.2.1, x2.2.1.2.2.1, x2.2.1.2.2.2.1, ()), x3.2.1, ())).bind fun x173 => some ((x2.2.1.1, x2.2.1.2.1, x2.2.1.2.2.1, x2.2.1.2.2.2.1, ()), x3.2.1, x173.2.1, ())) ((f88 ((x3.1.1, x3.1.2.1, x3.1.2.2.1, ()), (x2.2.1.1, x2.2.1.2.1, x2.2.1.2.2.1, x2.2.1.2.2.2.1, ()), x3.2.1, ())).bind fun x174 => both (some ((x2.2.1.1, x2.2.1.2.1, x2.2.1.2.2.1, x2.2.1.2.2.2.1, ()), x3.2.1, x174.2.1, ())) (some ((x2.2.1.1, x2.2.1.2.1, x2.2.1.2.2.1, x2.2.1.2.2.2.1, ()), x3.2.1, x174.2.1, ())))) (both (both ((f88 ((x3.1.1, x3.1.2.1, x3.1.2.2.1, ()), (x2.2.1.1, x2.2.1.2.1, x2.2.1.2.2.1, x2.2.1.2.2.2.1, ()), x3.2.1, ())).bind fun x175 => some ((x2.2.1.1, x2.2.1.2.1, x2.2.1.2.2.1, x2.2.1.2.2.2.1, ()), x3.2.1, x175.2.1, ())) ((f88 ((x3.1.1, x3.1.2.1, x3.1.2.2.1, ()), (x2.2.1.1, x2.2.1.2.1, x2.2.1.2.2.1, x2.2.1.2.2.2.1, ()), x3.2.1, ())).bind fun x176 => some ((x2.2.1.1, x2.2.1.2.1, x2.2.1.2.2.1, x2.2.1.2.2.2.1, ()), x3.2.1, x176.2.1, ()))) ((f88 ((x3.1.1, x3.1.2.1, x3.1.2.2.1, ()), (x2.2.1.1, x2.2.1.2.1, x2.2.1.2.2.1, x2.2.1.2.2.2.1, ()), x3.2.1, ())).bind fun x177 => both (both (some ((x2.2.1.1, x2.2.1.2.1, x2.2.1.2.2.1, x2.2.1.2.2.2.1, ()), x3.2.1, x177.2.1, ())) (some ((x2.2.1.1, x2.2.1.2.1, x2.2.1.2.2.1, x2.2.1.2.2.2.1, ()), x3.2.1, x177.2.1, ()))) (some ((x2.2.1.1, x2.2.1.2.1, x2.2.1.2.2.1, x2.2.1.2.2.2.1, ()), x3.2.1, x177.2.1, ())))))))))))))
def E45 (f85 : T85) (f86 : T86) (f87 : T87) (f88 : T88) : Env := envL [(85, N85 f85), (86, N86 f86), (87, N87 f87), (88, N88 f88)]
noncomputable def L45 (f85 : T85) (f86 : T86) (f87 : T87) (f88 : T88) : LEnv (densS (muts p45 ++ r45)) := lenv []
theorem e45 (f85 : T85) (f86 : T86) (f87 : T87) (f88 : T88) (a : densS p45) : runF (E45 f85 f86 f87 f88) tab (fun _ => false) p45 r45 Proofs.Tryz.f45 (L45 f85 f86 f87 f88) a = F45 f85 f86 f87 f88 a := by kernel_rfl
theorem ok45 {f85 : T85} {f86 : T86} {f87 : T87} {f88 : T88} (h85 : OK Proofs.Tryz.prog 85 (N85 f85)) (h86 : OK Proofs.Tryz.prog 86 (N86 f86)) (h87 : OK Proofs.Tryz.prog 87 (N87 f87)) (h88 : OK Proofs.Tryz.prog 88 (N88 f88)) : OK Proofs.Tryz.prog 45 (mkE p45 r45 true (F45 f85 f86 f87 f88)) :=
  fn_ok (E := E45 f85 f86 f87 f88) tab_ok (envL_ok (OKs.cons h85 (OKs.cons h86 (OKs.cons h87 (OKs.cons h88 OKs.nil))))) mixed (ann := (fun _ => false)) (L := L45 f85 f86 f87 f88) (fn := Proofs.Tryz.f45) (c := bodyC Proofs.Tryz.f45) (ls := []) Proofs.Tryz.func45 (by kernel_rfl) (by kernel_rfl) (by kernel_rfl) (by kernel_rfl)
    LoopsP.nil (e45 f85 f86 f87 f88)
/-! spec.DrawSafetyLine -/
def p15 : List SP := [.one (.r .u8)]
def r15 : List SP := [.agg [.r .device, .r .cue, .r .gust, .int .i64], .one (.r .place), .t .box]
abbrev T15 := List Int × Unit → Option (ShD × List Place × Box × Unit)
abbrev N15 (f : T15) : Entry := mkE p15 r15 true f
noncomputable def F15 (f45 : T45) (a : List Int × Unit) : Option (ShD × List Place × Box × Unit) :=
  (f45 (a.1, ())).bind fun x1 => some ((x1.1.1, x1.1.2.1, x1.1.2.2.1, x1.1.2.2.2.1, ()), x1.2.1, x1.2.2.1, ())
def E15 (f45 : T45) : Env := envL [(45, N45 f45)]
noncomputable def L15 (f45 : T45) : LEnv (densS (muts p15 ++ r15)) := lenv []
theorem e15 (f45 : T45) (a : densS p15) : runF (E15 f45) tab (fun _ => false) p15 r15 Proofs.Tryz.f15 (L15 f45) a = F15 f45 a := by kernel_rfl
theorem ok15 {f45 : T45} (h45 : OK Proofs.Tryz.prog 45 (N45 f45)) : OK Proofs.Tryz.prog 15 (mkE p15 r15 true (F15 f45)) :=
  fn_ok (E := E15 f45) tab_ok (envL_ok (OKs.cons h45 OKs.nil)) mixed (ann := (fun _ => false)) (L := L15 f45) (fn := Proofs.Tryz.f15) (c := bodyC Proofs.Tryz.f15) (ls := []) Proofs.Tryz.func15 (by kernel_rfl) (by kernel_rfl) (by kernel_rfl) (by kernel_rfl)
    LoopsP.nil (e15 f45)
end Ev
