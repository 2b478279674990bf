/- Functions of the program, as the evaluator sees them. -/
import Derived.Test.YtpnlcamcnhpbhaaGreatPatA
set_option linter.unusedVariables false
set_option maxRecDepth 100000
namespace Ev
open Go
def tab : Tab := [(3, ⟨1, false, 8, [.int .i64 0], [], .int .i64, false⟩),
  (5, ⟨1, false, 1, [.int .u8 0], [], .int .u8, false⟩),
  (9, ⟨1, false, 16, [.str []], [], .str, false⟩),
  (22, ⟨1, false, 24, [.nils], [], .sl .u8, false⟩),
  (24, ⟨1, false, 24, [.nils], [], .sl .device, false⟩),
  (25, ⟨1, false, 24, [.nils], [], .sl .cue, false⟩),
  (26, ⟨1, false, 24, [.nils], [], .sl .gust, false⟩),
  (28, ⟨4, true, 80, [.nils, .nils, .nils, .int .i64 0], [(0, 1, false), (1, 1, false), (2, 1, false), (3, 1, false)], .struct, false⟩),
  (38, ⟨2, true, 16, [.int .i64 0, .int .i64 0], [(0, 1, false), (1, 1, false)], .struct, true⟩),
  (43, ⟨4, true, 32, [.int .i64 0, .int .i64 0, .int .i64 0, .int .i64 0], [(0, 2, true), (2, 2, true)], .struct, false⟩),
  (51, ⟨1, false, 24, [.nils], [], .sl .place, false⟩),
  (67, ⟨4, true, 40, [.int .i64 0, .str [], .int .i64 0, .int .i64 0], [(0, 1, false), (1, 1, false), (2, 1, false), (3, 1, false)], .struct, false⟩),
  (72, ⟨5, true, 40, [.int .i64 0, .int .i64 0, .int .i64 0, .int .i64 0, .int .i64 0], [(0, 2, true), (2, 1, false), (3, 1, false), (4, 1, false)], .struct, false⟩),
  (90, ⟨1, false, 24, [.nils], [], .sl .throw, false⟩),
  (93, ⟨7, true, 64, [.str [], .int .i64 0, .int .i64 0, .int .i64 0, .int .i64 0, .int .i64 0, .int .i64 0], [(0, 1, false), (1, 1, false), (2, 5, true)], .struct, false⟩),
  (98, ⟨3, true, 40, [.nils, .int .i64 0, .int .i64 0], [(0, 1, false), (1, 1, false), (2, 1, false)], .struct, false⟩),
  (106, ⟨1, false, 24, [.nils], [], .sl .int, false⟩),
  (109, ⟨8, true, 80, [.str [], .int .i64 0, .str [], .int .i64 0, .int .i64 0, .int .i64 0, .int .i64 0, .int .i64 0], [(0, 1, false), (1, 1, false), (2, 1, false), (3, 2, true), (5, 1, false), (6, 1, false), (7, 1, false)], .struct, true⟩),
  (111, ⟨3, true, 24, [.int .i64 0, .int .i64 0, .int .i64 0], [(0, 1, false), (1, 2, true)], .struct, false⟩),
  (133, ⟨1, false, 24, [.nils], [], .sl .str, false⟩)]
theorem tab_ok : TabOK Proofs.Tryz.prog tab := tab_of2 (by kernel_rfl) (by kernel_rfl)
theorem mixed : Proofs.Tryz.prog.follows .mixedOrders = true := by kernel_rfl
/-! spec.l1New -/
def p28 : List SP := [.one (.r .u8)]
def r28 : List SP := [.box 0 [.r .u8, .int .i64, .int .i64]]
abbrev T28 := List Int × Unit → Option (CuD × Unit)
abbrev N28 (f : T28) : Entry := mkE p28 r28 true f
def q28_0 : List SP := pat 33 0 [(0, .one (.r .u8)), (3, .one (.int .i64)), (4, .one (.int .i64))]
noncomputable def s28_0 (t1 : List Int × Int × Int × Unit) (rec K : List Int × Int × Int × Unit → Option (CuD × Unit)) : Option (CuD × Unit) :=
  cond (decide (t1.2.2.1 < (Int.ofNat (List.length t1.1)))) (cond (decide (t1.2.2.1 < 4000)) (rdL t1.1 t1.2.2.1 fun d2 => rec (t1.1, (bitsOp .and .i64 (w64 ((w64 ((w64 (t1.2.1 * 167)) + (w64 d2))) + 29)) 1073741823), (w64 (t1.2.2.1 + 1)), ())) (K (t1.1, t1.2.1, t1.2.2.1, ()))) (K (t1.1, t1.2.1, t1.2.2.1, ()))
noncomputable def F28 (a : List Int × Unit) : Option (CuD × Unit) :=
  iterF (s28_0) fuel (a.1, (w64 (620033 + (w64 (3 * (Int.ofNat (List.length a.1)))))), 0, ()) fun t3 => some ((t3.1, 0, t3.2.1, ()), ())
def E28 : Env := envL []
noncomputable def L28 : LEnv (densS (muts p28 ++ r28)) := lenv [(0, loopL (R := densS (muts p28 ++ r28)) q28_0 (s28_0))]
theorem e28_0 (X : Nat → St → Option (densS (muts p28 ++ r28))) (rec K : densS q28_0 → Option (densS (muts p28 ++ r28))) (t : densS q28_0) :
    ev (E28) tab (fun _ => false) (L28) (retK tab p28 r28 Proofs.Tryz.f28.results.toList) (loopC Proofs.Tryz.f28 0) (fun i s => cond (Nat.beq i 0) (decK 100 q28_0 s K) (X i s)) (fun s => decK 100 q28_0 s rec) (enc q28_0 t) = s28_0 t rec K := by kernel_rfl
theorem e28 (a : densS p28) : runF (E28) tab (fun _ => false) p28 r28 Proofs.Tryz.f28 (L28) a = F28 a := by kernel_rfl
theorem ok28 : OK Proofs.Tryz.prog 28 (mkE p28 r28 true (F28)) :=
  fn_ok (E := E28) tab_ok (envL_ok OKs.nil) mixed (ann := (fun _ => false)) (L := L28) (fn := Proofs.Tryz.f28) (c := bodyC Proofs.Tryz.f28) (ls := [(0, loopC Proofs.Tryz.f28 0)]) Proofs.Tryz.func28 (by kernel_rfl) (by kernel_rfl) (by kernel_rfl) (by kernel_rfl)
    (LoopsP.cons q28_0 (s28_0) rfl (e28_0) LoopsP.nil) (e28)
/-! spec.l1Byte -/
def p72 : List SP := [.box 0 [.r .u8, .int .i64, .int .i64]]
def r72 : List SP := [.one (.int .i64)]
abbrev T72 := CuD × Unit → Option (CuD × Int × Unit)
abbrev N72 (f : T72) : Entry := mkE p72 r72 true f
noncomputable def F72 (a : CuD × Unit) : Option (CuD × Int × Unit) :=
  cond (decide (a.1.2.1 < (Int.ofNat (List.length a.1.1)))) (rdL a.1.1 a.1.2.1 fun d1 => some ((a.1.1, (w64 (a.1.2.1 + 1)), (w64 ((w64 (a.1.2.2.1 * 6364136223846793005)) + 1442695040888963407)), ()), (bitsOp .and .i64 (w64 ((bitsOp .and .i64 (bitsOp .xor .i64 (shrOp .i64 (w64 ((w64 (a.1.2.2.1 * 6364136223846793005)) + 1442695040888963407)) 35) (shrOp .i64 (w64 ((w64 (a.1.2.2.1 * 6364136223846793005)) + 1442695040888963407)) 45)) 255) + (w64 d1))) 255), ())) (some ((a.1.1, a.1.2.1, (w64 ((w64 (a.1.2.2.1 * 6364136223846793005)) + 1442695040888963407)), ()), (bitsOp .and .i64 (bitsOp .xor .i64 (shrOp .i64 (w64 ((w64 (a.1.2.2.1 * 6364136223846793005)) + 1442695040888963407)) 35) (shrOp .i64 (w64 ((w64 (a.1.2.2.1 * 6364136223846793005)) + 1442695040888963407)) 45)) 255), ()))
def E72 : Env := envL []
noncomputable def L72 : LEnv (densS (muts p72 ++ r72)) := lenv []
theorem e72 (a : densS p72) : runF (E72) tab (fun _ => false) p72 r72 Proofs.Tryz.f72 (L72) a = F72 a := by kernel_rfl
theorem ok72 : OK Proofs.Tryz.prog 72 (mkE p72 r72 true (F72)) :=
  fn_ok (E := E72) tab_ok (envL_ok OKs.nil) mixed (ann := (fun _ => false)) (L := L72) (fn := Proofs.Tryz.f72) (c := bodyC Proofs.Tryz.f72) (ls := []) Proofs.Tryz.func72 (by kernel_rfl) (by kernel_rfl) (by kernel_rfl) (by kernel_rfl)
    LoopsP.nil (e72)
/-! spec.l1Below -/
def p30 : List SP := [.box 0 [.r .u8, .int .i64, .int .i64], .one (.int .i64)]
def r30 : List SP := [.one (.int .i64)]
abbrev T30 := CuD × Int × Unit → Option (CuD × Int × Unit)
abbrev N30 (f : T30) : Entry := mkE p30 r30 true f
noncomputable def F30 (f72 : T72) (a : CuD × Int × Unit) : Option (CuD × Int × Unit) :=
  cond (decide (a.2.1 ≤ 0)) (some ((a.1.1, a.1.2.1, a.1.2.2.1, ()), 0, ())) (cond (decide (a.2.1 ≤ 256)) ((f72 ((a.1.1, a.1.2.1, a.1.2.2.1, ()), ())).bind fun x1 => cond (decide (a.2.1 = 0)) none (some ((x1.1.1, x1.1.2.1, x1.1.2.2.1, ()), (Int.tmod x1.2.1 a.2.1), ()))) ((f72 ((a.1.1, a.1.2.1, a.1.2.2.1, ()), ())).bind fun x2 => (f72 ((x2.1.1, x2.1.2.1, x2.1.2.2.1, ()), ())).bind fun x3 => (f72 ((x3.1.1, x3.1.2.1, x3.1.2.2.1, ()), ())).bind fun x4 => cond (decide (a.2.1 = 0)) none (some ((x4.1.1, x4.1.2.1, x4.1.2.2.1, ()), (Int.tmod (w64 ((w64 ((w64 (x2.2.1 * 65536)) + (w64 (x3.2.1 * 256)))) + x4.2.1)) a.2.1), ()))))
def E30 (f72 : T72) : Env := envL [(72, N72 f72)]
noncomputable def L30 (f72 : T72) : LEnv (densS (muts p30 ++ r30)) := lenv []
theorem e30 (f72 : T72) (a : densS p30) : runF (E30 f72) tab (fun _ => false) p30 r30 Proofs.Tryz.f30 (L30 f72) a = F30 f72 a := by kernel_rfl
theorem ok30 {f72 : T72} (h72 : OK Proofs.Tryz.prog 72 (N72 f72)) : OK Proofs.Tryz.prog 30 (mkE p30 r30 true (F30 f72)) :=
  fn_ok (E := E30 f72) tab_ok (envL_ok (OKs.cons h72 OKs.nil)) mixed (ann := (fun _ => false)) (L := L30 f72) (fn := Proofs.Tryz.f30) (c := bodyC Proofs.Tryz.f30) (ls := []) Proofs.Tryz.func30 (by kernel_rfl) (by kernel_rfl) (by kernel_rfl) (by kernel_rfl)
    LoopsP.nil (e30 f72)
/-! spec.IsName -/
def p143 : List SP := [.one (.str)]
def r143 : List SP := [.one (.bool)]
abbrev T143 := Str × Unit → Option (Bool × Unit)
abbrev N143 (f : T143) : Entry := mkE p143 r143 false f
def q143_0 : List SP := pat 50 0 [(0, .one (.str)), (3, .one (.int .i64))]
noncomputable def s143_0 (t1 : Str × Int × Unit) (rec K : Str × Int × Unit → Option (Bool × Unit)) : Option (Bool × Unit) :=
  cond (decide (t1.2.1 < (Int.ofNat (List.length t1.1)))) (rdL t1.1 t1.2.1 fun d2 => cond (decide ((Int.ofNat (UInt8.toNat d2)) ≥ 97)) (rdL t1.1 t1.2.1 fun d3 => rdL t1.1 t1.2.1 fun d4 => cond (decide ((Int.ofNat (UInt8.toNat d4)) ≥ 48)) (rdL t1.1 t1.2.1 fun d5 => cond (!(decide ((Int.ofNat (UInt8.toNat d3)) ≤ 122))) (cond (!(!(decide ((Int.ofNat (UInt8.toNat d5)) ≤ 57)))) (cond (decide (t1.2.1 = 0)) (some (false, ())) (rec (t1.1, (w64 (t1.2.1 + 1)), ()))) (some (false, ()))) (rec (t1.1, (w64 (t1.2.1 + 1)), ()))) (cond (!(decide ((Int.ofNat (UInt8.toNat d3)) ≤ 122))) (some (false, ())) (rec (t1.1, (w64 (t1.2.1 + 1)), ())))) (rdL t1.1 t1.2.1 fun d6 => cond (decide ((Int.ofNat (UInt8.toNat d6)) ≥ 48)) (rdL t1.1 t1.2.1 fun d7 => cond (!(!(decide ((Int.ofNat (UInt8.toNat d7)) ≤ 57)))) (cond (decide (t1.2.1 = 0)) (some (false, ())) (rec (t1.1, (w64 (t1.2.1 + 1)), ()))) (some (false, ()))) (some (false, ())))) (K (t1.1, t1.2.1, ()))
noncomputable def F143 (a : Str × Unit) : Option (Bool × Unit) :=
  iterF (s143_0) fuel (a.1, 0, ()) fun t8 => cond (decide ((Int.ofNat (List.length t8.1)) > 0)) (some ((decide ((Int.ofNat (List.length t8.1)) ≤ 8)), ())) (some (false, ()))
def E143 : Env := envL []
noncomputable def L143 : LEnv (densS (muts p143 ++ r143)) := lenv [(0, loopL (R := densS (muts p143 ++ r143)) q143_0 (s143_0))]
theorem e143_0 (X : Nat → St → Option (densS (muts p143 ++ r143))) (rec K : densS q143_0 → Option (densS (muts p143 ++ r143))) (t : densS q143_0) :
    ev (E143) tab (fun _ => false) (L143) (retK tab p143 r143 Proofs.Tryz.f143.results.toList) (loopC Proofs.Tryz.f143 0) (fun i s => cond (Nat.beq i 0) (decK 100 q143_0 s K) (X i s)) (fun s => decK 100 q143_0 s rec) (enc q143_0 t) = s143_0 t rec K := by kernel_rfl
theorem e143 (a : densS p143) : runF (E143) tab (fun _ => false) p143 r143 Proofs.Tryz.f143 (L143) a = F143 a := by kernel_rfl
theorem ok143 : OK Proofs.Tryz.prog 143 (mkE p143 r143 false (F143)) :=
  fn_ok (E := E143) tab_ok (envL_ok OKs.nil) mixed (ann := (fun _ => false)) (L := L143) (fn := Proofs.Tryz.f143) (c := bodyC Proofs.Tryz.f143) (ls := [(0, loopC Proofs.Tryz.f143 0)]) Proofs.Tryz.func143 (by kernel_rfl) (by kernel_rfl) (by kernel_rfl) (by kernel_rfl)
    (LoopsP.cons q143_0 (s143_0) rfl (e143_0) LoopsP.nil) (e143)
/-! spec.l1In -/
def p52 : List SP := [.one (.int .i64), .one (.int .i64), .one (.int .i64)]
def r52 : List SP := [.one (.bool)]
abbrev T52 := Int × Int × Int × Unit → Option (Bool × Unit)
abbrev N52 (f : T52) : Entry := mkE p52 r52 false f
noncomputable def F52 (a : Int × Int × Int × Unit) : Option (Bool × Unit) :=
  cond (decide (a.1 ≥ a.2.1)) (some ((decide (a.1 ≤ a.2.2.1)), ())) (some (false, ()))
def E52 : Env := envL []
noncomputable def L52 : LEnv (densS (muts p52 ++ r52)) := lenv []
theorem e52 (a : densS p52) : runF (E52) tab (fun _ => false) p52 r52 Proofs.Tryz.f52 (L52) a = F52 a := by kernel_rfl
theorem ok52 : OK Proofs.Tryz.prog 52 (mkE p52 r52 false (F52)) :=
  fn_ok (E := E52) tab_ok (envL_ok OKs.nil) mixed (ann := (fun _ => false)) (L := L52) (fn := Proofs.Tryz.f52) (c := bodyC Proofs.Tryz.f52) (ls := []) Proofs.Tryz.func52 (by kernel_rfl) (by kernel_rfl) (by kernel_rfl) (by kernel_rfl)
    LoopsP.nil (e52)
/-! spec.l5Supply -/
def p144 : List SP := [.one (.int .i64)]
def r144 : List SP := [.one (.bool)]
abbrev T144 := Int × Unit → Option (Bool × Unit)
abbrev N144 (f : T144) : Entry := mkE p144 r144 false f
noncomputable def F144 (f52 : T52) (a : Int × Unit) : Option (Bool × Unit) :=
  (f52 (a.1, 0, 512, ())).bind fun x1 => some (x1.1, ())
def E144 (f52 : T52) : Env := envL [(52, N52 f52)]
noncomputable def L144 (f52 : T52) : LEnv (densS (muts p144 ++ r144)) := lenv []
theorem e144 (f52 : T52) (a : densS p144) : runF (E144 f52) tab (fun _ => false) p144 r144 Proofs.Tryz.f144 (L144 f52) a = F144 f52 a := by kernel_rfl
theorem ok144 {f52 : T52} (h52 : OK Proofs.Tryz.prog 52 (N52 f52)) : OK Proofs.Tryz.prog 144 (mkE p144 r144 false (F144 f52)) :=
  fn_ok (E := E144 f52) tab_ok (envL_ok (OKs.cons h52 OKs.nil)) mixed (ann := (fun _ => false)) (L := L144 f52) (fn := Proofs.Tryz.f144) (c := bodyC Proofs.Tryz.f144) (ls := []) Proofs.Tryz.func144 (by kernel_rfl) (by kernel_rfl) (by kernel_rfl) (by kernel_rfl)
    LoopsP.nil (e144 f52)
/-! spec.IsHeading -/
def p178 : List SP := [.one (.int .i64)]
def r178 : List SP := [.one (.bool)]
abbrev T178 := Int × Unit → Option (Bool × Unit)
abbrev N178 (f : T178) : Entry := mkE p178 r178 false f
noncomputable def F178 (a : Int × Unit) : Option (Bool × Unit) :=
  cond (decide (a.1 ≥ 0)) (some ((decide (a.1 ≤ 3)), ())) (some (false, ()))
def E178 : Env := envL []
noncomputable def L178 : LEnv (densS (muts p178 ++ r178)) := lenv []
theorem e178 (a : densS p178) : runF (E178) tab (fun _ => false) p178 r178 Proofs.Tryz.f178 (L178) a = F178 a := by kernel_rfl
theorem ok178 : OK Proofs.Tryz.prog 178 (mkE p178 r178 false (F178)) :=
  fn_ok (E := E178) tab_ok (envL_ok OKs.nil) mixed (ann := (fun _ => false)) (L := L178) (fn := Proofs.Tryz.f178) (c := bodyC Proofs.Tryz.f178) (ls := []) Proofs.Tryz.func178 (by kernel_rfl) (by kernel_rfl) (by kernel_rfl) (by kernel_rfl)
    LoopsP.nil (e178)
/-! spec.IsJet -/
def p140 : List SP := [.t .jet]
def r140 : List SP := [.one (.bool)]
abbrev T140 := Jet × Unit → Option (Bool × Unit)
abbrev N140 (f : T140) : Entry := mkE p140 r140 false f
noncomputable def F140 (f52 : T52) (f178 : T178) (a : Jet × Unit) : Option (Bool × Unit) :=
  (f52 (a.1.At.X, (-1024), 1024, ())).bind fun x1 => cond x1.1 ((f52 (a.1.At.Y, (-1024), 1024, ())).bind fun x2 => cond x2.1 ((f178 (a.1.Heading, ())).bind fun x3 => cond x3.1 ((f52 (a.1.Tilt, 0, 16, ())).bind fun x4 => cond x4.1 ((f52 (a.1.Lift, 1, 32, ())).bind fun x5 => some (x5.1, ())) (some (false, ()))) (some (false, ()))) (some (false, ()))) (some (false, ()))
def E140 (f52 : T52) (f178 : T178) : Env := envL [(52, N52 f52), (178, N178 f178)]
noncomputable def L140 (f52 : T52) (f178 : T178) : LEnv (densS (muts p140 ++ r140)) := lenv []
theorem e140 (f52 : T52) (f178 : T178) (a : densS p140) : runF (E140 f52 f178) tab (fun _ => false) p140 r140 Proofs.Tryz.f140 (L140 f52 f178) a = F140 f52 f178 a := by kernel_rfl
theorem ok140 {f52 : T52} {f178 : T178} (h52 : OK Proofs.Tryz.prog 52 (N52 f52)) (h178 : OK Proofs.Tryz.prog 178 (N178 f178)) : OK Proofs.Tryz.prog 140 (mkE p140 r140 false (F140 f52 f178)) :=
  fn_ok (E := E140 f52 f178) tab_ok (envL_ok (OKs.cons h52 (OKs.cons h178 OKs.nil))) mixed (ann := (fun _ => false)) (L := L140 f52 f178) (fn := Proofs.Tryz.f140) (c := bodyC Proofs.Tryz.f140) (ls := []) Proofs.Tryz.func140 (by kernel_rfl) (by kernel_rfl) (by kernel_rfl) (by kernel_rfl)
    LoopsP.nil (e140 f52 f178)
/-! spec.l6Jet -/
def p145 : List SP := [.t .device]
def r145 : List SP := [.one (.bool)]
abbrev T145 := Device × Unit → Option (Bool × Unit)
abbrev N145 (f : T145) : Entry := mkE p145 r145 false f
noncomputable def F145 (f140 : T140) (a : Device × Unit) : Option (Bool × Unit) :=
  (f140 ((⟨⟨a.1.At.X, a.1.At.Y⟩, a.1.Heading, a.1.Tilt, 1⟩ : Jet), ())).bind fun x1 => some (x1.1, ())
def E145 (f140 : T140) : Env := envL [(140, N140 f140)]
noncomputable def L145 (f140 : T140) : LEnv (densS (muts p145 ++ r145)) := lenv []
theorem e145 (f140 : T140) (a : densS p145) : runF (E145 f140) tab (fun _ => false) p145 r145 Proofs.Tryz.f145 (L145 f140) a = F145 f140 a := by kernel_rfl
theorem ok145 {f140 : T140} (h140 : OK Proofs.Tryz.prog 140 (N140 f140)) : OK Proofs.Tryz.prog 145 (mkE p145 r145 false (F145 f140)) :=
  fn_ok (E := E145 f140) tab_ok (envL_ok (OKs.cons h140 OKs.nil)) mixed (ann := (fun _ => false)) (L := L145 f140) (fn := Proofs.Tryz.f145) (c := bodyC Proofs.Tryz.f145) (ls := []) Proofs.Tryz.func145 (by kernel_rfl) (by kernel_rfl) (by kernel_rfl) (by kernel_rfl)
    LoopsP.nil (e145 f140)
/-! spec.IsMeasure -/
def p141 : List SP := [.one (.int .i64)]
def r141 : List SP := [.one (.bool)]
abbrev T141 := Int × Unit → Option (Bool × Unit)
abbrev N141 (f : T141) : Entry := mkE p141 r141 false f
noncomputable def F141 (a : Int × Unit) : Option (Bool × Unit) :=
  cond (decide (a.1 ≥ (-4096))) (some ((decide (a.1 ≤ 4096)), ())) (some (false, ()))
def E141 : Env := envL []
noncomputable def L141 : LEnv (densS (muts p141 ++ r141)) := lenv []
theorem e141 (a : densS p141) : runF (E141) tab (fun _ => false) p141 r141 Proofs.Tryz.f141 (L141) a = F141 a := by kernel_rfl
theorem ok141 : OK Proofs.Tryz.prog 141 (mkE p141 r141 false (F141)) :=
  fn_ok (E := E141) tab_ok (envL_ok OKs.nil) mixed (ann := (fun _ => false)) (L := L141) (fn := Proofs.Tryz.f141) (c := bodyC Proofs.Tryz.f141) (ls := []) Proofs.Tryz.func141 (by kernel_rfl) (by kernel_rfl) (by kernel_rfl) (by kernel_rfl)
    LoopsP.nil (e141)
/-! spec.IsPlace -/
def p94 : List SP := [.t .place]
def r94 : List SP := [.one (.bool)]
abbrev T94 := Place × Unit → Option (Bool × Unit)
abbrev N94 (f : T94) : Entry := mkE p94 r94 false f
noncomputable def F94 (f141 : T141) (a : Place × Unit) : Option (Bool × Unit) :=
  (f141 (a.1.X, ())).bind fun x1 => cond x1.1 ((f141 (a.1.Y, ())).bind fun x2 => some (x2.1, ())) (some (false, ()))
def E94 (f141 : T141) : Env := envL [(141, N141 f141)]
noncomputable def L94 (f141 : T141) : LEnv (densS (muts p94 ++ r94)) := lenv []
theorem e94 (f141 : T141) (a : densS p94) : runF (E94 f141) tab (fun _ => false) p94 r94 Proofs.Tryz.f94 (L94 f141) a = F94 f141 a := by kernel_rfl
theorem ok94 {f141 : T141} (h141 : OK Proofs.Tryz.prog 141 (N141 f141)) : OK Proofs.Tryz.prog 94 (mkE p94 r94 false (F94 f141)) :=
  fn_ok (E := E94 f141) tab_ok (envL_ok (OKs.cons h141 OKs.nil)) mixed (ann := (fun _ => false)) (L := L94 f141) (fn := Proofs.Tryz.f94) (c := bodyC Proofs.Tryz.f94) (ls := []) Proofs.Tryz.func94 (by kernel_rfl) (by kernel_rfl) (by kernel_rfl) (by kernel_rfl)
    LoopsP.nil (e94 f141)
/-! spec.IsDevice -/
def p97 : List SP := [.t .device]
def r97 : List SP := [.one (.bool)]
abbrev T97 := Device × Unit → Option (Bool × Unit)
abbrev N97 (f : T97) : Entry := mkE p97 r97 false f
noncomputable def F97 (f143 : T143) (f144 : T144) (f145 : T145) (f52 : T52) (f94 : T94) (a : Device × Unit) : Option (Bool × Unit) :=
  (f143 (a.1.Line, ())).bind fun x1 => cond x1.1 ((f143 (a.1.Name, ())).bind fun x2 => cond (!x2.1) (some (false, ())) (cond (decide (a.1.Kind = 1)) ((f144 (a.1.Most, ())).bind fun x3 => cond x3.1 (some ((decide (a.1.Name = a.1.Name) && (decide (a.1.Kind = a.1.Kind) && (decide (a.1.Line = []) && (decide (a.1.At.X = 0) && (decide (a.1.At.Y = 0) && (decide (a.1.Heading = 0) && (decide (a.1.Tilt = 0) && (decide (a.1.Most = a.1.Most) && true)))))))), ())) (some (false, ()))) (cond (decide (a.1.Kind = 2)) (cond (!decide (a.1.Line = a.1.Name)) ((f145 (a.1, ())).bind fun x4 => cond x4.1 ((f52 (a.1.Most, 0, 32, ())).bind fun x5 => some (x5.1, ())) (some (false, ()))) (some (false, ()))) (cond (decide (a.1.Kind = 3)) (cond (!decide (a.1.Line = a.1.Name)) ((f94 (a.1.At, ())).bind fun x6 => cond x6.1 (some ((decide (a.1.Name = a.1.Name) && (decide (a.1.Kind = a.1.Kind) && (decide (a.1.Line = a.1.Line) && (decide (a.1.At.X = a.1.At.X) && (decide (a.1.At.Y = a.1.At.Y) && (decide (a.1.Heading = 0) && (decide (a.1.Tilt = 0) && (decide (a.1.Most = 0) && true)))))))), ())) (some (false, ()))) (some (false, ()))) (some (false, ())))))) ((f143 (a.1.Name, ())).bind fun x7 => cond (!x7.1) (some (false, ())) (cond (decide (a.1.Kind = 1)) ((f144 (a.1.Most, ())).bind fun x8 => cond x8.1 (some ((decide (a.1.Name = a.1.Name) && (decide (a.1.Kind = a.1.Kind) && (decide (a.1.Line = []) && (decide (a.1.At.X = 0) && (decide (a.1.At.Y = 0) && (decide (a.1.Heading = 0) && (decide (a.1.Tilt = 0) && (decide (a.1.Most = a.1.Most) && true)))))))), ())) (some (false, ()))) (cond (decide (a.1.Kind = 2)) (some (false, ())) (cond (decide (a.1.Kind = 3)) (some (false, ())) (some (false, ()))))))
def E97 (f143 : T143) (f144 : T144) (f145 : T145) (f52 : T52) (f94 : T94) : Env := envL [(143, N143 f143), (144, N144 f144), (145, N145 f145), (52, N52 f52), (94, N94 f94)]
noncomputable def L97 (f143 : T143) (f144 : T144) (f145 : T145) (f52 : T52) (f94 : T94) : LEnv (densS (muts p97 ++ r97)) := lenv []
theorem e97 (f143 : T143) (f144 : T144) (f145 : T145) (f52 : T52) (f94 : T94) (a : densS p97) : runF (E97 f143 f144 f145 f52 f94) tab (fun _ => false) p97 r97 Proofs.Tryz.f97 (L97 f143 f144 f145 f52 f94) a = F97 f143 f144 f145 f52 f94 a := by kernel_rfl
theorem ok97 {f143 : T143} {f144 : T144} {f145 : T145} {f52 : T52} {f94 : T94} (h143 : OK Proofs.Tryz.prog 143 (N143 f143)) (h144 : OK Proofs.Tryz.prog 144 (N144 f144)) (h145 : OK Proofs.Tryz.prog 145 (N145 f145)) (h52 : OK Proofs.Tryz.prog 52 (N52 f52)) (h94 : OK Proofs.Tryz.prog 94 (N94 f94)) : OK Proofs.Tryz.prog 97 (mkE p97 r97 false (F97 f143 f144 f145 f52 f94)) :=
  fn_ok (E := E97 f143 f144 f145 f52 f94) tab_ok (envL_ok (OKs.cons h143 (OKs.cons h144 (OKs.cons h145 (OKs.cons h52 (OKs.cons h94 OKs.nil)))))) mixed (ann := (fun _ => false)) (L := L97 f143 f144 f145 f52 f94) (fn := Proofs.Tryz.f97) (c := bodyC Proofs.Tryz.f97) (ls := []) Proofs.Tryz.func97 (by kernel_rfl) (by kernel_rfl) (by kernel_rfl) (by kernel_rfl)
    LoopsP.nil (e97 f143 f144 f145 f52 f94)
/-! spec.FindDevice -/
def p146 : List SP := [.one (.r .device), .one (.str)]
def r146 : List SP := [.one (.int .i64)]
abbrev T146 := List Device × Str × Unit → Option (Int × Unit)
abbrev N146 (f : T146) : Entry := mkE p146 r146 false f
def q146_0 : List SP := pat 20 0 [(1, .one (.str)), (7, .one (.r .device)), (8, .one (.int .i64)), (9, .one (.int .i64))]
noncomputable def s146_0 (t1 : Str × List Device × Int × Int × Unit) (rec K : Str × List Device × Int × Int × Unit → Option (Int × Unit)) : Option (Int × Unit) :=
  cond (decide (t1.2.2.2.1 < t1.2.2.1)) (rdL t1.2.1 t1.2.2.2.1 fun d2 => cond (decide (d2.Name = t1.1)) (some (t1.2.2.2.1, ())) (rec (t1.1, t1.2.1, t1.2.2.1, (w64 (t1.2.2.2.1 + 1)), ()))) (K (t1.1, t1.2.1, t1.2.2.1, t1.2.2.2.1, ()))
noncomputable def F146 (a : List Device × Str × Unit) : Option (Int × Unit) :=
  iterF (s146_0) fuel (a.2.1, a.1, (Int.ofNat (List.length a.1)), 0, ()) fun t3 => some ((-1), ())
def E146 : Env := envL []
noncomputable def L146 : LEnv (densS (muts p146 ++ r146)) := lenv [(0, loopL (R := densS (muts p146 ++ r146)) q146_0 (s146_0))]
theorem e146_0 (X : Nat → St → Option (densS (muts p146 ++ r146))) (rec K : densS q146_0 → Option (densS (muts p146 ++ r146))) (t : densS q146_0) :
    ev (E146) tab (fun _ => false) (L146) (retK tab p146 r146 Proofs.Tryz.f146.results.toList) (loopC Proofs.Tryz.f146 0) (fun i s => cond (Nat.beq i 0) (decK 100 q146_0 s K) (X i s)) (fun s => decK 100 q146_0 s rec) (enc q146_0 t) = s146_0 t rec K := by kernel_rfl
theorem e146 (a : densS p146) : runF (E146) tab (fun _ => false) p146 r146 Proofs.Tryz.f146 (L146) a = F146 a := by kernel_rfl
theorem ok146 : OK Proofs.Tryz.prog 146 (mkE p146 r146 false (F146)) :=
  fn_ok (E := E146) tab_ok (envL_ok OKs.nil) mixed (ann := (fun _ => false)) (L := L146) (fn := Proofs.Tryz.f146) (c := bodyC Proofs.Tryz.f146) (ls := [(0, loopC Proofs.Tryz.f146 0)]) Proofs.Tryz.func146 (by kernel_rfl) (by kernel_rfl) (by kernel_rfl) (by kernel_rfl)
    (LoopsP.cons q146_0 (s146_0) rfl (e146_0) LoopsP.nil) (e146)
/-! spec.l6Hangs -/
def p98 : List SP := [.one (.r .device), .t .device]
def r98 : List SP := [.one (.bool)]
abbrev T98 := List Device × Device × Unit → Option (Bool × Unit)
abbrev N98 (f : T98) : Entry := mkE p98 r98 false f
noncomputable def F98 (f146 : T146) (a : List Device × Device × Unit) : Option (Bool × Unit) :=
  (f146 (a.1, a.2.1.Line, ())).bind fun x1 => cond (decide (a.2.1.Kind = 2)) (cond (decide (x1.1 ≥ 0)) (rdL a.1 x1.1 fun d2 => some ((decide (d2.Kind = 1)), ())) (some (false, ()))) (cond (decide (a.2.1.Kind = 3)) (cond (decide (x1.1 ≥ 0)) (rdL a.1 x1.1 fun d3 => some ((decide (d3.Kind = 2)), ())) (some (false, ()))) (some (true, ())))
def E98 (f146 : T146) : Env := envL [(146, N146 f146)]
noncomputable def L98 (f146 : T146) : LEnv (densS (muts p98 ++ r98)) := lenv []
theorem e98 (f146 : T146) (a : densS p98) : runF (E98 f146) tab (fun _ => false) p98 r98 Proofs.Tryz.f98 (L98 f146) a = F98 f146 a := by kernel_rfl
theorem ok98 {f146 : T146} (h146 : OK Proofs.Tryz.prog 146 (N146 f146)) : OK Proofs.Tryz.prog 98 (mkE p98 r98 false (F98 f146)) :=
  fn_ok (E := E98 f146) tab_ok (envL_ok (OKs.cons h146 OKs.nil)) mixed (ann := (fun _ => false)) (L := L98 f146) (fn := Proofs.Tryz.f98) (c := bodyC Proofs.Tryz.f98) (ls := []) Proofs.Tryz.func98 (by kernel_rfl) (by kernel_rfl) (by kernel_rfl) (by kernel_rfl)
    LoopsP.nil (e98 f146)
/-! spec.IsRig -/
def p49 : List SP := [.one (.r .device)]
def r49 : List SP := [.one (.bool)]
abbrev T49 := List Device × Unit → Option (Bool × Unit)
abbrev N49 (f : T49) : Entry := mkE p49 r49 false f
def q49_0 : List SP := pat 40 0 [(0, .one (.r .device)), (5, .one (.r .device)), (6, .one (.int .i64)), (7, .one (.int .i64))]
noncomputable def s49_0 (f97 : T97) (f98 : T98) (t1 : List Device × List Device × Int × Int × Unit) (rec K : List Device × List Device × Int × Int × Unit → Option (Bool × Unit)) : Option (Bool × Unit) :=
  cond (decide (t1.2.2.2.1 < t1.2.2.1)) (rdL t1.2.1 t1.2.2.2.1 fun d2 => (f97 (d2, ())).bind fun x3 => cond (!(!x3.1)) (cond (decide (t1.2.2.2.1 > 0)) (rdL t1.1 (w64 (t1.2.2.2.1 - 1)) fun d4 => cond (!(!Op.bytesLess d4.Name d2.Name)) ((f98 (t1.1, d2, ())).bind fun x5 => cond (!x5.1) (some (false, ())) (rec (t1.1, t1.2.1, t1.2.2.1, (w64 (t1.2.2.2.1 + 1)), ()))) (some (false, ()))) ((f98 (t1.1, d2, ())).bind fun x6 => cond (!x6.1) (some (false, ())) (rec (t1.1, t1.2.1, t1.2.2.1, (w64 (t1.2.2.2.1 + 1)), ())))) (some (false, ()))) (K (t1.1, t1.2.1, t1.2.2.1, t1.2.2.2.1, ()))
noncomputable def F49 (f97 : T97) (f98 : T98) (a : List Device × Unit) : Option (Bool × Unit) :=
  iterF (s49_0 f97 f98) fuel (a.1, a.1, (Int.ofNat (List.length a.1)), 0, ()) fun t7 => some ((decide ((Int.ofNat (List.length t7.1)) ≤ 8)), ())
def E49 (f97 : T97) (f98 : T98) : Env := envL [(97, N97 f97), (98, N98 f98)]
noncomputable def L49 (f97 : T97) (f98 : T98) : LEnv (densS (muts p49 ++ r49)) := lenv [(0, loopL (R := densS (muts p49 ++ r49)) q49_0 (s49_0 f97 f98))]
theorem e49_0 (f97 : T97) (f98 : T98) (X : Nat → St → Option (densS (muts p49 ++ r49))) (rec K : densS q49_0 → Option (densS (muts p49 ++ r49))) (t : densS q49_0) :
    ev (E49 f97 f98) tab (fun _ => false) (L49 f97 f98) (retK tab p49 r49 Proofs.Tryz.f49.results.toList) (loopC Proofs.Tryz.f49 0) (fun i s => cond (Nat.beq i 0) (decK 100 q49_0 s K) (X i s)) (fun s => decK 100 q49_0 s rec) (enc q49_0 t) = s49_0 f97 f98 t rec K := by kernel_rfl
theorem e49 (f97 : T97) (f98 : T98) (a : densS p49) : runF (E49 f97 f98) tab (fun _ => false) p49 r49 Proofs.Tryz.f49 (L49 f97 f98) a = F49 f97 f98 a := by kernel_rfl
theorem ok49 {f97 : T97} {f98 : T98} (h97 : OK Proofs.Tryz.prog 97 (N97 f97)) (h98 : OK Proofs.Tryz.prog 98 (N98 f98)) : OK Proofs.Tryz.prog 49 (mkE p49 r49 false (F49 f97 f98)) :=
  fn_ok (E := E49 f97 f98) tab_ok (envL_ok (OKs.cons h97 (OKs.cons h98 OKs.nil))) mixed (ann := (fun _ => false)) (L := L49 f97 f98) (fn := Proofs.Tryz.f49) (c := bodyC Proofs.Tryz.f49) (ls := [(0, loopC Proofs.Tryz.f49 0)]) Proofs.Tryz.func49 (by kernel_rfl) (by kernel_rfl) (by kernel_rfl) (by kernel_rfl)
    (LoopsP.cons q49_0 (s49_0 f97 f98) rfl (e49_0 f97 f98) LoopsP.nil) (e49 f97 f98)
/-! spec.l6Copies -/
def p162 : List SP := [.one (.r .device)]
def r162 : List SP := [.one (.o 0 .device)]
abbrev T162 := List Device × Unit → Option (List Device × Unit)
abbrev N162 (f : T162) : Entry := mkE p162 r162 false f
noncomputable def F162 (a : List Device × Unit) : Option (List Device × Unit) :=
  capK (List.length ([] : List Device) + List.length a.1) (some ((([] : List Device) ++ a.1), ()))
def E162 : Env := envL []
noncomputable def L162 : LEnv (densS (muts p162 ++ r162)) := lenv []
theorem e162 (a : densS p162) : runF (E162) tab (fun _ => false) p162 r162 Proofs.Tryz.f162 (L162) a = F162 a := by kernel_rfl
theorem ok162 : OK Proofs.Tryz.prog 162 (mkE p162 r162 false (F162)) :=
  fn_ok (E := E162) tab_ok (envL_ok OKs.nil) mixed (ann := (fun _ => false)) (L := L162) (fn := Proofs.Tryz.f162) (c := bodyC Proofs.Tryz.f162) (ls := []) Proofs.Tryz.func162 (by kernel_rfl) (by kernel_rfl) (by kernel_rfl) (by kernel_rfl)
    LoopsP.nil (e162)
/-! spec.AddDevice -/
def p116 : List SP := [.one (.r .device), .t .device]
def r116 : List SP := [.one (.o 0 .device), .one (.bool)]
abbrev T116 := List Device × Device × Unit → Option (List Device × Bool × Unit)
abbrev N116 (f : T116) : Entry := mkE p116 r116 false f
def q116_0 : List SP := pat 70 0 [(3, .boxt 5000001 .device), (6, .one (.o 5000002 .device)), (7, .one (.bool)), (39, .one (.r .device)), (40, .one (.int .i64)), (41, .one (.int .i64))]
noncomputable def s116_0 (f49 : T49) (f97 : T97) (f146 : T146) (f98 : T98) (f162 : T162) (t6 : Device × List Device × Bool × List Device × Int × Int × Unit) (rec K : Device × List Device × Bool × List Device × Int × Int × Unit → Option (List Device × Bool × Unit)) : Option (List Device × Bool × Unit) :=
  cond (decide (t6.2.2.2.2.2.1 < t6.2.2.2.2.1)) (rdL t6.2.2.2.1 t6.2.2.2.2.2.1 fun d7 => cond (!t6.2.2.1) (cond (!(Op.bytesLess d7.Name t6.1.Name || decide (d7.Name = t6.1.Name))) (capK (List.length t6.2.1 + List.length ([t6.1] : List Device)) (capK (List.length (t6.2.1 ++ ([t6.1] : List Device)) + List.length ([d7] : List Device)) (rec (t6.1, ((t6.2.1 ++ ([t6.1] : List Device)) ++ ([d7] : List Device)), true, t6.2.2.2.1, t6.2.2.2.2.1, (w64 (t6.2.2.2.2.2.1 + 1)), ())))) (capK (List.length t6.2.1 + List.length ([d7] : List Device)) (rec (t6.1, (t6.2.1 ++ ([d7] : List Device)), t6.2.2.1, t6.2.2.2.1, t6.2.2.2.2.1, (w64 (t6.2.2.2.2.2.1 + 1)), ())))) (capK (List.length t6.2.1 + List.length ([d7] : List Device)) (rec (t6.1, (t6.2.1 ++ ([d7] : List Device)), t6.2.2.1, t6.2.2.2.1, t6.2.2.2.2.1, (w64 (t6.2.2.2.2.2.1 + 1)), ())))) (K (t6.1, t6.2.1, t6.2.2.1, t6.2.2.2.1, t6.2.2.2.2.1, t6.2.2.2.2.2.1, ()))
noncomputable def F116 (f49 : T49) (f97 : T97) (f146 : T146) (f98 : T98) (f162 : T162) (a : List Device × Device × Unit) : Option (List Device × Bool × Unit) :=
  (f49 (a.1, ())).bind fun x1 => cond (!(!x1.1)) ((f97 (a.2.1, ())).bind fun x2 => cond (!(!x2.1)) ((f146 (a.1, a.2.1.Name, ())).bind fun x3 => cond (!(decide (x3.1 ≥ 0))) (cond (!(decide ((Int.ofNat (List.length a.1)) = 8))) ((f98 (a.1, a.2.1, ())).bind fun x4 => cond (!x4.1) ((f162 (a.1, ())).bind fun x5 => some (x5.1, false, ())) (iterF (s116_0 f49 f97 f146 f98 f162) fuel (a.2.1, ([] : List Device), false, a.1, (Int.ofNat (List.length a.1)), 0, ()) fun t8 => cond (!t8.2.2.1) (capK (List.length t8.2.1 + List.length ([t8.1] : List Device)) (some ((t8.2.1 ++ ([t8.1] : List Device)), true, ()))) (some (t8.2.1, true, ())))) ((f162 (a.1, ())).bind fun x9 => some (x9.1, false, ()))) ((f162 (a.1, ())).bind fun x10 => some (x10.1, false, ()))) ((f162 (a.1, ())).bind fun x11 => some (x11.1, false, ()))) ((f162 (a.1, ())).bind fun x12 => some (x12.1, false, ()))
def E116 (f49 : T49) (f97 : T97) (f146 : T146) (f98 : T98) (f162 : T162) : Env := envL [(49, N49 f49), (97, N97 f97), (146, N146 f146), (98, N98 f98), (162, N162 f162)]
noncomputable def L116 (f49 : T49) (f97 : T97) (f146 : T146) (f98 : T98) (f162 : T162) : LEnv (densS (muts p116 ++ r116)) := lenv [(0, loopL (R := densS (muts p116 ++ r116)) q116_0 (s116_0 f49 f97 f146 f98 f162))]
theorem e116_0 (f49 : T49) (f97 : T97) (f146 : T146) (f98 : T98) (f162 : T162) (X : Nat → St → Option (densS (muts p116 ++ r116))) (rec K : densS q116_0 → Option (densS (muts p116 ++ r116))) (t : densS q116_0) :
    ev (E116 f49 f97 f146 f98 f162) tab (fun _ => false) (L116 f49 f97 f146 f98 f162) (retK tab p116 r116 Proofs.Tryz.f116.results.toList) (loopC Proofs.Tryz.f116 0) (fun i s => cond (Nat.beq i 0) (decK 100 q116_0 s K) (X i s)) (fun s => decK 100 q116_0 s rec) (enc q116_0 t) = s116_0 f49 f97 f146 f98 f162 t rec K := by kernel_rfl
theorem e116 (f49 : T49) (f97 : T97) (f146 : T146) (f98 : T98) (f162 : T162) (a : densS p116) : runF (E116 f49 f97 f146 f98 f162) tab (fun _ => false) p116 r116 Proofs.Tryz.f116 (L116 f49 f97 f146 f98 f162) a = F116 f49 f97 f146 f98 f162 a := by kernel_rfl
theorem ok116 {f49 : T49} {f97 : T97} {f146 : T146} {f98 : T98} {f162 : T162} (h49 : OK Proofs.Tryz.prog 49 (N49 f49)) (h97 : OK Proofs.Tryz.prog 97 (N97 f97)) (h146 : OK Proofs.Tryz.prog 146 (N146 f146)) (h98 : OK Proofs.Tryz.prog 98 (N98 f98)) (h162 : OK Proofs.Tryz.prog 162 (N162 f162)) : OK Proofs.Tryz.prog 116 (mkE p116 r116 false (F116 f49 f97 f146 f98 f162)) :=
  fn_ok (E := E116 f49 f97 f146 f98 f162) tab_ok (envL_ok (OKs.cons h49 (OKs.cons h97 (OKs.cons h146 (OKs.cons h98 (OKs.cons h162 OKs.nil)))))) mixed (ann := (fun _ => false)) (L := L116 f49 f97 f146 f98 f162) (fn := Proofs.Tryz.f116) (c := bodyC Proofs.Tryz.f116) (ls := [(0, loopC Proofs.Tryz.f116 0)]) Proofs.Tryz.func116 (by kernel_rfl) (by kernel_rfl) (by kernel_rfl) (by kernel_rfl)
    (LoopsP.cons q116_0 (s116_0 f49 f97 f146 f98 f162) rfl (e116_0 f49 f97 f146 f98 f162) LoopsP.nil) (e116 f49 f97 f146 f98 f162)
/-! spec.l1Str -/
def p118 : List SP := [.box 0 [.r .u8, .int .i64, .int .i64], .one (.r .str)]
def r118 : List SP := [.one (.str)]
abbrev T118 := CuD × List Str × Unit → Option (CuD × Str × Unit)
abbrev N118 (f : T118) : Entry := mkE p118 r118 true f
noncomputable def F118 (f30 : T30) (a : CuD × List Str × Unit) : Option (CuD × Str × Unit) :=
  (f30 ((a.1.1, a.1.2.1, a.1.2.2.1, ()), (Int.ofNat (List.length a.2.1)), ())).bind fun x1 => rdL a.2.1 x1.2.1 fun d2 => some ((x1.1.1, x1.1.2.1, x1.1.2.2.1, ()), d2, ())
def E118 (f30 : T30) : Env := envL [(30, N30 f30)]
noncomputable def L118 (f30 : T30) : LEnv (densS (muts p118 ++ r118)) := lenv []
theorem e118 (f30 : T30) (a : densS p118) : runF (E118 f30) tab (fun _ => false) p118 r118 Proofs.Tryz.f118 (L118 f30) a = F118 f30 a := by kernel_rfl
theorem ok118 {f30 : T30} (h30 : OK Proofs.Tryz.prog 30 (N30 f30)) : OK Proofs.Tryz.prog 118 (mkE p118 r118 true (F118 f30)) :=
  fn_ok (E := E118 f30) tab_ok (envL_ok (OKs.cons h30 OKs.nil)) mixed (ann := (fun _ => false)) (L := L118 f30) (fn := Proofs.Tryz.f118) (c := bodyC Proofs.Tryz.f118) (ls := []) Proofs.Tryz.func118 (by kernel_rfl) (by kernel_rfl) (by kernel_rfl) (by kernel_rfl)
    LoopsP.nil (e118 f30)
/-! spec.l1Some -/
def p147 : List SP := [.box 0 [.r .u8, .int .i64, .int .i64], .one (.int .i64), .one (.int .i64)]
def r147 : List SP := [.one (.int .i64)]
abbrev T147 := CuD × Int × Int × Unit → Option (CuD × Int × Unit)
abbrev N147 (f : T147) : Entry := mkE p147 r147 true f
noncomputable def F147 (f30 : T30) (a : CuD × Int × Int × Unit) : Option (CuD × Int × Unit) :=
  (f30 ((a.1.1, a.1.2.1, a.1.2.2.1, ()), (w64 ((w64 (a.2.2.1 - a.2.1)) + 1)), ())).bind fun x1 => some ((x1.1.1, x1.1.2.1, x1.1.2.2.1, ()), (w64 (a.2.1 + x1.2.1)), ())
def E147 (f30 : T30) : Env := envL [(30, N30 f30)]
noncomputable def L147 (f30 : T30) : LEnv (densS (muts p147 ++ r147)) := lenv []
theorem e147 (f30 : T30) (a : densS p147) : runF (E147 f30) tab (fun _ => false) p147 r147 Proofs.Tryz.f147 (L147 f30) a = F147 f30 a := by kernel_rfl
theorem ok147 {f30 : T30} (h30 : OK Proofs.Tryz.prog 30 (N30 f30)) : OK Proofs.Tryz.prog 147 (mkE p147 r147 true (F147 f30)) :=
  fn_ok (E := E147 f30) tab_ok (envL_ok (OKs.cons h30 OKs.nil)) mixed (ann := (fun _ => false)) (L := L147 f30) (fn := Proofs.Tryz.f147) (c := bodyC Proofs.Tryz.f147) (ls := []) Proofs.Tryz.func147 (by kernel_rfl) (by kernel_rfl) (by kernel_rfl) (by kernel_rfl)
    LoopsP.nil (e147 f30)
/-! spec.l2Draw -/
def p119 : List SP := [.box 0 [.r .u8, .int .i64, .int .i64]]
def r119 : List SP := [.t .place]
abbrev T119 := CuD × Unit → Option (CuD × Place × Unit)
abbrev N119 (f : T119) : Entry := mkE p119 r119 true f
noncomputable def F119 (f147 : T147) (a : CuD × Unit) : Option (CuD × Place × Unit) :=
  (f147 ((a.1.1, a.1.2.1, a.1.2.2.1, ()), (-64), 64, ())).bind fun x1 => (f147 ((x1.1.1, x1.1.2.1, x1.1.2.2.1, ()), (-64), 64, ())).bind fun x2 => some ((x2.1.1, x2.1.2.1, x2.1.2.2.1, ()), (⟨x1.2.1, x2.2.1⟩ : Place), ())
def E119 (f147 : T147) : Env := envL [(147, N147 f147)]
noncomputable def L119 (f147 : T147) : LEnv (densS (muts p119 ++ r119)) := lenv []
theorem e119 (f147 : T147) (a : densS p119) : runF (E119 f147) tab (fun _ => false) p119 r119 Proofs.Tryz.f119 (L119 f147) a = F119 f147 a := by kernel_rfl
theorem ok119 {f147 : T147} (h147 : OK Proofs.Tryz.prog 147 (N147 f147)) : OK Proofs.Tryz.prog 119 (mkE p119 r119 true (F119 f147)) :=
  fn_ok (E := E119 f147) tab_ok (envL_ok (OKs.cons h147 OKs.nil)) mixed (ann := (fun _ => false)) (L := L119 f147) (fn := Proofs.Tryz.f119) (c := bodyC Proofs.Tryz.f119) (ls := []) Proofs.Tryz.func119 (by kernel_rfl) (by kernel_rfl) (by kernel_rfl) (by kernel_rfl)
    LoopsP.nil (e119 f147)
/-! spec.l3Draw -/
def p163 : List SP := [.box 0 [.r .u8, .int .i64, .int .i64]]
def r163 : List SP := [.t .jet]
abbrev T163 := CuD × Unit → Option (CuD × Jet × Unit)
abbrev N163 (f : T163) : Entry := mkE p163 r163 true f
noncomputable def F163 (f119 : T119) (f30 : T30) (f147 : T147) (a : CuD × Unit) : Option (CuD × Jet × Unit) :=
  (f119 ((a.1.1, a.1.2.1, a.1.2.2.1, ()), ())).bind fun x1 => (f30 ((x1.1.1, x1.1.2.1, x1.1.2.2.1, ()), 4, ())).bind fun x2 => (f30 ((x2.1.1, x2.1.2.1, x2.1.2.2.1, ()), 17, ())).bind fun x3 => (f147 ((x3.1.1, x3.1.2.1, x3.1.2.2.1, ()), 1, 32, ())).bind fun x4 => some ((x4.1.1, x4.1.2.1, x4.1.2.2.1, ()), (⟨⟨x1.2.1.X, x1.2.1.Y⟩, x2.2.1, x3.2.1, x4.2.1⟩ : Jet), ())
def E163 (f119 : T119) (f30 : T30) (f147 : T147) : Env := envL [(119, N119 f119), (30, N30 f30), (147, N147 f147)]
noncomputable def L163 (f119 : T119) (f30 : T30) (f147 : T147) : LEnv (densS (muts p163 ++ r163)) := lenv []
theorem e163 (f119 : T119) (f30 : T30) (f147 : T147) (a : densS p163) : runF (E163 f119 f30 f147) tab (fun _ => false) p163 r163 Proofs.Tryz.f163 (L163 f119 f30 f147) a = F163 f119 f30 f147 a := by kernel_rfl
theorem ok163 {f119 : T119} {f30 : T30} {f147 : T147} (h119 : OK Proofs.Tryz.prog 119 (N119 f119)) (h30 : OK Proofs.Tryz.prog 30 (N30 f30)) (h147 : OK Proofs.Tryz.prog 147 (N147 f147)) : OK Proofs.Tryz.prog 163 (mkE p163 r163 true (F163 f119 f30 f147)) :=
  fn_ok (E := E163 f119 f30 f147) tab_ok (envL_ok (OKs.cons h119 (OKs.cons h30 (OKs.cons h147 OKs.nil)))) mixed (ann := (fun _ => false)) (L := L163 f119 f30 f147) (fn := Proofs.Tryz.f163) (c := bodyC Proofs.Tryz.f163) (ls := []) Proofs.Tryz.func163 (by kernel_rfl) (by kernel_rfl) (by kernel_rfl) (by kernel_rfl)
    LoopsP.nil (e163 f119 f30 f147)
/-! spec.l6Nozzle -/
def p117 : List SP := [.box 0 [.r .u8, .int .i64, .int .i64], .one (.str), .one (.str)]
def r117 : List SP := [.t .device]
abbrev T117 := CuD × Str × Str × Unit → Option (CuD × Device × Unit)
abbrev N117 (f : T117) : Entry := mkE p117 r117 true f
noncomputable def F117 (f163 : T163) (f147 : T147) (a : CuD × Str × Str × Unit) : Option (CuD × Device × Unit) :=
  (f163 ((a.1.1, a.1.2.1, a.1.2.2.1, ()), ())).bind fun x1 => (f147 ((x1.1.1, x1.1.2.1, x1.1.2.2.1, ()), 0, 32, ())).bind fun x2 => some ((x2.1.1, x2.1.2.1, x2.1.2.2.1, ()), (⟨a.2.1, 2, a.2.2.1, ⟨x1.2.1.At.X, x1.2.1.At.Y⟩, x1.2.1.Heading, x1.2.1.Tilt, x2.2.1⟩ : Device), ())
def E117 (f163 : T163) (f147 : T147) : Env := envL [(163, N163 f163), (147, N147 f147)]
noncomputable def L117 (f163 : T163) (f147 : T147) : LEnv (densS (muts p117 ++ r117)) := lenv []
theorem e117 (f163 : T163) (f147 : T147) (a : densS p117) : runF (E117 f163 f147) tab (fun n => Nat.beq n 1200000 || Nat.beq n 1299999) p117 r117 Proofs.Tryz.f117 (L117 f163 f147) a = F117 f163 f147 a := by kernel_rfl
theorem ok117 {f163 : T163} {f147 : T147} (h163 : OK Proofs.Tryz.prog 163 (N163 f163)) (h147 : OK Proofs.Tryz.prog 147 (N147 f147)) : OK Proofs.Tryz.prog 117 (mkE p117 r117 true (F117 f163 f147)) :=
  fn_ok (E := E117 f163 f147) tab_ok (envL_ok (OKs.cons h163 (OKs.cons h147 OKs.nil))) mixed (ann := (fun n => Nat.beq n 1200000 || Nat.beq n 1299999)) (L := L117 f163 f147) (fn := Proofs.Tryz.f117) (c := bodyC Proofs.Tryz.f117) (ls := []) Proofs.Tryz.func117 (by kernel_rfl) (by kernel_rfl) (by kernel_rfl) (by kernel_rfl)
    LoopsP.nil (e117 f163 f147)
/-! spec.l1Once -/
def p47 : List SP := [.box 0 [.r .u8, .int .i64, .int .i64], .one (.int .i64)]
def r47 : List SP := [.one (.bool)]
abbrev T47 := CuD × Int × Unit → Option (CuD × Bool × Unit)
abbrev N47 (f : T47) : Entry := mkE p47 r47 true f
noncomputable def F47 (f30 : T30) (a : CuD × Int × Unit) : Option (CuD × Bool × Unit) :=
  (f30 ((a.1.1, a.1.2.1, a.1.2.2.1, ()), a.2.1, ())).bind fun x1 => some ((x1.1.1, x1.1.2.1, x1.1.2.2.1, ()), (decide (x1.2.1 = 0)), ())
def E47 (f30 : T30) : Env := envL [(30, N30 f30)]
noncomputable def L47 (f30 : T30) : LEnv (densS (muts p47 ++ r47)) := lenv []
theorem e47 (f30 : T30) (a : densS p47) : runF (E47 f30) tab (fun _ => false) p47 r47 Proofs.Tryz.f47 (L47 f30) a = F47 f30 a := by kernel_rfl
theorem ok47 {f30 : T30} (h30 : OK Proofs.Tryz.prog 30 (N30 f30)) : OK Proofs.Tryz.prog 47 (mkE p47 r47 true (F47 f30)) :=
  fn_ok (E := E47 f30) tab_ok (envL_ok (OKs.cons h30 OKs.nil)) mixed (ann := (fun _ => false)) (L := L47 f30) (fn := Proofs.Tryz.f47) (c := bodyC Proofs.Tryz.f47) (ls := []) Proofs.Tryz.func47 (by kernel_rfl) (by kernel_rfl) (by kernel_rfl) (by kernel_rfl)
    LoopsP.nil (e47 f30)
/-! spec.l6Draw -/
def p68 : List SP := [.box 0 [.r .u8, .int .i64, .int .i64]]
def r68 : List SP := [.one (.o 1 .device)]
abbrev T68 := CuD × Unit → Option (CuD × List Device × Unit)
abbrev N68 (f : T68) : Entry := mkE p68 r68 true f
def q68_0 : List SP := pat 76 0 [(0, .box 0 [.r .u8, .int .i64, .int .i64]), (3, .one (.o 5000001 .device)), (4, .one (.r .str)), (16, .one (.r .str)), (17, .one (.int .i64)), (18, .one (.int .i64))]
noncomputable def s68_0 (f30 : T30) (f116 : T116) (f118 : T118) (f117 : T117) (f47 : T47) (f119 : T119) (t2 : CuD × List Device × List Str × List Str × Int × Int × Unit) (rec K : CuD × List Device × List Str × List Str × Int × Int × Unit → Option (CuD × List Device × Unit)) : Option (CuD × List Device × Unit) :=
  cond (decide (t2.2.2.2.2.2.1 < t2.2.2.2.2.1)) (rdL t2.2.2.2.1 t2.2.2.2.2.2.1 fun d3 => (f30 ((t2.1.1, t2.1.2.1, t2.1.2.2.1, ()), 80, ())).bind fun x4 => (f116 (t2.2.1, (⟨d3, 1, [], ⟨0, 0⟩, 0, 0, x4.2.1⟩ : Device), ())).bind fun x5 => rec ((x4.1.1, x4.1.2.1, x4.1.2.2.1, ()), x5.1, t2.2.2.1, t2.2.2.2.1, t2.2.2.2.2.1, (w64 (t2.2.2.2.2.2.1 + 1)), ())) (K ((t2.1.1, t2.1.2.1, t2.1.2.2.1, ()), t2.2.1, t2.2.2.1, t2.2.2.2.1, t2.2.2.2.2.1, t2.2.2.2.2.2.1, ()))
def q68_2 : List SP := pat 76 0 [(0, .box 0 [.r .u8, .int .i64, .int .i64]), (3, .one (.o 5002001 .device)), (4, .one (.r .str)), (7, .one (.r .str)), (36, .one (.r .str)), (37, .one (.int .i64)), (38, .one (.int .i64))]
noncomputable def s68_2 (f30 : T30) (f116 : T116) (f118 : T118) (f117 : T117) (f47 : T47) (f119 : T119) (t8 : CuD × List Device × List Str × List Str × List Str × Int × Int × Unit) (rec K : CuD × List Device × List Str × List Str × List Str × Int × Int × Unit → Option (CuD × List Device × Unit)) : Option (CuD × List Device × Unit) :=
  cond (decide (t8.2.2.2.2.2.2.1 < t8.2.2.2.2.2.1)) (rdL t8.2.2.2.2.1 t8.2.2.2.2.2.2.1 fun d9 => (f118 ((t8.1.1, t8.1.2.1, t8.1.2.2.1, ()), t8.2.2.1, ())).bind fun x10 => (f117 ((x10.1.1, x10.1.2.1, x10.1.2.2.1, ()), d9, x10.2.1, ())).bind fun x11 => (f116 (t8.2.1, x11.2.1, ())).bind fun x12 => rec ((x11.1.1, x11.1.2.1, x11.1.2.2.1, ()), x12.1, t8.2.2.1, t8.2.2.2.1, t8.2.2.2.2.1, t8.2.2.2.2.2.1, (w64 (t8.2.2.2.2.2.2.1 + 1)), ())) (K ((t8.1.1, t8.1.2.1, t8.1.2.2.1, ()), t8.2.1, t8.2.2.1, t8.2.2.2.1, t8.2.2.2.2.1, t8.2.2.2.2.2.1, t8.2.2.2.2.2.2.1, ()))
noncomputable def F68 (f30 : T30) (f116 : T116) (f118 : T118) (f117 : T117) (f47 : T47) (f119 : T119) (a : CuD × Unit) : Option (CuD × List Device × Unit) :=
  (f30 ((a.1.1, a.1.2.1, a.1.2.2.1, ()), 2, ())).bind fun x1 => okIf ((0 : Int) ≤ (w64 (1 + x1.2.1)) ∧ ((w64 (1 + x1.2.1)) : Int) ≤ List.length ([[112], [113]] : List Str)) (iterF (s68_0 f30 f116 f118 f117 f47 f119) fuel ((x1.1.1, x1.1.2.1, x1.1.2.2.1, ()), ([] : List Device), (List.drop 0 (List.take (Int.toNat (w64 (1 + x1.2.1))) ([[112], [113]] : List Str))), (List.drop 0 (List.take (Int.toNat (w64 (1 + x1.2.1))) ([[112], [113]] : List Str))), (Int.ofNat ((Int.toNat (w64 (1 + x1.2.1))) - 0)), 0, ()) fun t6 => (f30 ((t6.1.1, t6.1.2.1, t6.1.2.2.1, ()), 5, ())).bind fun x7 => okIf ((0 : Int) ≤ x7.2.1 ∧ (x7.2.1 : Int) ≤ List.length ([[97], [98], [99], [114]] : List Str)) (iterF (s68_2 f30 f116 f118 f117 f47 f119) fuel ((x7.1.1, x7.1.2.1, x7.1.2.2.1, ()), t6.2.1, t6.2.2.1, (List.drop 0 (List.take (Int.toNat x7.2.1) ([[97], [98], [99], [114]] : List Str))), (List.drop 0 (List.take (Int.toNat x7.2.1) ([[97], [98], [99], [114]] : List Str))), (Int.ofNat ((Int.toNat x7.2.1) - 0)), 0, ()) fun t13 => cond (decide ((Int.ofNat (List.length t13.2.2.2.1)) > 0)) ((f47 ((t13.1.1, t13.1.2.1, t13.1.2.2.1, ()), 2, ())).bind fun x14 => cond x14.2.1 ((f118 ((x14.1.1, x14.1.2.1, x14.1.2.2.1, ()), ([[108, 97, 109, 112], [122]] : List Str), ())).bind fun x15 => (f118 ((x15.1.1, x15.1.2.1, x15.1.2.2.1, ()), t13.2.2.2.1, ())).bind fun x16 => (f119 ((x16.1.1, x16.1.2.1, x16.1.2.2.1, ()), ())).bind fun x17 => (f116 (t13.2.1, (⟨x15.2.1, 3, x16.2.1, ⟨x17.2.1.X, x17.2.1.Y⟩, 0, 0, 0⟩ : Device), ())).bind fun x18 => some ((x17.1.1, x17.1.2.1, x17.1.2.2.1, ()), x18.1, ())) (some ((x14.1.1, x14.1.2.1, x14.1.2.2.1, ()), t13.2.1, ()))) (some ((t13.1.1, t13.1.2.1, t13.1.2.2.1, ()), t13.2.1, ()))))
def E68 (f30 : T30) (f116 : T116) (f118 : T118) (f117 : T117) (f47 : T47) (f119 : T119) : Env := envL [(30, N30 f30), (116, N116 f116), (118, N118 f118), (117, N117 f117), (47, N47 f47), (119, N119 f119)]
noncomputable def L68 (f30 : T30) (f116 : T116) (f118 : T118) (f117 : T117) (f47 : T47) (f119 : T119) : LEnv (densS (muts p68 ++ r68)) := lenv [(0, loopL (R := densS (muts p68 ++ r68)) q68_0 (s68_0 f30 f116 f118 f117 f47 f119)), (2, loopL (R := densS (muts p68 ++ r68)) q68_2 (s68_2 f30 f116 f118 f117 f47 f119))]
theorem e68_0 (f30 : T30) (f116 : T116) (f118 : T118) (f117 : T117) (f47 : T47) (f119 : T119) (X : Nat → St → Option (densS (muts p68 ++ r68))) (rec K : densS q68_0 → Option (densS (muts p68 ++ r68))) (t : densS q68_0) :
    ev (E68 f30 f116 f118 f117 f47 f119) tab (fun _ => false) (L68 f30 f116 f118 f117 f47 f119) (retK tab p68 r68 Proofs.Tryz.f68.results.toList) (loopC Proofs.Tryz.f68 0) (fun i s => cond (Nat.beq i 0) (decK 100 q68_0 s K) (X i s)) (fun s => decK 100 q68_0 s rec) (enc q68_0 t) = s68_0 f30 f116 f118 f117 f47 f119 t rec K := by kernel_rfl
theorem e68_2 (f30 : T30) (f116 : T116) (f118 : T118) (f117 : T117) (f47 : T47) (f119 : T119) (X : Nat → St → Option (densS (muts p68 ++ r68))) (rec K : densS q68_2 → Option (densS (muts p68 ++ r68))) (t : densS q68_2) :
    ev (E68 f30 f116 f118 f117 f47 f119) tab (fun _ => false) (L68 f30 f116 f118 f117 f47 f119) (retK tab p68 r68 Proofs.Tryz.f68.results.toList) (loopC Proofs.Tryz.f68 1) (fun i s => cond (Nat.beq i 2) (decK 100 q68_2 s K) (X i s)) (fun s => decK 100 q68_2 s rec) (enc q68_2 t) = s68_2 f30 f116 f118 f117 f47 f119 t rec K := by kernel_rfl
theorem e68 (f30 : T30) (f116 : T116) (f118 : T118) (f117 : T117) (f47 : T47) (f119 : T119) (a : densS p68) : runF (E68 f30 f116 f118 f117 f47 f119) tab (fun _ => false) p68 r68 Proofs.Tryz.f68 (L68 f30 f116 f118 f117 f47 f119) a = F68 f30 f116 f118 f117 f47 f119 a := by kernel_rfl
theorem ok68 {f30 : T30} {f116 : T116} {f118 : T118} {f117 : T117} {f47 : T47} {f119 : T119} (h30 : OK Proofs.Tryz.prog 30 (N30 f30)) (h116 : OK Proofs.Tryz.prog 116 (N116 f116)) (h118 : OK Proofs.Tryz.prog 118 (N118 f118)) (h117 : OK Proofs.Tryz.prog 117 (N117 f117)) (h47 : OK Proofs.Tryz.prog 47 (N47 f47)) (h119 : OK Proofs.Tryz.prog 119 (N119 f119)) : OK Proofs.Tryz.prog 68 (mkE p68 r68 true (F68 f30 f116 f118 f117 f47 f119)) :=
  fn_ok (E := E68 f30 f116 f118 f117 f47 f119) tab_ok (envL_ok (OKs.cons h30 (OKs.cons h116 (OKs.cons h118 (OKs.cons h117 (OKs.cons h47 (OKs.cons h119 OKs.nil))))))) mixed (ann := (fun _ => false)) (L := L68 f30 f116 f118 f117 f47 f119) (fn := Proofs.Tryz.f68) (c := bodyC Proofs.Tryz.f68) (ls := [(0, loopC Proofs.Tryz.f68 0), (2, loopC Proofs.Tryz.f68 1)]) Proofs.Tryz.func68 (by kernel_rfl) (by kernel_rfl) (by kernel_rfl) (by kernel_rfl)
    (LoopsP.cons q68_0 (s68_0 f30 f116 f118 f117 f47 f119) rfl (e68_0 f30 f116 f118 f117 f47 f119) (LoopsP.cons q68_2 (s68_2 f30 f116 f118 f117 f47 f119) rfl (e68_2 f30 f116 f118 f117 f47 f119) LoopsP.nil)) (e68 f30 f116 f118 f117 f47 f119)
/-! spec.l1Int -/
def p77 : List SP := [.box 0 [.r .u8, .int .i64, .int .i64], .one (.r .int)]
def r77 : List SP := [.one (.int .i64)]
abbrev T77 := CuD × List Int × Unit → Option (CuD × Int × Unit)
abbrev N77 (f : T77) : Entry := mkE p77 r77 true f
noncomputable def F77 (f30 : T30) (a : CuD × List Int × Unit) : Option (CuD × Int × Unit) :=
  (f30 ((a.1.1, a.1.2.1, a.1.2.2.1, ()), (Int.ofNat (List.length a.2.1)), ())).bind fun x1 => rdL a.2.1 x1.2.1 fun d2 => some ((x1.1.1, x1.1.2.1, x1.1.2.2.1, ()), d2, ())
def E77 (f30 : T30) : Env := envL [(30, N30 f30)]
noncomputable def L77 (f30 : T30) : LEnv (densS (muts p77 ++ r77)) := lenv []
theorem e77 (f30 : T30) (a : densS p77) : runF (E77 f30) tab (fun _ => false) p77 r77 Proofs.Tryz.f77 (L77 f30) a = F77 f30 a := by kernel_rfl
theorem ok77 {f30 : T30} (h30 : OK Proofs.Tryz.prog 30 (N30 f30)) : OK Proofs.Tryz.prog 77 (mkE p77 r77 true (F77 f30)) :=
  fn_ok (E := E77 f30) tab_ok (envL_ok (OKs.cons h30 OKs.nil)) mixed (ann := (fun _ => false)) (L := L77 f30) (fn := Proofs.Tryz.f77) (c := bodyC Proofs.Tryz.f77) (ls := []) Proofs.Tryz.func77 (by kernel_rfl) (by kernel_rfl) (by kernel_rfl) (by kernel_rfl)
    LoopsP.nil (e77 f30)
/-! spec.l4DriftDraw -/
def p102 : List SP := [.box 0 [.r .u8, .int .i64, .int .i64]]
def r102 : List SP := [.t .place]
abbrev T102 := CuD × Unit → Option (CuD × Place × Unit)
abbrev N102 (f : T102) : Entry := mkE p102 r102 true f
noncomputable def F102 (f147 : T147) (a : CuD × Unit) : Option (CuD × Place × Unit) :=
  (f147 ((a.1.1, a.1.2.1, a.1.2.2.1, ()), (-3), 3, ())).bind fun x1 => (f147 ((x1.1.1, x1.1.2.1, x1.1.2.2.1, ()), (-3), 3, ())).bind fun x2 => some ((x2.1.1, x2.1.2.1, x2.1.2.2.1, ()), (⟨x1.2.1, x2.2.1⟩ : Place), ())
def E102 (f147 : T147) : Env := envL [(147, N147 f147)]
noncomputable def L102 (f147 : T147) : LEnv (densS (muts p102 ++ r102)) := lenv []
theorem e102 (f147 : T147) (a : densS p102) : runF (E102 f147) tab (fun _ => false) p102 r102 Proofs.Tryz.f102 (L102 f147) a = F102 f147 a := by kernel_rfl
theorem ok102 {f147 : T147} (h147 : OK Proofs.Tryz.prog 147 (N147 f147)) : OK Proofs.Tryz.prog 102 (mkE p102 r102 true (F102 f147)) :=
  fn_ok (E := E102 f147) tab_ok (envL_ok (OKs.cons h147 OKs.nil)) mixed (ann := (fun _ => false)) (L := L102 f147) (fn := Proofs.Tryz.f102) (c := bodyC Proofs.Tryz.f102) (ls := []) Proofs.Tryz.func102 (by kernel_rfl) (by kernel_rfl) (by kernel_rfl) (by kernel_rfl)
    LoopsP.nil (e102 f147)
/-! spec.l4Draw -/
def p69 : List SP := [.box 0 [.r .u8, .int .i64, .int .i64]]
def r69 : List SP := [.one (.o 1 .gust)]
abbrev T69 := CuD × Unit → Option (CuD × List Gust × Unit)
abbrev N69 (f : T69) : Entry := mkE p69 r69 true f
def q69_0 : List SP := pat 29 0 [(0, .box 0 [.r .u8, .int .i64, .int .i64]), (3, .one (.o 5000001 .gust)), (4, .one (.int .i64)), (5, .one (.int .i64))]
noncomputable def s69_0 (f77 : T77) (f30 : T30) (f102 : T102) (t3 : CuD × List Gust × Int × Int × Unit) (rec K : CuD × List Gust × Int × Int × Unit → Option (CuD × List Gust × Unit)) : Option (CuD × List Gust × Unit) :=
  cond (decide (t3.2.2.2.1 > 0)) ((f102 ((t3.1.1, t3.1.2.1, t3.1.2.2.1, ()), ())).bind fun x4 => capK (List.length t3.2.1 + List.length ([(⟨t3.2.2.1, ⟨x4.2.1.X, x4.2.1.Y⟩⟩ : Gust)] : List Gust)) ((f30 ((x4.1.1, x4.1.2.1, x4.1.2.2.1, ()), 9, ())).bind fun x5 => rec ((x5.1.1, x5.1.2.1, x5.1.2.2.1, ()), (t3.2.1 ++ ([(⟨t3.2.2.1, ⟨x4.2.1.X, x4.2.1.Y⟩⟩ : Gust)] : List Gust)), (w64 ((w64 (t3.2.2.1 + 1)) + x5.2.1)), (w64 (t3.2.2.2.1 - 1)), ()))) (K ((t3.1.1, t3.1.2.1, t3.1.2.2.1, ()), t3.2.1, t3.2.2.1, t3.2.2.2.1, ()))
noncomputable def F69 (f77 : T77) (f30 : T30) (f102 : T102) (a : CuD × Unit) : Option (CuD × List Gust × Unit) :=
  (f77 ((a.1.1, a.1.2.1, a.1.2.2.1, ()), ([0, 0, 1, 5] : List Int), ())).bind fun x1 => (f30 ((x1.1.1, x1.1.2.1, x1.1.2.2.1, ()), 6, ())).bind fun x2 => iterF (s69_0 f77 f30 f102) fuel ((x2.1.1, x2.1.2.1, x2.1.2.2.1, ()), ([] : List Gust), x1.2.1, x2.2.1, ()) fun t6 => some ((t6.1.1, t6.1.2.1, t6.1.2.2.1, ()), t6.2.1, ())
def E69 (f77 : T77) (f30 : T30) (f102 : T102) : Env := envL [(77, N77 f77), (30, N30 f30), (102, N102 f102)]
noncomputable def L69 (f77 : T77) (f30 : T30) (f102 : T102) : LEnv (densS (muts p69 ++ r69)) := lenv [(0, loopL (R := densS (muts p69 ++ r69)) q69_0 (s69_0 f77 f30 f102))]
theorem e69_0 (f77 : T77) (f30 : T30) (f102 : T102) (X : Nat → St → Option (densS (muts p69 ++ r69))) (rec K : densS q69_0 → Option (densS (muts p69 ++ r69))) (t : densS q69_0) :
    ev (E69 f77 f30 f102) tab (fun _ => false) (L69 f77 f30 f102) (retK tab p69 r69 Proofs.Tryz.f69.results.toList) (loopC Proofs.Tryz.f69 0) (fun i s => cond (Nat.beq i 0) (decK 100 q69_0 s K) (X i s)) (fun s => decK 100 q69_0 s rec) (enc q69_0 t) = s69_0 f77 f30 f102 t rec K := by kernel_rfl
theorem e69 (f77 : T77) (f30 : T30) (f102 : T102) (a : densS p69) : runF (E69 f77 f30 f102) tab (fun _ => false) p69 r69 Proofs.Tryz.f69 (L69 f77 f30 f102) a = F69 f77 f30 f102 a := by kernel_rfl
theorem ok69 {f77 : T77} {f30 : T30} {f102 : T102} (h77 : OK Proofs.Tryz.prog 77 (N77 f77)) (h30 : OK Proofs.Tryz.prog 30 (N30 f30)) (h102 : OK Proofs.Tryz.prog 102 (N102 f102)) : OK Proofs.Tryz.prog 69 (mkE p69 r69 true (F69 f77 f30 f102)) :=
  fn_ok (E := E69 f77 f30 f102) tab_ok (envL_ok (OKs.cons h77 (OKs.cons h30 (OKs.cons h102 OKs.nil)))) mixed (ann := (fun _ => false)) (L := L69 f77 f30 f102) (fn := Proofs.Tryz.f69) (c := bodyC Proofs.Tryz.f69) (ls := [(0, loopC Proofs.Tryz.f69 0)]) Proofs.Tryz.func69 (by kernel_rfl) (by kernel_rfl) (by kernel_rfl) (by kernel_rfl)
    (LoopsP.cons q69_0 (s69_0 f77 f30 f102) rfl (e69_0 f77 f30 f102) LoopsP.nil) (e69 f77 f30 f102)
/-! spec.l7Name -/
def p120 : List SP := [.box 0 [.r .u8, .int .i64, .int .i64]]
def r120 : List SP := [.one (.str)]
abbrev T120 := CuD × Unit → Option (CuD × Str × Unit)
abbrev N120 (f : T120) : Entry := mkE p120 r120 true f
noncomputable def F120 (f118 : T118) (a : CuD × Unit) : Option (CuD × Str × Unit) :=
  (f118 ((a.1.1, a.1.2.1, a.1.2.2.1, ()), ([[97], [97], [98], [99], [114], [110, 111]] : List Str), ())).bind fun x1 => some ((x1.1.1, x1.1.2.1, x1.1.2.2.1, ()), x1.2.1, ())
def E120 (f118 : T118) : Env := envL [(118, N118 f118)]
noncomputable def L120 (f118 : T118) : LEnv (densS (muts p120 ++ r120)) := lenv []
theorem e120 (f118 : T118) (a : densS p120) : runF (E120 f118) tab (fun _ => false) p120 r120 Proofs.Tryz.f120 (L120 f118) a = F120 f118 a := by kernel_rfl
theorem ok120 {f118 : T118} (h118 : OK Proofs.Tryz.prog 118 (N118 f118)) : OK Proofs.Tryz.prog 120 (mkE p120 r120 true (F120 f118)) :=
  fn_ok (E := E120 f118) tab_ok (envL_ok (OKs.cons h118 OKs.nil)) mixed (ann := (fun _ => false)) (L := L120 f118) (fn := Proofs.Tryz.f120) (c := bodyC Proofs.Tryz.f120) (ls := []) Proofs.Tryz.func120 (by kernel_rfl) (by kernel_rfl) (by kernel_rfl) (by kernel_rfl)
    LoopsP.nil (e120 f118)
/-! spec.l7Cue -/
def p70 : List SP := [.box 0 [.r .u8, .int .i64, .int .i64]]
def r70 : List SP := [.t .cue]
abbrev T70 := CuD × Unit → Option (CuD × Cue × Unit)
abbrev N70 (f : T70) : Entry := mkE p70 r70 true f
noncomputable def F70 (f30 : T30) (f120 : T120) (f77 : T77) (a : CuD × Unit) : Option (CuD × Cue × Unit) :=
  (f30 ((a.1.1, a.1.2.1, a.1.2.2.1, ()), 14, ())).bind fun x1 => (f120 ((x1.1.1, x1.1.2.1, x1.1.2.2.1, ()), ())).bind fun x2 => (f30 ((x2.1.1, x2.1.2.1, x2.1.2.2.1, ()), 33, ())).bind fun x3 => (f77 ((x3.1.1, x3.1.2.1, x3.1.2.2.1, ()), ([0, 0, 1, 2, 3, 5, 8, 16] : List Int), ())).bind fun x4 => some ((x4.1.1, x4.1.2.1, x4.1.2.2.1, ()), (⟨x1.2.1, x2.2.1, x3.2.1, x4.2.1⟩ : Cue), ())
def E70 (f30 : T30) (f120 : T120) (f77 : T77) : Env := envL [(30, N30 f30), (120, N120 f120), (77, N77 f77)]
noncomputable def L70 (f30 : T30) (f120 : T120) (f77 : T77) : LEnv (densS (muts p70 ++ r70)) := lenv []
theorem e70 (f30 : T30) (f120 : T120) (f77 : T77) (a : densS p70) : runF (E70 f30 f120 f77) tab (fun _ => false) p70 r70 Proofs.Tryz.f70 (L70 f30 f120 f77) a = F70 f30 f120 f77 a := by kernel_rfl
theorem ok70 {f30 : T30} {f120 : T120} {f77 : T77} (h30 : OK Proofs.Tryz.prog 30 (N30 f30)) (h120 : OK Proofs.Tryz.prog 120 (N120 f120)) (h77 : OK Proofs.Tryz.prog 77 (N77 f77)) : OK Proofs.Tryz.prog 70 (mkE p70 r70 true (F70 f30 f120 f77)) :=
  fn_ok (E := E70 f30 f120 f77) tab_ok (envL_ok (OKs.cons h30 (OKs.cons h120 (OKs.cons h77 OKs.nil)))) mixed (ann := (fun _ => false)) (L := L70 f30 f120 f77) (fn := Proofs.Tryz.f70) (c := bodyC Proofs.Tryz.f70) (ls := []) Proofs.Tryz.func70 (by kernel_rfl) (by kernel_rfl) (by kernel_rfl) (by kernel_rfl)
    LoopsP.nil (e70 f30 f120 f77)
/-! spec.CompareCues -/
def p100 : List SP := [.t .cue, .t .cue]
def r100 : List SP := [.one (.int .i64)]
abbrev T100 := Cue × Cue × Unit → Option (Int × Unit)
abbrev N100 (f : T100) : Entry := mkE p100 r100 false f
noncomputable def F100 (a : Cue × Cue × Unit) : Option (Int × Unit) :=
  cond (decide (a.1.Tick < a.2.1.Tick)) (cond (decide (a.1.Tick < a.2.1.Tick)) (some ((-1), ())) (cond (decide (a.1.Tick = a.2.1.Tick)) (cond (decide (a.1.Name = a.2.1.Name)) (some (0, ())) (some (1, ()))) (some (1, ())))) (cond (decide (a.1.Tick = a.2.1.Tick)) (cond (Op.bytesLess a.1.Name a.2.1.Name) (some ((-1), ())) (cond (decide (a.1.Tick = a.2.1.Tick)) (cond (decide (a.1.Name = a.2.1.Name)) (some (0, ())) (some (1, ()))) (some (1, ())))) (cond (decide (a.1.Tick = a.2.1.Tick)) (cond (decide (a.1.Name = a.2.1.Name)) (some (0, ())) (some (1, ()))) (some (1, ()))))
def E100 : Env := envL []
noncomputable def L100 : LEnv (densS (muts p100 ++ r100)) := lenv []
theorem e100 (a : densS p100) : runF (E100) tab (fun _ => false) p100 r100 Proofs.Tryz.f100 (L100) a = F100 a := by kernel_rfl
theorem ok100 : OK Proofs.Tryz.prog 100 (mkE p100 r100 false (F100)) :=
  fn_ok (E := E100) tab_ok (envL_ok OKs.nil) mixed (ann := (fun _ => false)) (L := L100) (fn := Proofs.Tryz.f100) (c := bodyC Proofs.Tryz.f100) (ls := []) Proofs.Tryz.func100 (by kernel_rfl) (by kernel_rfl) (by kernel_rfl) (by kernel_rfl)
    LoopsP.nil (e100)
/-! spec.l7Copies -/
def p122 : List SP := [.one (.r .cue)]
def r122 : List SP := [.one (.o 0 .cue)]
abbrev T122 := List Cue × Unit → Option (List Cue × Unit)
abbrev N122 (f : T122) : Entry := mkE p122 r122 false f
noncomputable def F122 (a : List Cue × Unit) : Option (List Cue × Unit) :=
  capK (List.length ([] : List Cue) + List.length a.1) (some ((([] : List Cue) ++ a.1), ()))
def E122 : Env := envL []
noncomputable def L122 : LEnv (densS (muts p122 ++ r122)) := lenv []
theorem e122 (a : densS p122) : runF (E122) tab (fun _ => false) p122 r122 Proofs.Tryz.f122 (L122) a = F122 a := by kernel_rfl
theorem ok122 : OK Proofs.Tryz.prog 122 (mkE p122 r122 false (F122)) :=
  fn_ok (E := E122) tab_ok (envL_ok OKs.nil) mixed (ann := (fun _ => false)) (L := L122) (fn := Proofs.Tryz.f122) (c := bodyC Proofs.Tryz.f122) (ls := []) Proofs.Tryz.func122 (by kernel_rfl) (by kernel_rfl) (by kernel_rfl) (by kernel_rfl)
    LoopsP.nil (e122)
/-! spec.l7Put -/
def p121 : List SP := [.one (.r .cue), .t .cue]
def r121 : List SP := [.one (.o 0 .cue), .one (.bool)]
abbrev T121 := List Cue × Cue × Unit → Option (List Cue × Bool × Unit)
abbrev N121 (f : T121) : Entry := mkE p121 r121 false f
def q121_0 : List SP := pat 50 0 [(0, .one (.r .cue)), (3, .boxt 5000001 .cue), (6, .one (.int .i64))]
noncomputable def s121_0 (f100 : T100) (f122 : T122) (t1 : List Cue × Cue × Int × Unit) (rec K : List Cue × Cue × Int × Unit → Option (List Cue × Bool × Unit)) : Option (List Cue × Bool × Unit) :=
  cond (decide (t1.2.2.1 < (Int.ofNat (List.length t1.1)))) (rdL t1.1 t1.2.2.1 fun d2 => (f100 (d2, t1.2.1, ())).bind fun x3 => cond (decide (x3.1 < 0)) (rec (t1.1, t1.2.1, (w64 (t1.2.2.1 + 1)), ())) (K (t1.1, t1.2.1, t1.2.2.1, ()))) (K (t1.1, t1.2.1, t1.2.2.1, ()))
noncomputable def F121 (f100 : T100) (f122 : T122) (a : List Cue × Cue × Unit) : Option (List Cue × Bool × Unit) :=
  iterF (s121_0 f100 f122) fuel (a.1, a.2.1, 0, ()) fun t4 => cond (decide (t4.2.2.1 < (Int.ofNat (List.length t4.1)))) (rdL t4.1 t4.2.2.1 fun d5 => (f100 (d5, t4.2.1, ())).bind fun x6 => cond (decide (x6.1 = 0)) ((f122 (t4.1, ())).bind fun x7 => some (x7.1, false, ())) (okIf ((0 : Int) ≤ t4.2.2.1 ∧ (t4.2.2.1 : Int) ≤ List.length t4.1) ((f122 ((List.take (Int.toNat t4.2.2.1) t4.1), ())).bind fun x8 => capK (List.length x8.1 + List.length ([t4.2.1] : List Cue)) (okIf ((0 : Int) ≤ t4.2.2.1 ∧ (t4.2.2.1 : Int) ≤ List.length t4.1) (capK (List.length (x8.1 ++ ([t4.2.1] : List Cue)) + List.length (List.drop (Int.toNat t4.2.2.1) t4.1)) (some (((x8.1 ++ ([t4.2.1] : List Cue)) ++ (List.drop (Int.toNat t4.2.2.1) t4.1)), true, ()))))))) (okIf ((0 : Int) ≤ t4.2.2.1 ∧ (t4.2.2.1 : Int) ≤ List.length t4.1) ((f122 ((List.take (Int.toNat t4.2.2.1) t4.1), ())).bind fun x9 => capK (List.length x9.1 + List.length ([t4.2.1] : List Cue)) (okIf ((0 : Int) ≤ t4.2.2.1 ∧ (t4.2.2.1 : Int) ≤ List.length t4.1) (capK (List.length (x9.1 ++ ([t4.2.1] : List Cue)) + List.length (List.drop (Int.toNat t4.2.2.1) t4.1)) (some (((x9.1 ++ ([t4.2.1] : List Cue)) ++ (List.drop (Int.toNat t4.2.2.1) t4.1)), true, ()))))))
def E121 (f100 : T100) (f122 : T122) : Env := envL [(100, N100 f100), (122, N122 f122)]
noncomputable def L121 (f100 : T100) (f122 : T122) : LEnv (densS (muts p121 ++ r121)) := lenv [(0, loopL (R := densS (muts p121 ++ r121)) q121_0 (s121_0 f100 f122))]
theorem e121_0 (f100 : T100) (f122 : T122) (X : Nat → St → Option (densS (muts p121 ++ r121))) (rec K : densS q121_0 → Option (densS (muts p121 ++ r121))) (t : densS q121_0) :
    ev (E121 f100 f122) tab (fun _ => false) (L121 f100 f122) (retK tab p121 r121 Proofs.Tryz.f121.results.toList) (loopC Proofs.Tryz.f121 0) (fun i s => cond (Nat.beq i 0) (decK 100 q121_0 s K) (X i s)) (fun s => decK 100 q121_0 s rec) (enc q121_0 t) = s121_0 f100 f122 t rec K := by kernel_rfl
theorem e121 (f100 : T100) (f122 : T122) (a : densS p121) : runF (E121 f100 f122) tab (fun _ => false) p121 r121 Proofs.Tryz.f121 (L121 f100 f122) a = F121 f100 f122 a := by kernel_rfl
theorem ok121 {f100 : T100} {f122 : T122} (h100 : OK Proofs.Tryz.prog 100 (N100 f100)) (h122 : OK Proofs.Tryz.prog 122 (N122 f122)) : OK Proofs.Tryz.prog 121 (mkE p121 r121 false (F121 f100 f122)) :=
  fn_ok (E := E121 f100 f122) tab_ok (envL_ok (OKs.cons h100 (OKs.cons h122 OKs.nil))) mixed (ann := (fun _ => false)) (L := L121 f100 f122) (fn := Proofs.Tryz.f121) (c := bodyC Proofs.Tryz.f121) (ls := [(0, loopC Proofs.Tryz.f121 0)]) Proofs.Tryz.func121 (by kernel_rfl) (by kernel_rfl) (by kernel_rfl) (by kernel_rfl)
    (LoopsP.cons q121_0 (s121_0 f100 f122) rfl (e121_0 f100 f122) LoopsP.nil) (e121 f100 f122)
/-! spec.IsCue -/
def p99 : List SP := [.t .cue]
def r99 : List SP := [.one (.bool)]
abbrev T99 := Cue × Unit → Option (Bool × Unit)
abbrev N99 (f : T99) : Entry := mkE p99 r99 false f
noncomputable def F99 (f52 : T52) (f143 : T143) (a : Cue × Unit) : Option (Bool × Unit) :=
  (f52 (a.1.Tick, 0, 64, ())).bind fun x1 => cond x1.1 ((f143 (a.1.Name, ())).bind fun x2 => cond x2.1 ((f52 (a.1.Level, 0, 32, ())).bind fun x3 => cond x3.1 ((f52 (a.1.Ramp, 0, 16, ())).bind fun x4 => some (x4.1, ())) (some (false, ()))) (some (false, ()))) (some (false, ()))
def E99 (f52 : T52) (f143 : T143) : Env := envL [(52, N52 f52), (143, N143 f143)]
noncomputable def L99 (f52 : T52) (f143 : T143) : LEnv (densS (muts p99 ++ r99)) := lenv []
theorem e99 (f52 : T52) (f143 : T143) (a : densS p99) : runF (E99 f52 f143) tab (fun _ => false) p99 r99 Proofs.Tryz.f99 (L99 f52 f143) a = F99 f52 f143 a := by kernel_rfl
theorem ok99 {f52 : T52} {f143 : T143} (h52 : OK Proofs.Tryz.prog 52 (N52 f52)) (h143 : OK Proofs.Tryz.prog 143 (N143 f143)) : OK Proofs.Tryz.prog 99 (mkE p99 r99 false (F99 f52 f143)) :=
  fn_ok (E := E99 f52 f143) tab_ok (envL_ok (OKs.cons h52 (OKs.cons h143 OKs.nil))) mixed (ann := (fun _ => false)) (L := L99 f52 f143) (fn := Proofs.Tryz.f99) (c := bodyC Proofs.Tryz.f99) (ls := []) Proofs.Tryz.func99 (by kernel_rfl) (by kernel_rfl) (by kernel_rfl) (by kernel_rfl)
    LoopsP.nil (e99 f52 f143)
/-! spec.IsScore -/
def p50 : List SP := [.one (.r .cue)]
def r50 : List SP := [.one (.bool)]
abbrev T50 := List Cue × Unit → Option (Bool × Unit)
abbrev N50 (f : T50) : Entry := mkE p50 r50 false f
def q50_0 : List SP := pat 33 0 [(0, .one (.r .cue)), (5, .one (.r .cue)), (6, .one (.int .i64)), (7, .one (.int .i64))]
noncomputable def s50_0 (f99 : T99) (f100 : T100) (t1 : List Cue × List Cue × Int × Int × Unit) (rec K : List Cue × List Cue × Int × Int × Unit → Option (Bool × Unit)) : Option (Bool × Unit) :=
  cond (decide (t1.2.2.2.1 < t1.2.2.1)) (rdL t1.2.1 t1.2.2.2.1 fun d2 => (f99 (d2, ())).bind fun x3 => cond (!(!x3.1)) (cond (decide (t1.2.2.2.1 > 0)) (rdL t1.1 (w64 (t1.2.2.2.1 - 1)) fun d4 => (f100 (d4, d2, ())).bind fun x5 => cond (decide (x5.1 ≥ 0)) (some (false, ())) (rec (t1.1, t1.2.1, t1.2.2.1, (w64 (t1.2.2.2.1 + 1)), ()))) (rec (t1.1, t1.2.1, t1.2.2.1, (w64 (t1.2.2.2.1 + 1)), ()))) (some (false, ()))) (K (t1.1, t1.2.1, t1.2.2.1, t1.2.2.2.1, ()))
noncomputable def F50 (f99 : T99) (f100 : T100) (a : List Cue × Unit) : Option (Bool × Unit) :=
  iterF (s50_0 f99 f100) fuel (a.1, a.1, (Int.ofNat (List.length a.1)), 0, ()) fun t6 => some ((decide ((Int.ofNat (List.length t6.1)) ≤ 12)), ())
def E50 (f99 : T99) (f100 : T100) : Env := envL [(99, N99 f99), (100, N100 f100)]
noncomputable def L50 (f99 : T99) (f100 : T100) : LEnv (densS (muts p50 ++ r50)) := lenv [(0, loopL (R := densS (muts p50 ++ r50)) q50_0 (s50_0 f99 f100))]
theorem e50_0 (f99 : T99) (f100 : T100) (X : Nat → St → Option (densS (muts p50 ++ r50))) (rec K : densS q50_0 → Option (densS (muts p50 ++ r50))) (t : densS q50_0) :
    ev (E50 f99 f100) tab (fun _ => false) (L50 f99 f100) (retK tab p50 r50 Proofs.Tryz.f50.results.toList) (loopC Proofs.Tryz.f50 0) (fun i s => cond (Nat.beq i 0) (decK 100 q50_0 s K) (X i s)) (fun s => decK 100 q50_0 s rec) (enc q50_0 t) = s50_0 f99 f100 t rec K := by kernel_rfl
theorem e50 (f99 : T99) (f100 : T100) (a : densS p50) : runF (E50 f99 f100) tab (fun _ => false) p50 r50 Proofs.Tryz.f50 (L50 f99 f100) a = F50 f99 f100 a := by kernel_rfl
theorem ok50 {f99 : T99} {f100 : T100} (h99 : OK Proofs.Tryz.prog 99 (N99 f99)) (h100 : OK Proofs.Tryz.prog 100 (N100 f100)) : OK Proofs.Tryz.prog 50 (mkE p50 r50 false (F50 f99 f100)) :=
  fn_ok (E := E50 f99 f100) tab_ok (envL_ok (OKs.cons h99 (OKs.cons h100 OKs.nil))) mixed (ann := (fun _ => false)) (L := L50 f99 f100) (fn := Proofs.Tryz.f50) (c := bodyC Proofs.Tryz.f50) (ls := [(0, loopC Proofs.Tryz.f50 0)]) Proofs.Tryz.func50 (by kernel_rfl) (by kernel_rfl) (by kernel_rfl) (by kernel_rfl)
    (LoopsP.cons q50_0 (s50_0 f99 f100) rfl (e50_0 f99 f100) LoopsP.nil) (e50 f99 f100)
/-! spec.AddCue -/
def p71 : List SP := [.one (.r .cue), .t .cue]
def r71 : List SP := [.one (.o 0 .cue), .one (.bool)]
abbrev T71 := List Cue × Cue × Unit → Option (List Cue × Bool × Unit)
abbrev N71 (f : T71) : Entry := mkE p71 r71 false f
noncomputable def F71 (f121 : T121) (f50 : T50) (f99 : T99) (f122 : T122) (a : List Cue × Cue × Unit) : Option (List Cue × Bool × Unit) :=
  (f121 (a.1, a.2.1, ())).bind fun x1 => (f50 (a.1, ())).bind fun x2 => cond (!(!x2.1)) ((f99 (a.2.1, ())).bind fun x3 => cond (!(!x3.1)) (cond (!(!x1.2.1)) (cond (decide ((Int.ofNat (List.length a.1)) = 12)) ((f122 (a.1, ())).bind fun x4 => some (x4.1, false, ())) (some (x1.1, true, ()))) ((f122 (a.1, ())).bind fun x5 => some (x5.1, false, ()))) ((f122 (a.1, ())).bind fun x6 => some (x6.1, false, ()))) ((f122 (a.1, ())).bind fun x7 => some (x7.1, false, ()))
def E71 (f121 : T121) (f50 : T50) (f99 : T99) (f122 : T122) : Env := envL [(121, N121 f121), (50, N50 f50), (99, N99 f99), (122, N122 f122)]
noncomputable def L71 (f121 : T121) (f50 : T50) (f99 : T99) (f122 : T122) : LEnv (densS (muts p71 ++ r71)) := lenv []
theorem e71 (f121 : T121) (f50 : T50) (f99 : T99) (f122 : T122) (a : densS p71) : runF (E71 f121 f50 f99 f122) tab (fun _ => false) p71 r71 Proofs.Tryz.f71 (L71 f121 f50 f99 f122) a = F71 f121 f50 f99 f122 a := by kernel_rfl
theorem ok71 {f121 : T121} {f50 : T50} {f99 : T99} {f122 : T122} (h121 : OK Proofs.Tryz.prog 121 (N121 f121)) (h50 : OK Proofs.Tryz.prog 50 (N50 f50)) (h99 : OK Proofs.Tryz.prog 99 (N99 f99)) (h122 : OK Proofs.Tryz.prog 122 (N122 f122)) : OK Proofs.Tryz.prog 71 (mkE p71 r71 false (F71 f121 f50 f99 f122)) :=
  fn_ok (E := E71 f121 f50 f99 f122) tab_ok (envL_ok (OKs.cons h121 (OKs.cons h50 (OKs.cons h99 (OKs.cons h122 OKs.nil))))) mixed (ann := (fun _ => false)) (L := L71 f121 f50 f99 f122) (fn := Proofs.Tryz.f71) (c := bodyC Proofs.Tryz.f71) (ls := []) Proofs.Tryz.func71 (by kernel_rfl) (by kernel_rfl) (by kernel_rfl) (by kernel_rfl)
    LoopsP.nil (e71 f121 f50 f99 f122)
/-! spec.l9Draw -/
def p29 : List SP := [.box 0 [.r .u8, .int .i64, .int .i64]]
def r29 : List SP := [.agg [.o 1 .device, .o 2 .cue, .o 3 .gust, .int .i64]]
abbrev T29 := CuD × Unit → Option (CuD × ShD × Unit)
abbrev N29 (f : T29) : Entry := mkE p29 r29 true f
def q29_0 : List SP := pat 33 0 [(0, .box 0 [.r .u8, .int .i64, .int .i64]), (2, .box 5000001 [.o 5000002 .device, .o 5000003 .cue, .o 5000004 .gust, .int .i64]), (3, .box 5000005 [.o 5000006 .device, .o 5000007 .cue, .o 5000008 .gust, .int .i64]), (4, .one (.int .i64))]
noncomputable def s29_0 (f68 : T68) (f69 : T69) (f30 : T30) (f70 : T70) (f71 : T71) (t5 : CuD × ShD × ShD × Int × Unit) (rec K : CuD × ShD × ShD × Int × Unit → Option (CuD × ShD × Unit)) : Option (CuD × ShD × Unit) :=
  cond (decide (t5.2.2.2.1 > 0)) ((f70 ((t5.1.1, t5.1.2.1, t5.1.2.2.1, ()), ())).bind fun x6 => (f30 ((x6.1.1, x6.1.2.1, x6.1.2.2.1, ()), 8, ())).bind fun x7 => (f71 (t5.2.2.1.2.1, (⟨x7.2.1, x6.2.1.Name, x6.2.1.Level, x6.2.1.Ramp⟩ : Cue), ())).bind fun x8 => rec ((x7.1.1, x7.1.2.1, x7.1.2.2.1, ()), (t5.2.1.1, t5.2.1.2.1, t5.2.1.2.2.1, t5.2.1.2.2.2.1, ()), (t5.2.2.1.1, x8.1, t5.2.2.1.2.2.1, t5.2.2.1.2.2.2.1, ()), (w64 (t5.2.2.2.1 - 1)), ())) (K ((t5.1.1, t5.1.2.1, t5.1.2.2.1, ()), (t5.2.1.1, t5.2.1.2.1, t5.2.1.2.2.1, t5.2.1.2.2.2.1, ()), (t5.2.2.1.1, t5.2.2.1.2.1, t5.2.2.1.2.2.1, t5.2.2.1.2.2.2.1, ()), t5.2.2.2.1, ()))
noncomputable def F29 (f68 : T68) (f69 : T69) (f30 : T30) (f70 : T70) (f71 : T71) (a : CuD × Unit) : Option (CuD × ShD × Unit) :=
  (f68 ((a.1.1, a.1.2.1, a.1.2.2.1, ()), ())).bind fun x1 => (f69 ((x1.1.1, x1.1.2.1, x1.1.2.2.1, ()), ())).bind fun x2 => (f30 ((x2.1.1, x2.1.2.1, x2.1.2.2.1, ()), 14, ())).bind fun x3 => (f30 ((x3.1.1, x3.1.2.1, x3.1.2.2.1, ()), 6, ())).bind fun x4 => iterF (s29_0 f68 f69 f30 f70 f71) fuel ((x4.1.1, x4.1.2.1, x4.1.2.2.1, ()), ([], [], [], 0, ()), (x1.2.1, [], x2.2.1, x3.2.1, ()), x4.2.1, ()) fun t9 => some ((t9.1.1, t9.1.2.1, t9.1.2.2.1, ()), (t9.2.2.1.1, t9.2.2.1.2.1, t9.2.2.1.2.2.1, t9.2.2.1.2.2.2.1, ()), ())
def E29 (f68 : T68) (f69 : T69) (f30 : T30) (f70 : T70) (f71 : T71) : Env := envL [(68, N68 f68), (69, N69 f69), (30, N30 f30), (70, N70 f70), (71, N71 f71)]
noncomputable def L29 (f68 : T68) (f69 : T69) (f30 : T30) (f70 : T70) (f71 : T71) : LEnv (densS (muts p29 ++ r29)) := lenv [(0, loopL (R := densS (muts p29 ++ r29)) q29_0 (s29_0 f68 f69 f30 f70 f71))]
theorem e29_0 (f68 : T68) (f69 : T69) (f30 : T30) (f70 : T70) (f71 : T71) (X : Nat → St → Option (densS (muts p29 ++ r29))) (rec K : densS q29_0 → Option (densS (muts p29 ++ r29))) (t : densS q29_0) :
    ev (E29 f68 f69 f30 f70 f71) tab (fun _ => false) (L29 f68 f69 f30 f70 f71) (retK tab p29 r29 Proofs.Tryz.f29.results.toList) (loopC Proofs.Tryz.f29 0) (fun i s => cond (Nat.beq i 0) (decK 100 q29_0 s K) (X i s)) (fun s => decK 100 q29_0 s rec) (enc q29_0 t) = s29_0 f68 f69 f30 f70 f71 t rec K := by kernel_rfl
theorem e29 (f68 : T68) (f69 : T69) (f30 : T30) (f70 : T70) (f71 : T71) (a : densS p29) : runF (E29 f68 f69 f30 f70 f71) tab (fun _ => false) p29 r29 Proofs.Tryz.f29 (L29 f68 f69 f30 f70 f71) a = F29 f68 f69 f30 f70 f71 a := by kernel_rfl
theorem ok29 {f68 : T68} {f69 : T69} {f30 : T30} {f70 : T70} {f71 : T71} (h68 : OK Proofs.Tryz.prog 68 (N68 f68)) (h69 : OK Proofs.Tryz.prog 69 (N69 f69)) (h30 : OK Proofs.Tryz.prog 30 (N30 f30)) (h70 : OK Proofs.Tryz.prog 70 (N70 f70)) (h71 : OK Proofs.Tryz.prog 71 (N71 f71)) : OK Proofs.Tryz.prog 29 (mkE p29 r29 true (F29 f68 f69 f30 f70 f71)) :=
  fn_ok (E := E29 f68 f69 f30 f70 f71) tab_ok (envL_ok (OKs.cons h68 (OKs.cons h69 (OKs.cons h30 (OKs.cons h70 (OKs.cons h71 OKs.nil)))))) mixed (ann := (fun _ => false)) (L := L29 f68 f69 f30 f70 f71) (fn := Proofs.Tryz.f29) (c := bodyC Proofs.Tryz.f29) (ls := [(0, loopC Proofs.Tryz.f29 0)]) Proofs.Tryz.func29 (by kernel_rfl) (by kernel_rfl) (by kernel_rfl) (by kernel_rfl)
    (LoopsP.cons q29_0 (s29_0 f68 f69 f30 f70 f71) rfl (e29_0 f68 f69 f30 f70 f71) LoopsP.nil) (e29 f68 f69 f30 f70 f71)
/-! spec.ComparePlaces -/
def p106 : List SP := [.t .place, .t .place]
def r106 : List SP := [.one (.int .i64)]
abbrev T106 := Place × Place × Unit → Option (Int × Unit)
abbrev N106 (f : T106) : Entry := mkE p106 r106 false f
noncomputable def F106 (a : Place × Place × Unit) : Option (Int × Unit) :=
  cond (decide (a.1.X < a.2.1.X)) (cond (decide (a.1.X < a.2.1.X)) (some ((-1), ())) (cond (decide (a.1.X = a.2.1.X) && (decide (a.1.Y = a.2.1.Y) && true)) (some (0, ())) (some (1, ())))) (cond (decide (a.1.X = a.2.1.X)) (cond (decide (a.1.Y < a.2.1.Y)) (some ((-1), ())) (cond (decide (a.1.X = a.2.1.X) && (decide (a.1.Y = a.2.1.Y) && true)) (some (0, ())) (some (1, ())))) (cond (decide (a.1.X = a.2.1.X) && (decide (a.1.Y = a.2.1.Y) && true)) (some (0, ())) (some (1, ()))))
def E106 : Env := envL []
noncomputable def L106 : LEnv (densS (muts p106 ++ r106)) := lenv []
theorem e106 (a : densS p106) : runF (E106) tab (fun _ => false) p106 r106 Proofs.Tryz.f106 (L106) a = F106 a := by kernel_rfl
theorem ok106 : OK Proofs.Tryz.prog 106 (mkE p106 r106 false (F106)) :=
  fn_ok (E := E106) tab_ok (envL_ok OKs.nil) mixed (ann := (fun _ => false)) (L := L106) (fn := Proofs.Tryz.f106) (c := bodyC Proofs.Tryz.f106) (ls := []) Proofs.Tryz.func106 (by kernel_rfl) (by kernel_rfl) (by kernel_rfl) (by kernel_rfl)
    LoopsP.nil (e106)
/-! spec.SortedPlaces -/
def p103 : List SP := [.one (.r .place)]
def r103 : List SP := [.one (.o 0 .place)]
abbrev T103 := List Place × Unit → Option (List Place × Unit)
abbrev N103 (f : T103) : Entry := mkE p103 r103 false f
def q103_2 : List SP := pat 58 0 [(3, .one (.o 5002001 .place)), (5, .boxt 5002002 .place), (6, .one (.int .i64)), (9, .one (.r .place)), (10, .one (.int .i64)), (11, .one (.int .i64))]
noncomputable def s103_2 (f106 : T106) (t3 : List Place × Place × Int × List Place × Int × Int × Unit) (rec K : List Place × Place × Int × List Place × Int × Int × Unit → Option (List Place × Unit)) : Option (List Place × Unit) :=
  cond (decide (t3.2.2.1 < (Int.ofNat (List.length t3.1)))) (rdL t3.1 t3.2.2.1 fun _ => (t3.1[(Int.toNat t3.2.2.1)]?).bind fun d4 => (f106 (d4, t3.2.1, ())).bind fun x5 => cond (decide (x5.1 < 0)) (rec (t3.1, t3.2.1, (w64 (t3.2.2.1 + 1)), t3.2.2.2.1, t3.2.2.2.2.1, t3.2.2.2.2.2.1, ())) (K (t3.1, t3.2.1, t3.2.2.1, t3.2.2.2.1, t3.2.2.2.2.1, t3.2.2.2.2.2.1, ()))) (K (t3.1, t3.2.1, t3.2.2.1, t3.2.2.2.1, t3.2.2.2.2.1, t3.2.2.2.2.2.1, ()))
def q103_0 : List SP := pat 58 0 [(3, .one (.o 5000001 .place)), (9, .one (.r .place)), (10, .one (.int .i64)), (11, .one (.int .i64))]
noncomputable def s103_0 (f106 : T106) (t1 : List Place × List Place × Int × Int × Unit) (rec K : List Place × List Place × Int × Int × Unit → Option (List Place × Unit)) : Option (List Place × Unit) :=
  cond (decide (t1.2.2.2.1 < t1.2.2.1)) (rdL t1.2.1 t1.2.2.2.1 fun d2 => iterF (s103_2 f106) fuel (t1.1, d2, 0, t1.2.1, t1.2.2.1, t1.2.2.2.1, ()) fun t6 => cond (!(decide (t6.2.2.1 = (Int.ofNat (List.length t6.1))))) (rdL t6.1 t6.2.2.1 fun _ => (t6.1[(Int.toNat t6.2.2.1)]?).bind fun d7 => cond (!(decide (d7.X = t6.2.1.X) && (decide (d7.Y = t6.2.1.Y) && true))) (okIf ((0 : Int) ≤ t6.2.2.1 ∧ (t6.2.2.1 : Int) ≤ List.length t6.1) (capK (List.length ([] : List Place) + List.length (List.drop 0 (List.take (Int.toNat t6.2.2.1) t6.1))) (capK (List.length (([] : List Place) ++ (List.drop 0 (List.take (Int.toNat t6.2.2.1) t6.1))) + List.length ([t6.2.1] : List Place)) (okIf ((0 : Int) ≤ t6.2.2.1 ∧ (t6.2.2.1 : Int) ≤ List.length t6.1) (capK (List.length ((([] : List Place) ++ (List.drop 0 (List.take (Int.toNat t6.2.2.1) t6.1))) ++ ([t6.2.1] : List Place)) + List.length (List.drop (Int.toNat t6.2.2.1) (List.take (List.length t6.1) t6.1))) (rec ((((([] : List Place) ++ (List.drop 0 (List.take (Int.toNat t6.2.2.1) t6.1))) ++ ([t6.2.1] : List Place)) ++ (List.drop (Int.toNat t6.2.2.1) (List.take (List.length t6.1) t6.1))), t6.2.2.2.1, t6.2.2.2.2.1, (w64 (t6.2.2.2.2.2.1 + 1)), ()))))))) (rec (t6.1, t6.2.2.2.1, t6.2.2.2.2.1, (w64 (t6.2.2.2.2.2.1 + 1)), ()))) (okIf ((0 : Int) ≤ t6.2.2.1 ∧ (t6.2.2.1 : Int) ≤ List.length t6.1) (capK (List.length ([] : List Place) + List.length (List.drop 0 (List.take (Int.toNat t6.2.2.1) t6.1))) (capK (List.length (([] : List Place) ++ (List.drop 0 (List.take (Int.toNat t6.2.2.1) t6.1))) + List.length ([t6.2.1] : List Place)) (okIf ((0 : Int) ≤ t6.2.2.1 ∧ (t6.2.2.1 : Int) ≤ List.length t6.1) (capK (List.length ((([] : List Place) ++ (List.drop 0 (List.take (Int.toNat t6.2.2.1) t6.1))) ++ ([t6.2.1] : List Place)) + List.length (List.drop (Int.toNat t6.2.2.1) (List.take (List.length t6.1) t6.1))) (rec ((((([] : List Place) ++ (List.drop 0 (List.take (Int.toNat t6.2.2.1) t6.1))) ++ ([t6.2.1] : List Place)) ++ (List.drop (Int.toNat t6.2.2.1) (List.take (List.length t6.1) t6.1))), t6.2.2.2.1, t6.2.2.2.2.1, (w64 (t6.2.2.2.2.2.1 + 1)), ())))))))) (K (t1.1, t1.2.1, t1.2.2.1, t1.2.2.2.1, ()))
noncomputable def F103 (f106 : T106) (a : List Place × Unit) : Option (List Place × Unit) :=
  iterF (s103_0 f106) fuel (([] : List Place), a.1, (Int.ofNat (List.length a.1)), 0, ()) fun t8 => some (t8.1, ())
def E103 (f106 : T106) : Env := envL [(106, N106 f106)]
noncomputable def L103 (f106 : T106) : LEnv (densS (muts p103 ++ r103)) := lenv [(0, loopL (R := densS (muts p103 ++ r103)) q103_0 (s103_0 f106)), (2, loopL (R := densS (muts p103 ++ r103)) q103_2 (s103_2 f106))]
theorem e103_0 (f106 : T106) (X : Nat → St → Option (densS (muts p103 ++ r103))) (rec K : densS q103_0 → Option (densS (muts p103 ++ r103))) (t : densS q103_0) :
    ev (E103 f106) tab (fun _ => false) (L103 f106) (retK tab p103 r103 Proofs.Tryz.f103.results.toList) (loopC Proofs.Tryz.f103 0) (fun i s => cond (Nat.beq i 0) (decK 100 q103_0 s K) (X i s)) (fun s => decK 100 q103_0 s rec) (enc q103_0 t) = s103_0 f106 t rec K := by kernel_rfl
theorem e103_2 (f106 : T106) (X : Nat → St → Option (densS (muts p103 ++ r103))) (rec K : densS q103_2 → Option (densS (muts p103 ++ r103))) (t : densS q103_2) :
    ev (E103 f106) tab (fun _ => false) (L103 f106) (retK tab p103 r103 Proofs.Tryz.f103.results.toList) (loopC Proofs.Tryz.f103 1) (fun i s => cond (Nat.beq i 2) (decK 100 q103_2 s K) (X i s)) (fun s => decK 100 q103_2 s rec) (enc q103_2 t) = s103_2 f106 t rec K := by kernel_rfl
theorem e103 (f106 : T106) (a : densS p103) : runF (E103 f106) tab (fun _ => false) p103 r103 Proofs.Tryz.f103 (L103 f106) a = F103 f106 a := by kernel_rfl
theorem ok103 {f106 : T106} (h106 : OK Proofs.Tryz.prog 106 (N106 f106)) : OK Proofs.Tryz.prog 103 (mkE p103 r103 false (F103 f106)) :=
  fn_ok (E := E103 f106) tab_ok (envL_ok (OKs.cons h106 OKs.nil)) mixed (ann := (fun _ => false)) (L := L103 f106) (fn := Proofs.Tryz.f103) (c := bodyC Proofs.Tryz.f103) (ls := [(0, loopC Proofs.Tryz.f103 0), (2, loopC Proofs.Tryz.f103 1)]) Proofs.Tryz.func103 (by kernel_rfl) (by kernel_rfl) (by kernel_rfl) (by kernel_rfl)
    (LoopsP.cons q103_0 (s103_0 f106) rfl (e103_0 f106) (LoopsP.cons q103_2 (s103_2 f106) rfl (e103_2 f106) LoopsP.nil)) (e103 f106)
/-! spec.l4Rose -/
def p53 : List SP := [.box 0 [.r .u8, .int .i64, .int .i64]]
def r53 : List SP := [.one (.o 1 .place)]
abbrev T53 := CuD × Unit → Option (CuD × List Place × Unit)
abbrev N53 (f : T53) : Entry := mkE p53 r53 true f
def q53_0 : List SP := pat 20 0 [(0, .box 0 [.r .u8, .int .i64, .int .i64]), (3, .one (.o 5000001 .place)), (4, .one (.int .i64))]
noncomputable def s53_0 (f30 : T30) (f102 : T102) (f103 : T103) (t2 : CuD × List Place × Int × Unit) (rec K : CuD × List Place × Int × Unit → Option (CuD × List Place × Unit)) : Option (CuD × List Place × Unit) :=
  cond (decide (t2.2.2.1 > 0)) ((f102 ((t2.1.1, t2.1.2.1, t2.1.2.2.1, ()), ())).bind fun x3 => capK (List.length t2.2.1 + List.length ([x3.2.1] : List Place)) (rec ((x3.1.1, x3.1.2.1, x3.1.2.2.1, ()), (t2.2.1 ++ ([x3.2.1] : List Place)), (w64 (t2.2.2.1 - 1)), ()))) (K ((t2.1.1, t2.1.2.1, t2.1.2.2.1, ()), t2.2.1, t2.2.2.1, ()))
noncomputable def F53 (f30 : T30) (f102 : T102) (f103 : T103) (a : CuD × Unit) : Option (CuD × List Place × Unit) :=
  (f30 ((a.1.1, a.1.2.1, a.1.2.2.1, ()), 4, ())).bind fun x1 => iterF (s53_0 f30 f102 f103) fuel ((x1.1.1, x1.1.2.1, x1.1.2.2.1, ()), ([] : List Place), (w64 (1 + x1.2.1)), ()) fun t4 => (f103 (t4.2.1, ())).bind fun x5 => some ((t4.1.1, t4.1.2.1, t4.1.2.2.1, ()), x5.1, ())
def E53 (f30 : T30) (f102 : T102) (f103 : T103) : Env := envL [(30, N30 f30), (102, N102 f102), (103, N103 f103)]
noncomputable def L53 (f30 : T30) (f102 : T102) (f103 : T103) : LEnv (densS (muts p53 ++ r53)) := lenv [(0, loopL (R := densS (muts p53 ++ r53)) q53_0 (s53_0 f30 f102 f103))]
theorem e53_0 (f30 : T30) (f102 : T102) (f103 : T103) (X : Nat → St → Option (densS (muts p53 ++ r53))) (rec K : densS q53_0 → Option (densS (muts p53 ++ r53))) (t : densS q53_0) :
    ev (E53 f30 f102 f103) tab (fun _ => false) (L53 f30 f102 f103) (retK tab p53 r53 Proofs.Tryz.f53.results.toList) (loopC Proofs.Tryz.f53 0) (fun i s => cond (Nat.beq i 0) (decK 100 q53_0 s K) (X i s)) (fun s => decK 100 q53_0 s rec) (enc q53_0 t) = s53_0 f30 f102 f103 t rec K := by kernel_rfl
theorem e53 (f30 : T30) (f102 : T102) (f103 : T103) (a : densS p53) : runF (E53 f30 f102 f103) tab (fun _ => false) p53 r53 Proofs.Tryz.f53 (L53 f30 f102 f103) a = F53 f30 f102 f103 a := by kernel_rfl
theorem ok53 {f30 : T30} {f102 : T102} {f103 : T103} (h30 : OK Proofs.Tryz.prog 30 (N30 f30)) (h102 : OK Proofs.Tryz.prog 102 (N102 f102)) (h103 : OK Proofs.Tryz.prog 103 (N103 f103)) : OK Proofs.Tryz.prog 53 (mkE p53 r53 true (F53 f30 f102 f103)) :=
  fn_ok (E := E53 f30 f102 f103) tab_ok (envL_ok (OKs.cons h30 (OKs.cons h102 (OKs.cons h103 OKs.nil)))) mixed (ann := (fun _ => false)) (L := L53 f30 f102 f103) (fn := Proofs.Tryz.f53) (c := bodyC Proofs.Tryz.f53) (ls := [(0, loopC Proofs.Tryz.f53 0)]) Proofs.Tryz.func53 (by kernel_rfl) (by kernel_rfl) (by kernel_rfl) (by kernel_rfl)
    (LoopsP.cons q53_0 (s53_0 f30 f102 f103) rfl (e53_0 f30 f102 f103) LoopsP.nil) (e53 f30 f102 f103)
/-! spec.l4Drift -/
def p101 : List SP := [.t .place]
def r101 : List SP := [.one (.bool)]
abbrev T101 := Place × Unit → Option (Bool × Unit)
abbrev N101 (f : T101) : Entry := mkE p101 r101 false f
noncomputable def F101 (f52 : T52) (a : Place × Unit) : Option (Bool × Unit) :=
  (f52 (a.1.X, (-8), 8, ())).bind fun x1 => cond x1.1 ((f52 (a.1.Y, (-8), 8, ())).bind fun x2 => some (x2.1, ())) (some (false, ()))
def E101 (f52 : T52) : Env := envL [(52, N52 f52)]
noncomputable def L101 (f52 : T52) : LEnv (densS (muts p101 ++ r101)) := lenv []
theorem e101 (f52 : T52) (a : densS p101) : runF (E101 f52) tab (fun _ => false) p101 r101 Proofs.Tryz.f101 (L101 f52) a = F101 f52 a := by kernel_rfl
theorem ok101 {f52 : T52} (h52 : OK Proofs.Tryz.prog 52 (N52 f52)) : OK Proofs.Tryz.prog 101 (mkE p101 r101 false (F101 f52)) :=
  fn_ok (E := E101 f52) tab_ok (envL_ok (OKs.cons h52 OKs.nil)) mixed (ann := (fun _ => false)) (L := L101 f52) (fn := Proofs.Tryz.f101) (c := bodyC Proofs.Tryz.f101) (ls := []) Proofs.Tryz.func101 (by kernel_rfl) (by kernel_rfl) (by kernel_rfl) (by kernel_rfl)
    LoopsP.nil (e101 f52)
/-! spec.IsWind -/
def p51 : List SP := [.one (.r .gust)]
def r51 : List SP := [.one (.bool)]
abbrev T51 := List Gust × Unit → Option (Bool × Unit)
abbrev N51 (f : T51) : Entry := mkE p51 r51 false f
def q51_0 : List SP := pat 41 0 [(0, .one (.r .gust)), (5, .one (.r .gust)), (6, .one (.int .i64)), (7, .one (.int .i64))]
noncomputable def s51_0 (f52 : T52) (f101 : T101) (t1 : List Gust × List Gust × Int × Int × Unit) (rec K : List Gust × List Gust × Int × Int × Unit → Option (Bool × Unit)) : Option (Bool × Unit) :=
  cond (decide (t1.2.2.2.1 < t1.2.2.1)) (rdL t1.2.1 t1.2.2.2.1 fun d2 => (f52 (d2.From, 0, 64, ())).bind fun x3 => cond (!(!x3.1)) ((f101 (d2.Drift, ())).bind fun x4 => cond (!(!x4.1)) (cond (decide (t1.2.2.2.1 > 0)) (rdL t1.1 (w64 (t1.2.2.2.1 - 1)) fun d5 => cond (decide (d5.From ≥ d2.From)) (some (false, ())) (rec (t1.1, t1.2.1, t1.2.2.1, (w64 (t1.2.2.2.1 + 1)), ()))) (rec (t1.1, t1.2.1, t1.2.2.1, (w64 (t1.2.2.2.1 + 1)), ()))) (some (false, ()))) (some (false, ()))) (K (t1.1, t1.2.1, t1.2.2.1, t1.2.2.2.1, ()))
noncomputable def F51 (f52 : T52) (f101 : T101) (a : List Gust × Unit) : Option (Bool × Unit) :=
  iterF (s51_0 f52 f101) fuel (a.1, a.1, (Int.ofNat (List.length a.1)), 0, ()) fun t6 => some ((decide ((Int.ofNat (List.length t6.1)) ≤ 8)), ())
def E51 (f52 : T52) (f101 : T101) : Env := envL [(52, N52 f52), (101, N101 f101)]
noncomputable def L51 (f52 : T52) (f101 : T101) : LEnv (densS (muts p51 ++ r51)) := lenv [(0, loopL (R := densS (muts p51 ++ r51)) q51_0 (s51_0 f52 f101))]
theorem e51_0 (f52 : T52) (f101 : T101) (X : Nat → St → Option (densS (muts p51 ++ r51))) (rec K : densS q51_0 → Option (densS (muts p51 ++ r51))) (t : densS q51_0) :
    ev (E51 f52 f101) tab (fun _ => false) (L51 f52 f101) (retK tab p51 r51 Proofs.Tryz.f51.results.toList) (loopC Proofs.Tryz.f51 0) (fun i s => cond (Nat.beq i 0) (decK 100 q51_0 s K) (X i s)) (fun s => decK 100 q51_0 s rec) (enc q51_0 t) = s51_0 f52 f101 t rec K := by kernel_rfl
theorem e51 (f52 : T52) (f101 : T101) (a : densS p51) : runF (E51 f52 f101) tab (fun _ => false) p51 r51 Proofs.Tryz.f51 (L51 f52 f101) a = F51 f52 f101 a := by kernel_rfl
theorem ok51 {f52 : T52} {f101 : T101} (h52 : OK Proofs.Tryz.prog 52 (N52 f52)) (h101 : OK Proofs.Tryz.prog 101 (N101 f101)) : OK Proofs.Tryz.prog 51 (mkE p51 r51 false (F51 f52 f101)) :=
  fn_ok (E := E51 f52 f101) tab_ok (envL_ok (OKs.cons h52 (OKs.cons h101 OKs.nil))) mixed (ann := (fun _ => false)) (L := L51 f52 f101) (fn := Proofs.Tryz.f51) (c := bodyC Proofs.Tryz.f51) (ls := [(0, loopC Proofs.Tryz.f51 0)]) Proofs.Tryz.func51 (by kernel_rfl) (by kernel_rfl) (by kernel_rfl) (by kernel_rfl)
    (LoopsP.cons q51_0 (s51_0 f52 f101) rfl (e51_0 f52 f101) LoopsP.nil) (e51 f52 f101)
/-! spec.IsShow -/
def p16 : List SP := [.agg [.r .device, .r .cue, .r .gust, .int .i64]]
def r16 : List SP := [.one (.bool)]
abbrev T16 := ShD × Unit → Option (Bool × Unit)
abbrev N16 (f : T16) : Entry := mkE p16 r16 false f
noncomputable def F16 (f49 : T49) (f50 : T50) (f51 : T51) (f52 : T52) (a : ShD × Unit) : Option (Bool × Unit) :=
  (f49 (a.1.1, ())).bind fun x1 => cond x1.1 ((f50 (a.1.2.1, ())).bind fun x2 => cond x2.1 ((f51 (a.1.2.2.1, ())).bind fun x3 => cond x3.1 ((f52 (a.1.2.2.2.1, 0, 64, ())).bind fun x4 => some (x4.1, ())) (some (false, ()))) (some (false, ()))) (some (false, ()))
def E16 (f49 : T49) (f50 : T50) (f51 : T51) (f52 : T52) : Env := envL [(49, N49 f49), (50, N50 f50), (51, N51 f51), (52, N52 f52)]
noncomputable def L16 (f49 : T49) (f50 : T50) (f51 : T51) (f52 : T52) : LEnv (densS (muts p16 ++ r16)) := lenv []
theorem e16 (f49 : T49) (f50 : T50) (f51 : T51) (f52 : T52) (a : densS p16) : runF (E16 f49 f50 f51 f52) tab (fun _ => false) p16 r16 Proofs.Tryz.f16 (L16 f49 f50 f51 f52) a = F16 f49 f50 f51 f52 a := by kernel_rfl
theorem ok16 {f49 : T49} {f50 : T50} {f51 : T51} {f52 : T52} (h49 : OK Proofs.Tryz.prog 49 (N49 f49)) (h50 : OK Proofs.Tryz.prog 50 (N50 f50)) (h51 : OK Proofs.Tryz.prog 51 (N51 f51)) (h52 : OK Proofs.Tryz.prog 52 (N52 f52)) : OK Proofs.Tryz.prog 16 (mkE p16 r16 false (F16 f49 f50 f51 f52)) :=
  fn_ok (E := E16 f49 f50 f51 f52) tab_ok (envL_ok (OKs.cons h49 (OKs.cons h50 (OKs.cons h51 (OKs.cons h52 OKs.nil))))) mixed (ann := (fun _ => false)) (L := L16 f49 f50 f51 f52) (fn := Proofs.Tryz.f16) (c := bodyC Proofs.Tryz.f16) (ls := []) Proofs.Tryz.func16 (by kernel_rfl) (by kernel_rfl) (by kernel_rfl) (by kernel_rfl)
    LoopsP.nil (e16 f49 f50 f51 f52)
/-! spec.IsRose -/
def p60 : List SP := [.one (.r .place)]
def r60 : List SP := [.one (.bool)]
abbrev T60 := List Place × Unit → Option (Bool × Unit)
abbrev N60 (f : T60) : Entry := mkE p60 r60 false f
def q60_0 : List SP := pat 38 0 [(0, .one (.r .place)), (5, .one (.r .place)), (6, .one (.int .i64)), (7, .one (.int .i64))]
noncomputable def s60_0 (f101 : T101) (f106 : T106) (t1 : List Place × List Place × Int × Int × Unit) (rec K : List Place × List Place × Int × Int × Unit → Option (Bool × Unit)) : Option (Bool × Unit) :=
  cond (decide (t1.2.2.2.1 < t1.2.2.1)) (rdL t1.2.1 t1.2.2.2.1 fun d2 => (f101 (d2, ())).bind fun x3 => cond (!(!x3.1)) (cond (decide (t1.2.2.2.1 > 0)) (rdL t1.1 (w64 (t1.2.2.2.1 - 1)) fun d4 => (f106 (d4, d2, ())).bind fun x5 => cond (decide (x5.1 ≥ 0)) (some (false, ())) (rec (t1.1, t1.2.1, t1.2.2.1, (w64 (t1.2.2.2.1 + 1)), ()))) (rec (t1.1, t1.2.1, t1.2.2.1, (w64 (t1.2.2.2.1 + 1)), ()))) (some (false, ()))) (K (t1.1, t1.2.1, t1.2.2.1, t1.2.2.2.1, ()))
noncomputable def F60 (f101 : T101) (f106 : T106) (a : List Place × Unit) : Option (Bool × Unit) :=
  iterF (s60_0 f101 f106) fuel (a.1, a.1, (Int.ofNat (List.length a.1)), 0, ()) fun t6 => cond (decide ((Int.ofNat (List.length t6.1)) ≥ 1)) (some ((decide ((Int.ofNat (List.length t6.1)) ≤ 4)), ())) (some (false, ()))
def E60 (f101 : T101) (f106 : T106) : Env := envL [(101, N101 f101), (106, N106 f106)]
noncomputable def L60 (f101 : T101) (f106 : T106) : LEnv (densS (muts p60 ++ r60)) := lenv [(0, loopL (R := densS (muts p60 ++ r60)) q60_0 (s60_0 f101 f106))]
theorem e60_0 (f101 : T101) (f106 : T106) (X : Nat → St → Option (densS (muts p60 ++ r60))) (rec K : densS q60_0 → Option (densS (muts p60 ++ r60))) (t : densS q60_0) :
    ev (E60 f101 f106) tab (fun _ => false) (L60 f101 f106) (retK tab p60 r60 Proofs.Tryz.f60.results.toList) (loopC Proofs.Tryz.f60 0) (fun i s => cond (Nat.beq i 0) (decK 100 q60_0 s K) (X i s)) (fun s => decK 100 q60_0 s rec) (enc q60_0 t) = s60_0 f101 f106 t rec K := by kernel_rfl
theorem e60 (f101 : T101) (f106 : T106) (a : densS p60) : runF (E60 f101 f106) tab (fun _ => false) p60 r60 Proofs.Tryz.f60 (L60 f101 f106) a = F60 f101 f106 a := by kernel_rfl
theorem ok60 {f101 : T101} {f106 : T106} (h101 : OK Proofs.Tryz.prog 101 (N101 f101)) (h106 : OK Proofs.Tryz.prog 106 (N106 f106)) : OK Proofs.Tryz.prog 60 (mkE p60 r60 false (F60 f101 f106)) :=
  fn_ok (E := E60 f101 f106) tab_ok (envL_ok (OKs.cons h101 (OKs.cons h106 OKs.nil))) mixed (ann := (fun _ => false)) (L := L60 f101 f106) (fn := Proofs.Tryz.f60) (c := bodyC Proofs.Tryz.f60) (ls := [(0, loopC Proofs.Tryz.f60 0)]) Proofs.Tryz.func60 (by kernel_rfl) (by kernel_rfl) (by kernel_rfl) (by kernel_rfl)
    (LoopsP.cons q60_0 (s60_0 f101 f106) rfl (e60_0 f101 f106) LoopsP.nil) (e60 f101 f106)
/-! spec.l1Floor -/
def p191 : List SP := [.one (.int .i64), .one (.int .i64)]
def r191 : List SP := [.one (.int .i64)]
abbrev T191 := Int × Int × Unit → Option (Int × Unit)
abbrev N191 (f : T191) : Entry := mkE p191 r191 false f
noncomputable def F191 (a : Int × Int × Unit) : Option (Int × Unit) :=
  cond (decide (a.2.1 = 0)) none (cond (decide (a.2.1 = 0)) none (cond (decide ((Int.tmod a.1 a.2.1) < 0)) (some ((w64 ((w64 (Int.tdiv a.1 a.2.1)) - 1)), ())) (some ((w64 (Int.tdiv a.1 a.2.1)), ()))))
def E191 : Env := envL []
noncomputable def L191 : LEnv (densS (muts p191 ++ r191)) := lenv []
theorem e191 (a : densS p191) : runF (E191) tab (fun _ => false) p191 r191 Proofs.Tryz.f191 (L191) a = F191 a := by kernel_rfl
theorem ok191 : OK Proofs.Tryz.prog 191 (mkE p191 r191 false (F191)) :=
  fn_ok (E := E191) tab_ok (envL_ok OKs.nil) mixed (ann := (fun _ => false)) (L := L191) (fn := Proofs.Tryz.f191) (c := bodyC Proofs.Tryz.f191) (ls := []) Proofs.Tryz.func191 (by kernel_rfl) (by kernel_rfl) (by kernel_rfl) (by kernel_rfl)
    LoopsP.nil (e191)
/-! spec.RampAt -/
def p179 : List SP := [.one (.int .i64), .one (.int .i64), .one (.int .i64), .one (.int .i64)]
def r179 : List SP := [.one (.int .i64)]
abbrev T179 := Int × Int × Int × Int × Unit → Option (Int × Unit)
abbrev N179 (f : T179) : Entry := mkE p179 r179 false f
noncomputable def F179 (f141 : T141) (f191 : T191) (a : Int × Int × Int × Int × Unit) : Option (Int × Unit) :=
  (f141 (a.1, ())).bind fun x1 => cond (!(!x1.1)) ((f141 (a.2.1, ())).bind fun x2 => cond (!x2.1) (some (0, ())) (cond (decide (a.2.2.1 ≥ a.2.2.2.1)) (some (a.2.1, ())) (cond (!(decide (a.2.2.1 ≤ 0))) (cond (decide (a.2.2.2.1 > 999)) (some (a.1, ())) ((f191 ((w64 ((w64 (a.2.1 - a.1)) * a.2.2.1)), a.2.2.2.1, ())).bind fun x3 => some ((w64 (a.1 + x3.1)), ()))) (some (a.1, ()))))) (some (0, ()))
def E179 (f141 : T141) (f191 : T191) : Env := envL [(141, N141 f141), (191, N191 f191)]
noncomputable def L179 (f141 : T141) (f191 : T191) : LEnv (densS (muts p179 ++ r179)) := lenv []
theorem e179 (f141 : T141) (f191 : T191) (a : densS p179) : runF (E179 f141 f191) tab (fun _ => false) p179 r179 Proofs.Tryz.f179 (L179 f141 f191) a = F179 f141 f191 a := by kernel_rfl
theorem ok179 {f141 : T141} {f191 : T191} (h141 : OK Proofs.Tryz.prog 141 (N141 f141)) (h191 : OK Proofs.Tryz.prog 191 (N191 f191)) : OK Proofs.Tryz.prog 179 (mkE p179 r179 false (F179 f141 f191)) :=
  fn_ok (E := E179 f141 f191) tab_ok (envL_ok (OKs.cons h141 (OKs.cons h191 OKs.nil))) mixed (ann := (fun _ => false)) (L := L179 f141 f191) (fn := Proofs.Tryz.f179) (c := bodyC Proofs.Tryz.f179) (ls := []) Proofs.Tryz.func179 (by kernel_rfl) (by kernel_rfl) (by kernel_rfl) (by kernel_rfl)
    LoopsP.nil (e179 f141 f191)
/-! spec.l7Level -/
def p148 : List SP := [.one (.r .cue), .one (.str), .one (.int .i64)]
def r148 : List SP := [.one (.int .i64)]
abbrev T148 := List Cue × Str × Int × Unit → Option (Int × Unit)
abbrev N148 (f : T148) : Entry := mkE p148 r148 false f
def q148_0 : List SP := pat 51 0 [(1, .one (.str)), (2, .one (.int .i64)), (7, .one (.int .i64)), (8, .boxt 5000001 .cue), (12, .one (.r .cue)), (13, .one (.int .i64)), (14, .one (.int .i64))]
noncomputable def s148_0 (f179 : T179) (t1 : Str × Int × Int × Cue × List Cue × Int × Int × Unit) (rec K : Str × Int × Int × Cue × List Cue × Int × Int × Unit → Option (Int × Unit)) : Option (Int × Unit) :=
  cond (decide (t1.2.2.2.2.2.2.1 < t1.2.2.2.2.2.1)) (rdL t1.2.2.2.2.1 t1.2.2.2.2.2.2.1 fun d2 => cond (decide (d2.Name = t1.1)) (cond (decide (d2.Tick ≤ t1.2.1)) ((f179 (t1.2.2.1, t1.2.2.2.1.Level, (w64 (d2.Tick - t1.2.2.2.1.Tick)), t1.2.2.2.1.Ramp, ())).bind fun x3 => rec (t1.1, t1.2.1, x3.1, d2, t1.2.2.2.2.1, t1.2.2.2.2.2.1, (w64 (t1.2.2.2.2.2.2.1 + 1)), ())) (rec (t1.1, t1.2.1, t1.2.2.1, t1.2.2.2.1, t1.2.2.2.2.1, t1.2.2.2.2.2.1, (w64 (t1.2.2.2.2.2.2.1 + 1)), ()))) (rec (t1.1, t1.2.1, t1.2.2.1, t1.2.2.2.1, t1.2.2.2.2.1, t1.2.2.2.2.2.1, (w64 (t1.2.2.2.2.2.2.1 + 1)), ()))) (K (t1.1, t1.2.1, t1.2.2.1, t1.2.2.2.1, t1.2.2.2.2.1, t1.2.2.2.2.2.1, t1.2.2.2.2.2.2.1, ()))
noncomputable def F148 (f179 : T179) (a : List Cue × Str × Int × Unit) : Option (Int × Unit) :=
  iterF (s148_0 f179) fuel (a.2.1, a.2.2.1, 0, (⟨0, [], 0, 0⟩ : Cue), a.1, (Int.ofNat (List.length a.1)), 0, ()) fun t4 => (f179 (t4.2.2.1, t4.2.2.2.1.Level, (w64 (t4.2.1 - t4.2.2.2.1.Tick)), t4.2.2.2.1.Ramp, ())).bind fun x5 => some (x5.1, ())
def E148 (f179 : T179) : Env := envL [(179, N179 f179)]
noncomputable def L148 (f179 : T179) : LEnv (densS (muts p148 ++ r148)) := lenv [(0, loopL (R := densS (muts p148 ++ r148)) q148_0 (s148_0 f179))]
theorem e148_0 (f179 : T179) (X : Nat → St → Option (densS (muts p148 ++ r148))) (rec K : densS q148_0 → Option (densS (muts p148 ++ r148))) (t : densS q148_0) :
    ev (E148 f179) tab (fun _ => false) (L148 f179) (retK tab p148 r148 Proofs.Tryz.f148.results.toList) (loopC Proofs.Tryz.f148 0) (fun i s => cond (Nat.beq i 0) (decK 100 q148_0 s K) (X i s)) (fun s => decK 100 q148_0 s rec) (enc q148_0 t) = s148_0 f179 t rec K := by kernel_rfl
theorem e148 (f179 : T179) (a : densS p148) : runF (E148 f179) tab (fun _ => false) p148 r148 Proofs.Tryz.f148 (L148 f179) a = F148 f179 a := by kernel_rfl
theorem ok148 {f179 : T179} (h179 : OK Proofs.Tryz.prog 179 (N179 f179)) : OK Proofs.Tryz.prog 148 (mkE p148 r148 false (F148 f179)) :=
  fn_ok (E := E148 f179) tab_ok (envL_ok (OKs.cons h179 OKs.nil)) mixed (ann := (fun _ => false)) (L := L148 f179) (fn := Proofs.Tryz.f148) (c := bodyC Proofs.Tryz.f148) (ls := [(0, loopC Proofs.Tryz.f148 0)]) Proofs.Tryz.func148 (by kernel_rfl) (by kernel_rfl) (by kernel_rfl) (by kernel_rfl)
    (LoopsP.cons q148_0 (s148_0 f179) rfl (e148_0 f179) LoopsP.nil) (e148 f179)
/-! spec.l1Min -/
def p78 : List SP := [.one (.int .i64), .one (.int .i64)]
def r78 : List SP := [.one (.int .i64)]
abbrev T78 := Int × Int × Unit → Option (Int × Unit)
abbrev N78 (f : T78) : Entry := mkE p78 r78 false f
noncomputable def F78 (a : Int × Int × Unit) : Option (Int × Unit) :=
  cond (decide (a.1 < a.2.1)) (some (a.1, ())) (some (a.2.1, ()))
def E78 : Env := envL []
noncomputable def L78 : LEnv (densS (muts p78 ++ r78)) := lenv []
theorem e78 (a : densS p78) : runF (E78) tab (fun _ => false) p78 r78 Proofs.Tryz.f78 (L78) a = F78 a := by kernel_rfl
theorem ok78 : OK Proofs.Tryz.prog 78 (mkE p78 r78 false (F78)) :=
  fn_ok (E := E78) tab_ok (envL_ok OKs.nil) mixed (ann := (fun _ => false)) (L := L78) (fn := Proofs.Tryz.f78) (c := bodyC Proofs.Tryz.f78) (ls := []) Proofs.Tryz.func78 (by kernel_rfl) (by kernel_rfl) (by kernel_rfl) (by kernel_rfl)
    LoopsP.nil (e78)
/-! spec.IsDemands -/
def p180 : List SP := [.one (.r .int)]
def r180 : List SP := [.one (.bool)]
abbrev T180 := List Int × Unit → Option (Bool × Unit)
abbrev N180 (f : T180) : Entry := mkE p180 r180 false f
def q180_0 : List SP := pat 18 0 [(0, .one (.r .int)), (5, .one (.r .int)), (6, .one (.int .i64)), (7, .one (.int .i64))]
noncomputable def s180_0 (f52 : T52) (t1 : List Int × List Int × Int × Int × Unit) (rec K : List Int × List Int × Int × Int × Unit → Option (Bool × Unit)) : Option (Bool × Unit) :=
  cond (decide (t1.2.2.2.1 < t1.2.2.1)) (rdL t1.2.1 t1.2.2.2.1 fun d2 => (f52 (d2, 0, 64, ())).bind fun x3 => cond (!x3.1) (some (false, ())) (rec (t1.1, t1.2.1, t1.2.2.1, (w64 (t1.2.2.2.1 + 1)), ()))) (K (t1.1, t1.2.1, t1.2.2.1, t1.2.2.2.1, ()))
noncomputable def F180 (f52 : T52) (a : List Int × Unit) : Option (Bool × Unit) :=
  iterF (s180_0 f52) fuel (a.1, a.1, (Int.ofNat (List.length a.1)), 0, ()) fun t4 => some ((decide ((Int.ofNat (List.length t4.1)) ≤ 8)), ())
def E180 (f52 : T52) : Env := envL [(52, N52 f52)]
noncomputable def L180 (f52 : T52) : LEnv (densS (muts p180 ++ r180)) := lenv [(0, loopL (R := densS (muts p180 ++ r180)) q180_0 (s180_0 f52))]
theorem e180_0 (f52 : T52) (X : Nat → St → Option (densS (muts p180 ++ r180))) (rec K : densS q180_0 → Option (densS (muts p180 ++ r180))) (t : densS q180_0) :
    ev (E180 f52) tab (fun _ => false) (L180 f52) (retK tab p180 r180 Proofs.Tryz.f180.results.toList) (loopC Proofs.Tryz.f180 0) (fun i s => cond (Nat.beq i 0) (decK 100 q180_0 s K) (X i s)) (fun s => decK 100 q180_0 s rec) (enc q180_0 t) = s180_0 f52 t rec K := by kernel_rfl
theorem e180 (f52 : T52) (a : densS p180) : runF (E180 f52) tab (fun _ => false) p180 r180 Proofs.Tryz.f180 (L180 f52) a = F180 f52 a := by kernel_rfl
theorem ok180 {f52 : T52} (h52 : OK Proofs.Tryz.prog 52 (N52 f52)) : OK Proofs.Tryz.prog 180 (mkE p180 r180 false (F180 f52)) :=
  fn_ok (E := E180 f52) tab_ok (envL_ok (OKs.cons h52 OKs.nil)) mixed (ann := (fun _ => false)) (L := L180 f52) (fn := Proofs.Tryz.f180) (c := bodyC Proofs.Tryz.f180) (ls := [(0, loopC Proofs.Tryz.f180 0)]) Proofs.Tryz.func180 (by kernel_rfl) (by kernel_rfl) (by kernel_rfl) (by kernel_rfl)
    (LoopsP.cons q180_0 (s180_0 f52) rfl (e180_0 f52) LoopsP.nil) (e180 f52)
/-! spec.l5Cut -/
def p182 : List SP := [.one (.r .int), .one (.int .i64)]
def r182 : List SP := [.one (.o 0 .int)]
abbrev T182 := List Int × Int × Unit → Option (List Int × Unit)
abbrev N182 (f : T182) : Entry := mkE p182 r182 false f
def q182_0 : List SP := pat 23 0 [(1, .one (.int .i64)), (5, .one (.o 5000001 .int)), (9, .one (.r .int)), (10, .one (.int .i64)), (11, .one (.int .i64))]
noncomputable def s182_0 (f78 : T78) (t1 : Int × List Int × List Int × Int × Int × Unit) (rec K : Int × List Int × List Int × Int × Int × Unit → Option (List Int × Unit)) : Option (List Int × Unit) :=
  cond (decide (t1.2.2.2.2.1 < t1.2.2.2.1)) (rdL t1.2.2.1 t1.2.2.2.2.1 fun d2 => (f78 (d2, t1.1, ())).bind fun x3 => capK (List.length t1.2.1 + List.length ([x3.1] : List Int)) (rec (t1.1, (t1.2.1 ++ ([x3.1] : List Int)), t1.2.2.1, t1.2.2.2.1, (w64 (t1.2.2.2.2.1 + 1)), ()))) (K (t1.1, t1.2.1, t1.2.2.1, t1.2.2.2.1, t1.2.2.2.2.1, ()))
noncomputable def F182 (f78 : T78) (a : List Int × Int × Unit) : Option (List Int × Unit) :=
  iterF (s182_0 f78) fuel (a.2.1, ([] : List Int), a.1, (Int.ofNat (List.length a.1)), 0, ()) fun t4 => some (t4.2.1, ())
def E182 (f78 : T78) : Env := envL [(78, N78 f78)]
noncomputable def L182 (f78 : T78) : LEnv (densS (muts p182 ++ r182)) := lenv [(0, loopL (R := densS (muts p182 ++ r182)) q182_0 (s182_0 f78))]
theorem e182_0 (f78 : T78) (X : Nat → St → Option (densS (muts p182 ++ r182))) (rec K : densS q182_0 → Option (densS (muts p182 ++ r182))) (t : densS q182_0) :
    ev (E182 f78) tab (fun _ => false) (L182 f78) (retK tab p182 r182 Proofs.Tryz.f182.results.toList) (loopC Proofs.Tryz.f182 0) (fun i s => cond (Nat.beq i 0) (decK 100 q182_0 s K) (X i s)) (fun s => decK 100 q182_0 s rec) (enc q182_0 t) = s182_0 f78 t rec K := by kernel_rfl
theorem e182 (f78 : T78) (a : densS p182) : runF (E182 f78) tab (fun _ => false) p182 r182 Proofs.Tryz.f182 (L182 f78) a = F182 f78 a := by kernel_rfl
theorem ok182 {f78 : T78} (h78 : OK Proofs.Tryz.prog 78 (N78 f78)) : OK Proofs.Tryz.prog 182 (mkE p182 r182 false (F182 f78)) :=
  fn_ok (E := E182 f78) tab_ok (envL_ok (OKs.cons h78 OKs.nil)) mixed (ann := (fun _ => false)) (L := L182 f78) (fn := Proofs.Tryz.f182) (c := bodyC Proofs.Tryz.f182) (ls := [(0, loopC Proofs.Tryz.f182 0)]) Proofs.Tryz.func182 (by kernel_rfl) (by kernel_rfl) (by kernel_rfl) (by kernel_rfl)
    (LoopsP.cons q182_0 (s182_0 f78) rfl (e182_0 f78) LoopsP.nil) (e182 f78)
/-! spec.l5Sum -/
def p183 : List SP := [.one (.r .int)]
def r183 : List SP := [.one (.int .i64)]
abbrev T183 := List Int × Unit → Option (Int × Unit)
abbrev N183 (f : T183) : Entry := mkE p183 r183 false f
def q183_0 : List SP := pat 17 0 [(3, .one (.int .i64)), (6, .one (.r .int)), (7, .one (.int .i64)), (8, .one (.int .i64))]
noncomputable def s183_0 (t1 : Int × List Int × Int × Int × Unit) (rec K : Int × List Int × Int × Int × Unit → Option (Int × Unit)) : Option (Int × Unit) :=
  cond (decide (t1.2.2.2.1 < t1.2.2.1)) (rdL t1.2.1 t1.2.2.2.1 fun d2 => rec ((w64 (t1.1 + d2)), t1.2.1, t1.2.2.1, (w64 (t1.2.2.2.1 + 1)), ())) (K (t1.1, t1.2.1, t1.2.2.1, t1.2.2.2.1, ()))
noncomputable def F183 (a : List Int × Unit) : Option (Int × Unit) :=
  iterF (s183_0) fuel (0, a.1, (Int.ofNat (List.length a.1)), 0, ()) fun t3 => some (t3.1, ())
def E183 : Env := envL []
noncomputable def L183 : LEnv (densS (muts p183 ++ r183)) := lenv [(0, loopL (R := densS (muts p183 ++ r183)) q183_0 (s183_0))]
theorem e183_0 (X : Nat → St → Option (densS (muts p183 ++ r183))) (rec K : densS q183_0 → Option (densS (muts p183 ++ r183))) (t : densS q183_0) :
    ev (E183) tab (fun _ => false) (L183) (retK tab p183 r183 Proofs.Tryz.f183.results.toList) (loopC Proofs.Tryz.f183 0) (fun i s => cond (Nat.beq i 0) (decK 100 q183_0 s K) (X i s)) (fun s => decK 100 q183_0 s rec) (enc q183_0 t) = s183_0 t rec K := by kernel_rfl
theorem e183 (a : densS p183) : runF (E183) tab (fun _ => false) p183 r183 Proofs.Tryz.f183 (L183) a = F183 a := by kernel_rfl
theorem ok183 : OK Proofs.Tryz.prog 183 (mkE p183 r183 false (F183)) :=
  fn_ok (E := E183) tab_ok (envL_ok OKs.nil) mixed (ann := (fun _ => false)) (L := L183) (fn := Proofs.Tryz.f183) (c := bodyC Proofs.Tryz.f183) (ls := [(0, loopC Proofs.Tryz.f183 0)]) Proofs.Tryz.func183 (by kernel_rfl) (by kernel_rfl) (by kernel_rfl) (by kernel_rfl)
    (LoopsP.cons q183_0 (s183_0) rfl (e183_0) LoopsP.nil) (e183)
/-! spec.LevelFor -/
def p181 : List SP := [.one (.int .i64), .one (.r .int)]
def r181 : List SP := [.one (.int .i64)]
abbrev T181 := Int × List Int × Unit → Option (Int × Unit)
abbrev N181 (f : T181) : Entry := mkE p181 r181 false f
def q181_0 : List SP := pat 27 0 [(0, .one (.int .i64)), (1, .one (.r .int)), (5, .one (.int .i64)), (6, .one (.int .i64))]
noncomputable def s181_0 (f180 : T180) (f144 : T144) (f182 : T182) (f183 : T183) (t1 : Int × List Int × Int × Int × Unit) (rec K : Int × List Int × Int × Int × Unit → Option (Int × Unit)) : Option (Int × Unit) :=
  cond (decide (t1.2.2.2.1 ≤ 64)) ((f180 (t1.2.1, ())).bind fun x2 => cond x2.1 ((f144 (t1.1, ())).bind fun x3 => cond x3.1 ((f182 (t1.2.1, t1.2.2.2.1, ())).bind fun x4 => (f183 (x4.1, ())).bind fun x5 => cond (decide (x5.1 ≤ t1.1)) (rec (t1.1, t1.2.1, t1.2.2.2.1, (w64 (t1.2.2.2.1 + 1)), ())) (rec (t1.1, t1.2.1, t1.2.2.1, (w64 (t1.2.2.2.1 + 1)), ()))) (K (t1.1, t1.2.1, t1.2.2.1, t1.2.2.2.1, ()))) (K (t1.1, t1.2.1, t1.2.2.1, t1.2.2.2.1, ()))) (K (t1.1, t1.2.1, t1.2.2.1, t1.2.2.2.1, ()))
noncomputable def F181 (f180 : T180) (f144 : T144) (f182 : T182) (f183 : T183) (a : Int × List Int × Unit) : Option (Int × Unit) :=
  iterF (s181_0 f180 f144 f182 f183) fuel (a.1, a.2.1, 0, 1, ()) fun t6 => some (t6.2.2.1, ())
def E181 (f180 : T180) (f144 : T144) (f182 : T182) (f183 : T183) : Env := envL [(180, N180 f180), (144, N144 f144), (182, N182 f182), (183, N183 f183)]
noncomputable def L181 (f180 : T180) (f144 : T144) (f182 : T182) (f183 : T183) : LEnv (densS (muts p181 ++ r181)) := lenv [(0, loopL (R := densS (muts p181 ++ r181)) q181_0 (s181_0 f180 f144 f182 f183))]
theorem e181_0 (f180 : T180) (f144 : T144) (f182 : T182) (f183 : T183) (X : Nat → St → Option (densS (muts p181 ++ r181))) (rec K : densS q181_0 → Option (densS (muts p181 ++ r181))) (t : densS q181_0) :
    ev (E181 f180 f144 f182 f183) tab (fun _ => false) (L181 f180 f144 f182 f183) (retK tab p181 r181 Proofs.Tryz.f181.results.toList) (loopC Proofs.Tryz.f181 0) (fun i s => cond (Nat.beq i 0) (decK 100 q181_0 s K) (X i s)) (fun s => decK 100 q181_0 s rec) (enc q181_0 t) = s181_0 f180 f144 f182 f183 t rec K := by kernel_rfl
theorem e181 (f180 : T180) (f144 : T144) (f182 : T182) (f183 : T183) (a : densS p181) : runF (E181 f180 f144 f182 f183) tab (fun _ => false) p181 r181 Proofs.Tryz.f181 (L181 f180 f144 f182 f183) a = F181 f180 f144 f182 f183 a := by kernel_rfl
theorem ok181 {f180 : T180} {f144 : T144} {f182 : T182} {f183 : T183} (h180 : OK Proofs.Tryz.prog 180 (N180 f180)) (h144 : OK Proofs.Tryz.prog 144 (N144 f144)) (h182 : OK Proofs.Tryz.prog 182 (N182 f182)) (h183 : OK Proofs.Tryz.prog 183 (N183 f183)) : OK Proofs.Tryz.prog 181 (mkE p181 r181 false (F181 f180 f144 f182 f183)) :=
  fn_ok (E := E181 f180 f144 f182 f183) tab_ok (envL_ok (OKs.cons h180 (OKs.cons h144 (OKs.cons h182 (OKs.cons h183 OKs.nil))))) mixed (ann := (fun _ => false)) (L := L181 f180 f144 f182 f183) (fn := Proofs.Tryz.f181) (c := bodyC Proofs.Tryz.f181) (ls := [(0, loopC Proofs.Tryz.f181 0)]) Proofs.Tryz.func181 (by kernel_rfl) (by kernel_rfl) (by kernel_rfl) (by kernel_rfl)
    (LoopsP.cons q181_0 (s181_0 f180 f144 f182 f183) rfl (e181_0 f180 f144 f182 f183) LoopsP.nil) (e181 f180 f144 f182 f183)
/-! spec.ShareOut -/
def p149 : List SP := [.one (.int .i64), .one (.r .int)]
def r149 : List SP := [.one (.o 0 .int)]
abbrev T149 := Int × List Int × Unit → Option (List Int × Unit)
abbrev N149 (f : T149) : Entry := mkE p149 r149 false f
def q149_0 : List SP := pat 55 0 [(5, .one (.int .i64)), (6, .one (.o 5000001 .int)), (7, .one (.int .i64)), (29, .one (.r .int)), (30, .one (.int .i64)), (31, .one (.int .i64))]
noncomputable def s149_0 (f180 : T180) (f144 : T144) (f181 : T181) (f182 : T182) (f183 : T183) (t6 : Int × List Int × Int × List Int × Int × Int × Unit) (rec K : Int × List Int × Int × List Int × Int × Int × Unit → Option (List Int × Unit)) : Option (List Int × Unit) :=
  cond (decide (t6.2.2.2.2.2.1 < t6.2.2.2.2.1)) (rdL t6.2.2.2.1 t6.2.2.2.2.2.1 fun d7 => cond (decide (d7 > t6.1)) (cond (decide (t6.2.2.1 > 0)) (rdL t6.2.1 t6.2.2.2.2.2.1 fun _ => (t6.2.1[(Int.toNat t6.2.2.2.2.2.1)]?).bind fun d8 => rdL t6.2.1 t6.2.2.2.2.2.1 fun _ => (t6.2.1[(Int.toNat t6.2.2.2.2.2.1)]?).bind fun d9 => rec (t6.1, (List.set t6.2.1 (Int.toNat t6.2.2.2.2.2.1) (w64 (d8 + 1))), (w64 (t6.2.2.1 - 1)), t6.2.2.2.1, t6.2.2.2.2.1, (w64 (t6.2.2.2.2.2.1 + 1)), ())) (rec (t6.1, t6.2.1, t6.2.2.1, t6.2.2.2.1, t6.2.2.2.2.1, (w64 (t6.2.2.2.2.2.1 + 1)), ()))) (rec (t6.1, t6.2.1, t6.2.2.1, t6.2.2.2.1, t6.2.2.2.2.1, (w64 (t6.2.2.2.2.2.1 + 1)), ()))) (K (t6.1, t6.2.1, t6.2.2.1, t6.2.2.2.1, t6.2.2.2.2.1, t6.2.2.2.2.2.1, ()))
noncomputable def F149 (f180 : T180) (f144 : T144) (f181 : T181) (f182 : T182) (f183 : T183) (a : Int × List Int × Unit) : Option (List Int × Unit) :=
  (f180 (a.2.1, ())).bind fun x1 => cond (!(!x1.1)) ((f144 (a.1, ())).bind fun x2 => cond (!x2.1) (some (([] : List Int), ())) ((f181 (a.1, a.2.1, ())).bind fun x3 => (f182 (a.2.1, x3.1, ())).bind fun x4 => (f183 (x4.1, ())).bind fun x5 => iterF (s149_0 f180 f144 f181 f182 f183) fuel (x3.1, x4.1, (w64 (a.1 - x5.1)), a.2.1, (Int.ofNat (List.length a.2.1)), 0, ()) fun t10 => some (t10.2.1, ()))) (some (([] : List Int), ()))
def E149 (f180 : T180) (f144 : T144) (f181 : T181) (f182 : T182) (f183 : T183) : Env := envL [(180, N180 f180), (144, N144 f144), (181, N181 f181), (182, N182 f182), (183, N183 f183)]
noncomputable def L149 (f180 : T180) (f144 : T144) (f181 : T181) (f182 : T182) (f183 : T183) : LEnv (densS (muts p149 ++ r149)) := lenv [(0, loopL (R := densS (muts p149 ++ r149)) q149_0 (s149_0 f180 f144 f181 f182 f183))]
theorem e149_0 (f180 : T180) (f144 : T144) (f181 : T181) (f182 : T182) (f183 : T183) (X : Nat → St → Option (densS (muts p149 ++ r149))) (rec K : densS q149_0 → Option (densS (muts p149 ++ r149))) (t : densS q149_0) :
    ev (E149 f180 f144 f181 f182 f183) tab (fun _ => false) (L149 f180 f144 f181 f182 f183) (retK tab p149 r149 Proofs.Tryz.f149.results.toList) (loopC Proofs.Tryz.f149 0) (fun i s => cond (Nat.beq i 0) (decK 100 q149_0 s K) (X i s)) (fun s => decK 100 q149_0 s rec) (enc q149_0 t) = s149_0 f180 f144 f181 f182 f183 t rec K := by kernel_rfl
theorem e149 (f180 : T180) (f144 : T144) (f181 : T181) (f182 : T182) (f183 : T183) (a : densS p149) : runF (E149 f180 f144 f181 f182 f183) tab (fun _ => false) p149 r149 Proofs.Tryz.f149 (L149 f180 f144 f181 f182 f183) a = F149 f180 f144 f181 f182 f183 a := by kernel_rfl
theorem ok149 {f180 : T180} {f144 : T144} {f181 : T181} {f182 : T182} {f183 : T183} (h180 : OK Proofs.Tryz.prog 180 (N180 f180)) (h144 : OK Proofs.Tryz.prog 144 (N144 f144)) (h181 : OK Proofs.Tryz.prog 181 (N181 f181)) (h182 : OK Proofs.Tryz.prog 182 (N182 f182)) (h183 : OK Proofs.Tryz.prog 183 (N183 f183)) : OK Proofs.Tryz.prog 149 (mkE p149 r149 false (F149 f180 f144 f181 f182 f183)) :=
  fn_ok (E := E149 f180 f144 f181 f182 f183) tab_ok (envL_ok (OKs.cons h180 (OKs.cons h144 (OKs.cons h181 (OKs.cons h182 (OKs.cons h183 OKs.nil)))))) mixed (ann := (fun _ => false)) (L := L149 f180 f144 f181 f182 f183) (fn := Proofs.Tryz.f149) (c := bodyC Proofs.Tryz.f149) (ls := [(0, loopC Proofs.Tryz.f149 0)]) Proofs.Tryz.func149 (by kernel_rfl) (by kernel_rfl) (by kernel_rfl) (by kernel_rfl)
    (LoopsP.cons q149_0 (s149_0 f180 f144 f181 f182 f183) rfl (e149_0 f180 f144 f181 f182 f183) LoopsP.nil) (e149 f180 f144 f181 f182 f183)
/-! spec.l9Lifts -/
def p107 : List SP := [.agg [.r .device, .r .cue, .r .gust, .int .i64], .one (.int .i64)]
def r107 : List SP := [.one (.o 0 .int)]
abbrev T107 := ShD × Int × Unit → Option (List Int × Unit)
abbrev N107 (f : T107) : Entry := mkE p107 r107 false f
def q107_2 : List SP := pat 92 0 [(1, .one (.int .i64)), (2, .box 5002001 [.r .device, .r .cue, .r .gust, .int .i64]), (5, .one (.o 5002002 .int)), (7, .boxt 5002003 .device), (8, .one (.o 5002004 .int)), (9, .one (.o 5002005 .int)), (19, .one (.r .device)), (20, .one (.int .i64)), (21, .one (.int .i64)), (28, .one (.r .device)), (29, .one (.int .i64)), (30, .one (.int .i64))]
noncomputable def s107_2 (f52 : T52) (f148 : T148) (f78 : T78) (f149 : T149) (t3 : Int × ShD × List Int × Device × List Int × List Int × List Device × Int × Int × List Device × Int × Int × Unit) (rec K : Int × ShD × List Int × Device × List Int × List Int × List Device × Int × Int × List Device × Int × Int × Unit → Option (List Int × Unit)) : Option (List Int × Unit) :=
  cond (decide (t3.2.2.2.2.2.2.2.2.2.2.2.1 < t3.2.2.2.2.2.2.2.2.2.2.1)) (rdL t3.2.2.2.2.2.2.2.2.2.1 t3.2.2.2.2.2.2.2.2.2.2.2.1 fun d4 => cond (decide (d4.Kind = 2)) (cond (decide (d4.Line = t3.2.2.2.1.Name)) ((f52 (t3.1, 0, (w64 (t3.2.1.2.2.2.1 - 1)), ())).bind fun x5 => cond x5.1 ((f148 (t3.2.1.2.1, d4.Name, t3.1, ())).bind fun x6 => (f78 (x6.1, d4.Most, ())).bind fun x7 => capK (List.length t3.2.2.2.2.1 + List.length ([x7.1] : List Int)) (capK (List.length t3.2.2.2.2.2.1 + List.length ([t3.2.2.2.2.2.2.2.2.2.2.2.1] : List Int)) (rec (t3.1, (t3.2.1.1, t3.2.1.2.1, t3.2.1.2.2.1, t3.2.1.2.2.2.1, ()), t3.2.2.1, t3.2.2.2.1, (t3.2.2.2.2.1 ++ ([x7.1] : List Int)), (t3.2.2.2.2.2.1 ++ ([t3.2.2.2.2.2.2.2.2.2.2.2.1] : List Int)), t3.2.2.2.2.2.2.1, t3.2.2.2.2.2.2.2.1, t3.2.2.2.2.2.2.2.2.1, t3.2.2.2.2.2.2.2.2.2.1, t3.2.2.2.2.2.2.2.2.2.2.1, (w64 (t3.2.2.2.2.2.2.2.2.2.2.2.1 + 1)), ())))) (rec (t3.1, (t3.2.1.1, t3.2.1.2.1, t3.2.1.2.2.1, t3.2.1.2.2.2.1, ()), t3.2.2.1, t3.2.2.2.1, t3.2.2.2.2.1, t3.2.2.2.2.2.1, t3.2.2.2.2.2.2.1, t3.2.2.2.2.2.2.2.1, t3.2.2.2.2.2.2.2.2.1, t3.2.2.2.2.2.2.2.2.2.1, t3.2.2.2.2.2.2.2.2.2.2.1, (w64 (t3.2.2.2.2.2.2.2.2.2.2.2.1 + 1)), ()))) (rec (t3.1, (t3.2.1.1, t3.2.1.2.1, t3.2.1.2.2.1, t3.2.1.2.2.2.1, ()), t3.2.2.1, t3.2.2.2.1, t3.2.2.2.2.1, t3.2.2.2.2.2.1, t3.2.2.2.2.2.2.1, t3.2.2.2.2.2.2.2.1, t3.2.2.2.2.2.2.2.2.1, t3.2.2.2.2.2.2.2.2.2.1, t3.2.2.2.2.2.2.2.2.2.2.1, (w64 (t3.2.2.2.2.2.2.2.2.2.2.2.1 + 1)), ()))) (rec (t3.1, (t3.2.1.1, t3.2.1.2.1, t3.2.1.2.2.1, t3.2.1.2.2.2.1, ()), t3.2.2.1, t3.2.2.2.1, t3.2.2.2.2.1, t3.2.2.2.2.2.1, t3.2.2.2.2.2.2.1, t3.2.2.2.2.2.2.2.1, t3.2.2.2.2.2.2.2.2.1, t3.2.2.2.2.2.2.2.2.2.1, t3.2.2.2.2.2.2.2.2.2.2.1, (w64 (t3.2.2.2.2.2.2.2.2.2.2.2.1 + 1)), ()))) (K (t3.1, (t3.2.1.1, t3.2.1.2.1, t3.2.1.2.2.1, t3.2.1.2.2.2.1, ()), t3.2.2.1, t3.2.2.2.1, t3.2.2.2.2.1, t3.2.2.2.2.2.1, t3.2.2.2.2.2.2.1, t3.2.2.2.2.2.2.2.1, t3.2.2.2.2.2.2.2.2.1, t3.2.2.2.2.2.2.2.2.2.1, t3.2.2.2.2.2.2.2.2.2.2.1, t3.2.2.2.2.2.2.2.2.2.2.2.1, ()))
def q107_4 : List SP := pat 92 0 [(1, .one (.int .i64)), (2, .box 5004001 [.r .device, .r .cue, .r .gust, .int .i64]), (5, .one (.o 5004002 .int)), (9, .one (.o 5004003 .int)), (19, .one (.r .device)), (20, .one (.int .i64)), (21, .one (.int .i64)), (75, .one (.o 5004004 .int)), (76, .one (.int .i64)), (77, .one (.int .i64))]
noncomputable def s107_4 (f52 : T52) (f148 : T148) (f78 : T78) (f149 : T149) (t10 : Int × ShD × List Int × List Int × List Device × Int × Int × List Int × Int × Int × Unit) (rec K : Int × ShD × List Int × List Int × List Device × Int × Int × List Int × Int × Int × Unit → Option (List Int × Unit)) : Option (List Int × Unit) :=
  cond (decide (t10.2.2.2.2.2.2.2.2.2.1 < t10.2.2.2.2.2.2.2.2.1)) (rdL t10.2.2.2.2.2.2.2.1 t10.2.2.2.2.2.2.2.2.2.1 fun _ => (t10.2.2.2.2.2.2.2.1[(Int.toNat t10.2.2.2.2.2.2.2.2.2.1)]?).bind fun d11 => rdL t10.2.2.2.1 t10.2.2.2.2.2.2.2.2.2.1 fun _ => (t10.2.2.2.1[(Int.toNat t10.2.2.2.2.2.2.2.2.2.1)]?).bind fun d12 => rdL t10.2.2.1 d12 fun _ => (t10.2.2.1[(Int.toNat d12)]?).bind fun d13 => rec (t10.1, (t10.2.1.1, t10.2.1.2.1, t10.2.1.2.2.1, t10.2.1.2.2.2.1, ()), (List.set t10.2.2.1 (Int.toNat d12) d11), t10.2.2.2.1, t10.2.2.2.2.1, t10.2.2.2.2.2.1, t10.2.2.2.2.2.2.1, t10.2.2.2.2.2.2.2.1, t10.2.2.2.2.2.2.2.2.1, (w64 (t10.2.2.2.2.2.2.2.2.2.1 + 1)), ())) (K (t10.1, (t10.2.1.1, t10.2.1.2.1, t10.2.1.2.2.1, t10.2.1.2.2.2.1, ()), t10.2.2.1, t10.2.2.2.1, t10.2.2.2.2.1, t10.2.2.2.2.2.1, t10.2.2.2.2.2.2.1, t10.2.2.2.2.2.2.2.1, t10.2.2.2.2.2.2.2.2.1, t10.2.2.2.2.2.2.2.2.2.1, ()))
def q107_0 : List SP := pat 92 0 [(1, .one (.int .i64)), (2, .box 5000001 [.r .device, .r .cue, .r .gust, .int .i64]), (5, .one (.o 5000002 .int)), (19, .one (.r .device)), (20, .one (.int .i64)), (21, .one (.int .i64))]
noncomputable def s107_0 (f52 : T52) (f148 : T148) (f78 : T78) (f149 : T149) (t1 : Int × ShD × List Int × List Device × Int × Int × Unit) (rec K : Int × ShD × List Int × List Device × Int × Int × Unit → Option (List Int × Unit)) : Option (List Int × Unit) :=
  cond (decide (t1.2.2.2.2.2.1 < t1.2.2.2.2.1)) (rdL t1.2.2.2.1 t1.2.2.2.2.2.1 fun d2 => iterF (s107_2 f52 f148 f78 f149) fuel (t1.1, (t1.2.1.1, t1.2.1.2.1, t1.2.1.2.2.1, t1.2.1.2.2.2.1, ()), t1.2.2.1, d2, ([] : List Int), ([] : List Int), t1.2.2.2.1, t1.2.2.2.2.1, t1.2.2.2.2.2.1, t1.2.1.1, (Int.ofNat (List.length t1.2.1.1)), 0, ()) fun t8 => cond (decide ((Int.ofNat (List.length t8.2.2.2.2.1)) > 0)) ((f149 (t8.2.2.2.1.Most, t8.2.2.2.2.1, ())).bind fun x9 => iterF (s107_4 f52 f148 f78 f149) fuel (t8.1, (t8.2.1.1, t8.2.1.2.1, t8.2.1.2.2.1, t8.2.1.2.2.2.1, ()), t8.2.2.1, t8.2.2.2.2.2.1, t8.2.2.2.2.2.2.1, t8.2.2.2.2.2.2.2.1, t8.2.2.2.2.2.2.2.2.1, x9.1, (Int.ofNat (List.length x9.1)), 0, ()) fun t14 => rec (t14.1, (t14.2.1.1, t14.2.1.2.1, t14.2.1.2.2.1, t14.2.1.2.2.2.1, ()), t14.2.2.1, t14.2.2.2.2.1, t14.2.2.2.2.2.1, (w64 (t14.2.2.2.2.2.2.1 + 1)), ())) (rec (t8.1, (t8.2.1.1, t8.2.1.2.1, t8.2.1.2.2.1, t8.2.1.2.2.2.1, ()), t8.2.2.1, t8.2.2.2.2.2.2.1, t8.2.2.2.2.2.2.2.1, (w64 (t8.2.2.2.2.2.2.2.2.1 + 1)), ()))) (K (t1.1, (t1.2.1.1, t1.2.1.2.1, t1.2.1.2.2.1, t1.2.1.2.2.2.1, ()), t1.2.2.1, t1.2.2.2.1, t1.2.2.2.2.1, t1.2.2.2.2.2.1, ()))
noncomputable def F107 (f52 : T52) (f148 : T148) (f78 : T78) (f149 : T149) (a : ShD × Int × Unit) : Option (List Int × Unit) :=
  okIf ((0 : Int) ≤ (Int.ofNat (List.length a.1.1))) (capK (Int.toNat (Int.ofNat (List.length a.1.1))) (iterF (s107_0 f52 f148 f78 f149) fuel (a.2.1, (a.1.1, a.1.2.1, a.1.2.2.1, a.1.2.2.2.1, ()), (List.replicate (Int.toNat (Int.ofNat (List.length a.1.1))) (Ty.zero .int)), a.1.1, (Int.ofNat (List.length a.1.1)), 0, ()) fun t15 => some (t15.2.2.1, ())))
def E107 (f52 : T52) (f148 : T148) (f78 : T78) (f149 : T149) : Env := envL [(52, N52 f52), (148, N148 f148), (78, N78 f78), (149, N149 f149)]
noncomputable def L107 (f52 : T52) (f148 : T148) (f78 : T78) (f149 : T149) : LEnv (densS (muts p107 ++ r107)) := lenv [(0, loopL (R := densS (muts p107 ++ r107)) q107_0 (s107_0 f52 f148 f78 f149)), (2, loopL (R := densS (muts p107 ++ r107)) q107_2 (s107_2 f52 f148 f78 f149)), (4, loopL (R := densS (muts p107 ++ r107)) q107_4 (s107_4 f52 f148 f78 f149))]
theorem e107_0 (f52 : T52) (f148 : T148) (f78 : T78) (f149 : T149) (X : Nat → St → Option (densS (muts p107 ++ r107))) (rec K : densS q107_0 → Option (densS (muts p107 ++ r107))) (t : densS q107_0) :
    ev (E107 f52 f148 f78 f149) tab (fun _ => false) (L107 f52 f148 f78 f149) (retK tab p107 r107 Proofs.Tryz.f107.results.toList) (loopC Proofs.Tryz.f107 0) (fun i s => cond (Nat.beq i 0) (decK 100 q107_0 s K) (X i s)) (fun s => decK 100 q107_0 s rec) (enc q107_0 t) = s107_0 f52 f148 f78 f149 t rec K := by kernel_rfl
theorem e107_2 (f52 : T52) (f148 : T148) (f78 : T78) (f149 : T149) (X : Nat → St → Option (densS (muts p107 ++ r107))) (rec K : densS q107_2 → Option (densS (muts p107 ++ r107))) (t : densS q107_2) :
    ev (E107 f52 f148 f78 f149) tab (fun _ => false) (L107 f52 f148 f78 f149) (retK tab p107 r107 Proofs.Tryz.f107.results.toList) (loopC Proofs.Tryz.f107 1) (fun i s => cond (Nat.beq i 2) (decK 100 q107_2 s K) (X i s)) (fun s => decK 100 q107_2 s rec) (enc q107_2 t) = s107_2 f52 f148 f78 f149 t rec K := by kernel_rfl
theorem e107_4 (f52 : T52) (f148 : T148) (f78 : T78) (f149 : T149) (X : Nat → St → Option (densS (muts p107 ++ r107))) (rec K : densS q107_4 → Option (densS (muts p107 ++ r107))) (t : densS q107_4) :
    ev (E107 f52 f148 f78 f149) tab (fun _ => false) (L107 f52 f148 f78 f149) (retK tab p107 r107 Proofs.Tryz.f107.results.toList) (loopC Proofs.Tryz.f107 2) (fun i s => cond (Nat.beq i 4) (decK 100 q107_4 s K) (X i s)) (fun s => decK 100 q107_4 s rec) (enc q107_4 t) = s107_4 f52 f148 f78 f149 t rec K := by kernel_rfl
theorem e107 (f52 : T52) (f148 : T148) (f78 : T78) (f149 : T149) (a : densS p107) : runF (E107 f52 f148 f78 f149) tab (fun _ => false) p107 r107 Proofs.Tryz.f107 (L107 f52 f148 f78 f149) a = F107 f52 f148 f78 f149 a := by kernel_rfl
theorem ok107 {f52 : T52} {f148 : T148} {f78 : T78} {f149 : T149} (h52 : OK Proofs.Tryz.prog 52 (N52 f52)) (h148 : OK Proofs.Tryz.prog 148 (N148 f148)) (h78 : OK Proofs.Tryz.prog 78 (N78 f78)) (h149 : OK Proofs.Tryz.prog 149 (N149 f149)) : OK Proofs.Tryz.prog 107 (mkE p107 r107 false (F107 f52 f148 f78 f149)) :=
  fn_ok (E := E107 f52 f148 f78 f149) tab_ok (envL_ok (OKs.cons h52 (OKs.cons h148 (OKs.cons h78 (OKs.cons h149 OKs.nil))))) mixed (ann := (fun _ => false)) (L := L107 f52 f148 f78 f149) (fn := Proofs.Tryz.f107) (c := bodyC Proofs.Tryz.f107) (ls := [(0, loopC Proofs.Tryz.f107 0), (2, loopC Proofs.Tryz.f107 1), (4, loopC Proofs.Tryz.f107 2)]) Proofs.Tryz.func107 (by kernel_rfl) (by kernel_rfl) (by kernel_rfl) (by kernel_rfl)
    (LoopsP.cons q107_0 (s107_0 f52 f148 f78 f149) rfl (e107_0 f52 f148 f78 f149) (LoopsP.cons q107_2 (s107_2 f52 f148 f78 f149) rfl (e107_2 f52 f148 f78 f149) (LoopsP.cons q107_4 (s107_4 f52 f148 f78 f149) rfl (e107_4 f52 f148 f78 f149) LoopsP.nil))) (e107 f52 f148 f78 f149)
/-! spec.l9Jet -/
def p108 : List SP := [.t .device, .one (.int .i64)]
def r108 : List SP := [.t .jet]
abbrev T108 := Device × Int × Unit → Option (Jet × Unit)
abbrev N108 (f : T108) : Entry := mkE p108 r108 false f
noncomputable def F108 (a : Device × Int × Unit) : Option (Jet × Unit) :=
  some ((⟨⟨a.1.At.X, a.1.At.Y⟩, a.1.Heading, a.1.Tilt, a.2.1⟩ : Jet), ())
def E108 : Env := envL []
noncomputable def L108 : LEnv (densS (muts p108 ++ r108)) := lenv []
theorem e108 (a : densS p108) : runF (E108) tab (fun _ => false) p108 r108 Proofs.Tryz.f108 (L108) a = F108 a := by kernel_rfl
theorem ok108 : OK Proofs.Tryz.prog 108 (mkE p108 r108 false (F108)) :=
  fn_ok (E := E108) tab_ok (envL_ok OKs.nil) mixed (ann := (fun _ => false)) (L := L108) (fn := Proofs.Tryz.f108) (c := bodyC Proofs.Tryz.f108) (ls := []) Proofs.Tryz.func108 (by kernel_rfl) (by kernel_rfl) (by kernel_rfl) (by kernel_rfl)
    LoopsP.nil (e108)
/-! spec.l9All -/
def p61 : List SP := [.agg [.r .device, .r .cue, .r .gust, .int .i64]]
def r61 : List SP := [.one (.o 0 .throw)]
abbrev T61 := ShD × Unit → Option (List Throw × Unit)
abbrev N61 (f : T61) : Entry := mkE p61 r61 false f
def q61_2 : List SP := pat 45 0 [(1, .box 5002001 [.r .device, .r .cue, .r .gust, .int .i64]), (3, .one (.o 5002002 .throw)), (4, .one (.int .i64)), (16, .one (.o 5002003 .int)), (17, .one (.int .i64)), (18, .one (.int .i64))]
noncomputable def s61_2 (f107 : T107) (f108 : T108) (t3 : ShD × List Throw × Int × List Int × Int × Int × Unit) (rec K : ShD × List Throw × Int × List Int × Int × Int × Unit → Option (List Throw × Unit)) : Option (List Throw × Unit) :=
  cond (decide (t3.2.2.2.2.2.1 < t3.2.2.2.2.1)) (rdL t3.2.2.2.1 t3.2.2.2.2.2.1 fun _ => (t3.2.2.2.1[(Int.toNat t3.2.2.2.2.2.1)]?).bind fun d4 => cond (decide (d4 > 0)) (rdL t3.1.1 t3.2.2.2.2.2.1 fun d5 => rdL t3.1.1 t3.2.2.2.2.2.1 fun d6 => (f108 (d6, d4, ())).bind fun x7 => capK (List.length t3.2.1 + List.length ([(⟨d5.Name, t3.2.2.1, ⟨⟨x7.1.At.X, x7.1.At.Y⟩, x7.1.Heading, x7.1.Tilt, x7.1.Lift⟩⟩ : Throw)] : List Throw)) (rec ((t3.1.1, t3.1.2.1, t3.1.2.2.1, t3.1.2.2.2.1, ()), (t3.2.1 ++ ([(⟨d5.Name, t3.2.2.1, ⟨⟨x7.1.At.X, x7.1.At.Y⟩, x7.1.Heading, x7.1.Tilt, x7.1.Lift⟩⟩ : Throw)] : List Throw)), t3.2.2.1, t3.2.2.2.1, t3.2.2.2.2.1, (w64 (t3.2.2.2.2.2.1 + 1)), ()))) (rec ((t3.1.1, t3.1.2.1, t3.1.2.2.1, t3.1.2.2.2.1, ()), t3.2.1, t3.2.2.1, t3.2.2.2.1, t3.2.2.2.2.1, (w64 (t3.2.2.2.2.2.1 + 1)), ()))) (K ((t3.1.1, t3.1.2.1, t3.1.2.2.1, t3.1.2.2.2.1, ()), t3.2.1, t3.2.2.1, t3.2.2.2.1, t3.2.2.2.2.1, t3.2.2.2.2.2.1, ()))
def q61_0 : List SP := pat 45 0 [(1, .box 5000001 [.r .device, .r .cue, .r .gust, .int .i64]), (3, .one (.o 5000002 .throw)), (4, .one (.int .i64))]
noncomputable def s61_0 (f107 : T107) (f108 : T108) (t1 : ShD × List Throw × Int × Unit) (rec K : ShD × List Throw × Int × Unit → Option (List Throw × Unit)) : Option (List Throw × Unit) :=
  cond (decide (t1.2.2.1 < t1.1.2.2.2.1)) ((f107 ((t1.1.1, t1.1.2.1, t1.1.2.2.1, t1.1.2.2.2.1, ()), t1.2.2.1, ())).bind fun x2 => iterF (s61_2 f107 f108) fuel ((t1.1.1, t1.1.2.1, t1.1.2.2.1, t1.1.2.2.2.1, ()), t1.2.1, t1.2.2.1, x2.1, (Int.ofNat (List.length x2.1)), 0, ()) fun t8 => rec ((t8.1.1, t8.1.2.1, t8.1.2.2.1, t8.1.2.2.2.1, ()), t8.2.1, (w64 (t8.2.2.1 + 1)), ())) (K ((t1.1.1, t1.1.2.1, t1.1.2.2.1, t1.1.2.2.2.1, ()), t1.2.1, t1.2.2.1, ()))
noncomputable def F61 (f107 : T107) (f108 : T108) (a : ShD × Unit) : Option (List Throw × Unit) :=
  iterF (s61_0 f107 f108) fuel ((a.1.1, a.1.2.1, a.1.2.2.1, a.1.2.2.2.1, ()), ([] : List Throw), 0, ()) fun t9 => some (t9.2.1, ())
def E61 (f107 : T107) (f108 : T108) : Env := envL [(107, N107 f107), (108, N108 f108)]
noncomputable def L61 (f107 : T107) (f108 : T108) : LEnv (densS (muts p61 ++ r61)) := lenv [(0, loopL (R := densS (muts p61 ++ r61)) q61_0 (s61_0 f107 f108)), (2, loopL (R := densS (muts p61 ++ r61)) q61_2 (s61_2 f107 f108))]
theorem e61_0 (f107 : T107) (f108 : T108) (X : Nat → St → Option (densS (muts p61 ++ r61))) (rec K : densS q61_0 → Option (densS (muts p61 ++ r61))) (t : densS q61_0) :
    ev (E61 f107 f108) tab (fun _ => false) (L61 f107 f108) (retK tab p61 r61 Proofs.Tryz.f61.results.toList) (loopC Proofs.Tryz.f61 0) (fun i s => cond (Nat.beq i 0) (decK 100 q61_0 s K) (X i s)) (fun s => decK 100 q61_0 s rec) (enc q61_0 t) = s61_0 f107 f108 t rec K := by kernel_rfl
theorem e61_2 (f107 : T107) (f108 : T108) (X : Nat → St → Option (densS (muts p61 ++ r61))) (rec K : densS q61_2 → Option (densS (muts p61 ++ r61))) (t : densS q61_2) :
    ev (E61 f107 f108) tab (fun _ => false) (L61 f107 f108) (retK tab p61 r61 Proofs.Tryz.f61.results.toList) (loopC Proofs.Tryz.f61 1) (fun i s => cond (Nat.beq i 2) (decK 100 q61_2 s K) (X i s)) (fun s => decK 100 q61_2 s rec) (enc q61_2 t) = s61_2 f107 f108 t rec K := by kernel_rfl
theorem e61 (f107 : T107) (f108 : T108) (a : densS p61) : runF (E61 f107 f108) tab (fun _ => false) p61 r61 Proofs.Tryz.f61 (L61 f107 f108) a = F61 f107 f108 a := by kernel_rfl
theorem ok61 {f107 : T107} {f108 : T108} (h107 : OK Proofs.Tryz.prog 107 (N107 f107)) (h108 : OK Proofs.Tryz.prog 108 (N108 f108)) : OK Proofs.Tryz.prog 61 (mkE p61 r61 false (F61 f107 f108)) :=
  fn_ok (E := E61 f107 f108) tab_ok (envL_ok (OKs.cons h107 (OKs.cons h108 OKs.nil))) mixed (ann := (fun _ => false)) (L := L61 f107 f108) (fn := Proofs.Tryz.f61) (c := bodyC Proofs.Tryz.f61) (ls := [(0, loopC Proofs.Tryz.f61 0), (2, loopC Proofs.Tryz.f61 1)]) Proofs.Tryz.func61 (by kernel_rfl) (by kernel_rfl) (by kernel_rfl) (by kernel_rfl)
    (LoopsP.cons q61_0 (s61_0 f107 f108) rfl (e61_0 f107 f108) (LoopsP.cons q61_2 (s61_2 f107 f108) rfl (e61_2 f107 f108) LoopsP.nil)) (e61 f107 f108)
/-! spec.FlightOf -/
def p93 : List SP := [.t .jet]
def r93 : List SP := [.one (.int .i64)]
abbrev T93 := Jet × Unit → Option (Int × Unit)
abbrev N93 (f : T93) : Entry := mkE p93 r93 false f
def q93_0 : List SP := pat 24 0 [(3, .one (.int .i64)), (4, .one (.int .i64)), (5, .one (.int .i64))]
noncomputable def s93_0 (f140 : T140) (t2 : Int × Int × Int × Unit) (rec K : Int × Int × Int × Unit → Option (Int × Unit)) : Option (Int × Unit) :=
  cond (decide (t2.2.1 > 0)) (rec ((w64 (t2.1 + 1)), (w64 (t2.2.1 + t2.2.2.1)), (w64 (t2.2.2.1 - 2)), ())) (K (t2.1, t2.2.1, t2.2.2.1, ()))
noncomputable def F93 (f140 : T140) (a : Jet × Unit) : Option (Int × Unit) :=
  (f140 (a.1, ())).bind fun x1 => cond (!x1.1) (some (0, ())) (iterF (s93_0 f140) fuel (1, a.1.Lift, (w64 (a.1.Lift - 2)), ()) fun t3 => some (t3.1, ()))
def E93 (f140 : T140) : Env := envL [(140, N140 f140)]
noncomputable def L93 (f140 : T140) : LEnv (densS (muts p93 ++ r93)) := lenv [(0, loopL (R := densS (muts p93 ++ r93)) q93_0 (s93_0 f140))]
theorem e93_0 (f140 : T140) (X : Nat → St → Option (densS (muts p93 ++ r93))) (rec K : densS q93_0 → Option (densS (muts p93 ++ r93))) (t : densS q93_0) :
    ev (E93 f140) tab (fun _ => false) (L93 f140) (retK tab p93 r93 Proofs.Tryz.f93.results.toList) (loopC Proofs.Tryz.f93 0) (fun i s => cond (Nat.beq i 0) (decK 100 q93_0 s K) (X i s)) (fun s => decK 100 q93_0 s rec) (enc q93_0 t) = s93_0 f140 t rec K := by kernel_rfl
theorem e93 (f140 : T140) (a : densS p93) : runF (E93 f140) tab (fun _ => false) p93 r93 Proofs.Tryz.f93 (L93 f140) a = F93 f140 a := by kernel_rfl
theorem ok93 {f140 : T140} (h140 : OK Proofs.Tryz.prog 140 (N140 f140)) : OK Proofs.Tryz.prog 93 (mkE p93 r93 false (F93 f140)) :=
  fn_ok (E := E93 f140) tab_ok (envL_ok (OKs.cons h140 OKs.nil)) mixed (ann := (fun _ => false)) (L := L93 f140) (fn := Proofs.Tryz.f93) (c := bodyC Proofs.Tryz.f93) (ls := [(0, loopC Proofs.Tryz.f93 0)]) Proofs.Tryz.func93 (by kernel_rfl) (by kernel_rfl) (by kernel_rfl) (by kernel_rfl)
    (LoopsP.cons q93_0 (s93_0 f140) rfl (e93_0 f140) LoopsP.nil) (e93 f140)
/-! spec.l2Mod -/
def p190 : List SP := [.one (.int .i64)]
def r190 : List SP := [.one (.int .i64)]
abbrev T190 := Int × Unit → Option (Int × Unit)
abbrev N190 (f : T190) : Entry := mkE p190 r190 false f
noncomputable def F190 (a : Int × Unit) : Option (Int × Unit) :=
  cond (decide ((Int.tmod a.1 4) < 0)) (some ((w64 ((Int.tmod a.1 4) + 4)), ())) (some ((Int.tmod a.1 4), ()))
def E190 : Env := envL []
noncomputable def L190 : LEnv (densS (muts p190 ++ r190)) := lenv []
theorem e190 (a : densS p190) : runF (E190) tab (fun _ => false) p190 r190 Proofs.Tryz.f190 (L190) a = F190 a := by kernel_rfl
theorem ok190 : OK Proofs.Tryz.prog 190 (mkE p190 r190 false (F190)) :=
  fn_ok (E := E190) tab_ok (envL_ok OKs.nil) mixed (ann := (fun _ => false)) (L := L190) (fn := Proofs.Tryz.f190) (c := bodyC Proofs.Tryz.f190) (ls := []) Proofs.Tryz.func190 (by kernel_rfl) (by kernel_rfl) (by kernel_rfl) (by kernel_rfl)
    LoopsP.nil (e190)
/-! spec.l2Turn -/
def p177 : List SP := [.t .place, .one (.int .i64)]
def r177 : List SP := [.t .place]
abbrev T177 := Place × Int × Unit → Option (Place × Unit)
abbrev N177 (f : T177) : Entry := mkE p177 r177 false f
def q177_0 : List SP := pat 19 0 [(2, .boxt 5000001 .place), (4, .boxt 5000002 .place), (5, .one (.int .i64))]
noncomputable def s177_0 (f190 : T190) (t2 : Place × Place × Int × Unit) (rec K : Place × Place × Int × Unit → Option (Place × Unit)) : Option (Place × Unit) :=
  cond (decide (t2.2.2.1 > 0)) (rec ((⟨(w64 (0 - t2.1.Y)), t2.1.X⟩ : Place), t2.2.1, (w64 (t2.2.2.1 - 1)), ())) (K (t2.1, t2.2.1, t2.2.2.1, ()))
noncomputable def F177 (f190 : T190) (a : Place × Int × Unit) : Option (Place × Unit) :=
  (f190 (a.2.1, ())).bind fun x1 => iterF (s177_0 f190) fuel (a.1, (⟨0, 0⟩ : Place), x1.1, ()) fun t3 => some (t3.1, ())
def E177 (f190 : T190) : Env := envL [(190, N190 f190)]
noncomputable def L177 (f190 : T190) : LEnv (densS (muts p177 ++ r177)) := lenv [(0, loopL (R := densS (muts p177 ++ r177)) q177_0 (s177_0 f190))]
theorem e177_0 (f190 : T190) (X : Nat → St → Option (densS (muts p177 ++ r177))) (rec K : densS q177_0 → Option (densS (muts p177 ++ r177))) (t : densS q177_0) :
    ev (E177 f190) tab (fun _ => false) (L177 f190) (retK tab p177 r177 Proofs.Tryz.f177.results.toList) (loopC Proofs.Tryz.f177 0) (fun i s => cond (Nat.beq i 0) (decK 100 q177_0 s K) (X i s)) (fun s => decK 100 q177_0 s rec) (enc q177_0 t) = s177_0 f190 t rec K := by kernel_rfl
theorem e177 (f190 : T190) (a : densS p177) : runF (E177 f190) tab (fun _ => false) p177 r177 Proofs.Tryz.f177 (L177 f190) a = F177 f190 a := by kernel_rfl
theorem ok177 {f190 : T190} (h190 : OK Proofs.Tryz.prog 190 (N190 f190)) : OK Proofs.Tryz.prog 177 (mkE p177 r177 false (F177 f190)) :=
  fn_ok (E := E177 f190) tab_ok (envL_ok (OKs.cons h190 OKs.nil)) mixed (ann := (fun _ => false)) (L := L177 f190) (fn := Proofs.Tryz.f177) (c := bodyC Proofs.Tryz.f177) (ls := [(0, loopC Proofs.Tryz.f177 0)]) Proofs.Tryz.func177 (by kernel_rfl) (by kernel_rfl) (by kernel_rfl) (by kernel_rfl)
    (LoopsP.cons q177_0 (s177_0 f190) rfl (e177_0 f190) LoopsP.nil) (e177 f190)
/-! spec.l2Add -/
def p111 : List SP := [.t .place, .t .place]
def r111 : List SP := [.t .place]
abbrev T111 := Place × Place × Unit → Option (Place × Unit)
abbrev N111 (f : T111) : Entry := mkE p111 r111 false f
noncomputable def F111 (a : Place × Place × Unit) : Option (Place × Unit) :=
  some ((⟨(w64 (a.1.X + a.2.1.X)), (w64 (a.1.Y + a.2.1.Y))⟩ : Place), ())
def E111 : Env := envL []
noncomputable def L111 : LEnv (densS (muts p111 ++ r111)) := lenv []
theorem e111 (a : densS p111) : runF (E111) tab (fun _ => false) p111 r111 Proofs.Tryz.f111 (L111) a = F111 a := by kernel_rfl
theorem ok111 : OK Proofs.Tryz.prog 111 (mkE p111 r111 false (F111)) :=
  fn_ok (E := E111) tab_ok (envL_ok OKs.nil) mixed (ann := (fun _ => false)) (L := L111) (fn := Proofs.Tryz.f111) (c := bodyC Proofs.Tryz.f111) (ls := []) Proofs.Tryz.func111 (by kernel_rfl) (by kernel_rfl) (by kernel_rfl) (by kernel_rfl)
    LoopsP.nil (e111)
/-! spec.l3Place -/
def p138 : List SP := [.t .jet, .one (.int .i64)]
def r138 : List SP := [.t .place]
abbrev T138 := Jet × Int × Unit → Option (Place × Unit)
abbrev N138 (f : T138) : Entry := mkE p138 r138 false f
noncomputable def F138 (f177 : T177) (f111 : T111) (a : Jet × Int × Unit) : Option (Place × Unit) :=
  (f177 ((⟨(w64 (a.2.1 * a.1.Tilt)), 0⟩ : Place), a.1.Heading, ())).bind fun x1 => (f111 (a.1.At, x1.1, ())).bind fun x2 => some (x2.1, ())
def E138 (f177 : T177) (f111 : T111) : Env := envL [(177, N177 f177), (111, N111 f111)]
noncomputable def L138 (f177 : T177) (f111 : T111) : LEnv (densS (muts p138 ++ r138)) := lenv []
theorem e138 (f177 : T177) (f111 : T111) (a : densS p138) : runF (E138 f177 f111) tab (fun _ => false) p138 r138 Proofs.Tryz.f138 (L138 f177 f111) a = F138 f177 f111 a := by kernel_rfl
theorem ok138 {f177 : T177} {f111 : T111} (h177 : OK Proofs.Tryz.prog 177 (N177 f177)) (h111 : OK Proofs.Tryz.prog 111 (N111 f111)) : OK Proofs.Tryz.prog 138 (mkE p138 r138 false (F138 f177 f111)) :=
  fn_ok (E := E138 f177 f111) tab_ok (envL_ok (OKs.cons h177 (OKs.cons h111 OKs.nil))) mixed (ann := (fun _ => false)) (L := L138 f177 f111) (fn := Proofs.Tryz.f138) (c := bodyC Proofs.Tryz.f138) (ls := []) Proofs.Tryz.func138 (by kernel_rfl) (by kernel_rfl) (by kernel_rfl) (by kernel_rfl)
    LoopsP.nil (e138 f177 f111)
/-! spec.PlaceAt -/
def p150 : List SP := [.t .jet, .one (.int .i64)]
def r150 : List SP := [.t .place, .one (.bool)]
abbrev T150 := Jet × Int × Unit → Option (Place × Bool × Unit)
abbrev N150 (f : T150) : Entry := mkE p150 r150 false f
noncomputable def F150 (f140 : T140) (f93 : T93) (f138 : T138) (a : Jet × Int × Unit) : Option (Place × Bool × Unit) :=
  (f140 (a.1, ())).bind fun x1 => cond (!(!x1.1)) (cond (!(decide (a.2.1 < 0))) ((f93 (a.1, ())).bind fun x2 => cond (decide (a.2.1 > x2.1)) (some ((⟨0, 0⟩ : Place), false, ())) ((f138 (a.1, a.2.1, ())).bind fun x3 => some (x3.1, true, ()))) (some ((⟨0, 0⟩ : Place), false, ()))) (some ((⟨0, 0⟩ : Place), false, ()))
def E150 (f140 : T140) (f93 : T93) (f138 : T138) : Env := envL [(140, N140 f140), (93, N93 f93), (138, N138 f138)]
noncomputable def L150 (f140 : T140) (f93 : T93) (f138 : T138) : LEnv (densS (muts p150 ++ r150)) := lenv []
theorem e150 (f140 : T140) (f93 : T93) (f138 : T138) (a : densS p150) : runF (E150 f140 f93 f138) tab (fun _ => false) p150 r150 Proofs.Tryz.f150 (L150 f140 f93 f138) a = F150 f140 f93 f138 a := by kernel_rfl
theorem ok150 {f140 : T140} {f93 : T93} {f138 : T138} (h140 : OK Proofs.Tryz.prog 140 (N140 f140)) (h93 : OK Proofs.Tryz.prog 93 (N93 f93)) (h138 : OK Proofs.Tryz.prog 138 (N138 f138)) : OK Proofs.Tryz.prog 150 (mkE p150 r150 false (F150 f140 f93 f138)) :=
  fn_ok (E := E150 f140 f93 f138) tab_ok (envL_ok (OKs.cons h140 (OKs.cons h93 (OKs.cons h138 OKs.nil)))) mixed (ann := (fun _ => false)) (L := L150 f140 f93 f138) (fn := Proofs.Tryz.f150) (c := bodyC Proofs.Tryz.f150) (ls := []) Proofs.Tryz.func150 (by kernel_rfl) (by kernel_rfl) (by kernel_rfl) (by kernel_rfl)
    LoopsP.nil (e150 f140 f93 f138)
/-! spec.LandingOf -/
def p109 : List SP := [.t .jet]
def r109 : List SP := [.t .place, .one (.bool)]
abbrev T109 := Jet × Unit → Option (Place × Bool × Unit)
abbrev N109 (f : T109) : Entry := mkE p109 r109 false f
noncomputable def F109 (f93 : T93) (f150 : T150) (a : Jet × Unit) : Option (Place × Bool × Unit) :=
  (f93 (a.1, ())).bind fun x1 => (f150 (a.1, x1.1, ())).bind fun x2 => some (x2.1, x2.2.1, ())
def E109 (f93 : T93) (f150 : T150) : Env := envL [(93, N93 f93), (150, N150 f150)]
noncomputable def L109 (f93 : T93) (f150 : T150) : LEnv (densS (muts p109 ++ r109)) := lenv []
theorem e109 (f93 : T93) (f150 : T150) (a : densS p109) : runF (E109 f93 f150) tab (fun _ => false) p109 r109 Proofs.Tryz.f109 (L109 f93 f150) a = F109 f93 f150 a := by kernel_rfl
theorem ok109 {f93 : T93} {f150 : T150} (h93 : OK Proofs.Tryz.prog 93 (N93 f93)) (h150 : OK Proofs.Tryz.prog 150 (N150 f150)) : OK Proofs.Tryz.prog 109 (mkE p109 r109 false (F109 f93 f150)) :=
  fn_ok (E := E109 f93 f150) tab_ok (envL_ok (OKs.cons h93 (OKs.cons h150 OKs.nil))) mixed (ann := (fun _ => false)) (L := L109 f93 f150) (fn := Proofs.Tryz.f109) (c := bodyC Proofs.Tryz.f109) (ls := []) Proofs.Tryz.func109 (by kernel_rfl) (by kernel_rfl) (by kernel_rfl) (by kernel_rfl)
    LoopsP.nil (e109 f93 f150)
/-! spec.l1Max -/
def p95 : List SP := [.one (.int .i64), .one (.int .i64)]
def r95 : List SP := [.one (.int .i64)]
abbrev T95 := Int × Int × Unit → Option (Int × Unit)
abbrev N95 (f : T95) : Entry := mkE p95 r95 false f
noncomputable def F95 (a : Int × Int × Unit) : Option (Int × Unit) :=
  cond (decide (a.1 > a.2.1)) (some (a.1, ())) (some (a.2.1, ()))
def E95 : Env := envL []
noncomputable def L95 : LEnv (densS (muts p95 ++ r95)) := lenv []
theorem e95 (a : densS p95) : runF (E95) tab (fun _ => false) p95 r95 Proofs.Tryz.f95 (L95) a = F95 a := by kernel_rfl
theorem ok95 : OK Proofs.Tryz.prog 95 (mkE p95 r95 false (F95)) :=
  fn_ok (E := E95) tab_ok (envL_ok OKs.nil) mixed (ann := (fun _ => false)) (L := L95) (fn := Proofs.Tryz.f95) (c := bodyC Proofs.Tryz.f95) (ls := []) Proofs.Tryz.func95 (by kernel_rfl) (by kernel_rfl) (by kernel_rfl) (by kernel_rfl)
    LoopsP.nil (e95)
/-! spec.BoxOf -/
def p46 : List SP := [.one (.r .place)]
def r46 : List SP := [.t .box, .one (.bool)]
abbrev T46 := List Place × Unit → Option (Box × Bool × Unit)
abbrev N46 (f : T46) : Entry := mkE p46 r46 false f
def q46_0 : List SP := pat 57 0 [(0, .one (.r .place)), (2, .boxt 5000001 .box), (4, .boxt 5000002 .box), (8, .one (.r .place)), (9, .one (.int .i64)), (10, .one (.int .i64))]
noncomputable def s46_0 (f94 : T94) (f78 : T78) (f95 : T95) (t1 : List Place × Box × Box × List Place × Int × Int × Unit) (rec K : List Place × Box × Box × List Place × Int × Int × Unit → Option (Box × Bool × Unit)) : Option (Box × Bool × Unit) :=
  cond (decide (t1.2.2.2.2.2.1 < t1.2.2.2.2.1)) (rdL t1.2.2.2.1 t1.2.2.2.2.2.1 fun d2 => (f94 (d2, ())).bind fun x3 => cond (!x3.1) (some ((⟨⟨0, 0⟩, ⟨0, 0⟩⟩ : Box), false, ())) (cond (decide (t1.2.2.2.2.2.1 = 0)) ((f78 (d2.X, d2.X, ())).bind fun x4 => (f78 (d2.Y, d2.Y, ())).bind fun x5 => (f95 (d2.X, d2.X, ())).bind fun x6 => (f95 (d2.Y, d2.Y, ())).bind fun x7 => rec (t1.1, t1.2.1, (⟨⟨x4.1, x5.1⟩, ⟨x6.1, x7.1⟩⟩ : Box), t1.2.2.2.1, t1.2.2.2.2.1, (w64 (t1.2.2.2.2.2.1 + 1)), ())) ((f78 (t1.2.2.1.Low.X, d2.X, ())).bind fun x8 => (f78 (t1.2.2.1.Low.Y, d2.Y, ())).bind fun x9 => (f95 (t1.2.2.1.High.X, d2.X, ())).bind fun x10 => (f95 (t1.2.2.1.High.Y, d2.Y, ())).bind fun x11 => rec (t1.1, t1.2.1, (⟨⟨x8.1, x9.1⟩, ⟨x10.1, x11.1⟩⟩ : Box), t1.2.2.2.1, t1.2.2.2.2.1, (w64 (t1.2.2.2.2.2.1 + 1)), ())))) (K (t1.1, t1.2.1, t1.2.2.1, t1.2.2.2.1, t1.2.2.2.2.1, t1.2.2.2.2.2.1, ()))
noncomputable def F46 (f94 : T94) (f78 : T78) (f95 : T95) (a : List Place × Unit) : Option (Box × Bool × Unit) :=
  iterF (s46_0 f94 f78 f95) fuel (a.1, (⟨⟨0, 0⟩, ⟨0, 0⟩⟩ : Box), (⟨⟨0, 0⟩, ⟨0, 0⟩⟩ : Box), a.1, (Int.ofNat (List.length a.1)), 0, ()) fun t12 => some (t12.2.2.1, (decide ((Int.ofNat (List.length t12.1)) > 0)), ())
def E46 (f94 : T94) (f78 : T78) (f95 : T95) : Env := envL [(94, N94 f94), (78, N78 f78), (95, N95 f95)]
noncomputable def L46 (f94 : T94) (f78 : T78) (f95 : T95) : LEnv (densS (muts p46 ++ r46)) := lenv [(0, loopL (R := densS (muts p46 ++ r46)) q46_0 (s46_0 f94 f78 f95))]
theorem e46_0 (f94 : T94) (f78 : T78) (f95 : T95) (X : Nat → St → Option (densS (muts p46 ++ r46))) (rec K : densS q46_0 → Option (densS (muts p46 ++ r46))) (t : densS q46_0) :
    ev (E46 f94 f78 f95) tab (fun _ => false) (L46 f94 f78 f95) (retK tab p46 r46 Proofs.Tryz.f46.results.toList) (loopC Proofs.Tryz.f46 0) (fun i s => cond (Nat.beq i 0) (decK 100 q46_0 s K) (X i s)) (fun s => decK 100 q46_0 s rec) (enc q46_0 t) = s46_0 f94 f78 f95 t rec K := by kernel_rfl
theorem e46 (f94 : T94) (f78 : T78) (f95 : T95) (a : densS p46) : runF (E46 f94 f78 f95) tab (fun _ => false) p46 r46 Proofs.Tryz.f46 (L46 f94 f78 f95) a = F46 f94 f78 f95 a := by kernel_rfl
theorem ok46 {f94 : T94} {f78 : T78} {f95 : T95} (h94 : OK Proofs.Tryz.prog 94 (N94 f94)) (h78 : OK Proofs.Tryz.prog 78 (N78 f78)) (h95 : OK Proofs.Tryz.prog 95 (N95 f95)) : OK Proofs.Tryz.prog 46 (mkE p46 r46 false (F46 f94 f78 f95)) :=
  fn_ok (E := E46 f94 f78 f95) tab_ok (envL_ok (OKs.cons h94 (OKs.cons h78 (OKs.cons h95 OKs.nil)))) mixed (ann := (fun _ => false)) (L := L46 f94 f78 f95) (fn := Proofs.Tryz.f46) (c := bodyC Proofs.Tryz.f46) (ls := [(0, loopC Proofs.Tryz.f46 0)]) Proofs.Tryz.func46 (by kernel_rfl) (by kernel_rfl) (by kernel_rfl) (by kernel_rfl)
    (LoopsP.cons q46_0 (s46_0 f94 f78 f95) rfl (e46_0 f94 f78 f95) LoopsP.nil) (e46 f94 f78 f95)
/-! spec.RoseBox -/
def p110 : List SP := [.one (.r .place), .one (.int .i64)]
def r110 : List SP := [.t .box, .one (.bool)]
abbrev T110 := List Place × Int × Unit → Option (Box × Bool × Unit)
abbrev N110 (f : T110) : Entry := mkE p110 r110 false f
noncomputable def F110 (f46 : T46) (f60 : T60) (a : List Place × Int × Unit) : Option (Box × Bool × Unit) :=
  (f46 (a.1, ())).bind fun x1 => (f60 (a.1, ())).bind fun x2 => cond (!(!x2.1)) (cond (!(decide (a.2.1 < 0))) (cond (decide (a.2.1 > 128)) (some ((⟨⟨0, 0⟩, ⟨0, 0⟩⟩ : Box), false, ())) (some ((⟨⟨(w64 (a.2.1 * x1.1.Low.X)), (w64 (a.2.1 * x1.1.Low.Y))⟩, ⟨(w64 (a.2.1 * x1.1.High.X)), (w64 (a.2.1 * x1.1.High.Y))⟩⟩ : Box), true, ()))) (some ((⟨⟨0, 0⟩, ⟨0, 0⟩⟩ : Box), false, ()))) (some ((⟨⟨0, 0⟩, ⟨0, 0⟩⟩ : Box), false, ()))
def E110 (f46 : T46) (f60 : T60) : Env := envL [(46, N46 f46), (60, N60 f60)]
noncomputable def L110 (f46 : T46) (f60 : T60) : LEnv (densS (muts p110 ++ r110)) := lenv []
theorem e110 (f46 : T46) (f60 : T60) (a : densS p110) : runF (E110 f46 f60) tab (fun _ => false) p110 r110 Proofs.Tryz.f110 (L110 f46 f60) a = F110 f46 f60 a := by kernel_rfl
theorem ok110 {f46 : T46} {f60 : T60} (h46 : OK Proofs.Tryz.prog 46 (N46 f46)) (h60 : OK Proofs.Tryz.prog 60 (N60 f60)) : OK Proofs.Tryz.prog 110 (mkE p110 r110 false (F110 f46 f60)) :=
  fn_ok (E := E110 f46 f60) tab_ok (envL_ok (OKs.cons h46 (OKs.cons h60 OKs.nil))) mixed (ann := (fun _ => false)) (L := L110 f46 f60) (fn := Proofs.Tryz.f110) (c := bodyC Proofs.Tryz.f110) (ls := []) Proofs.Tryz.func110 (by kernel_rfl) (by kernel_rfl) (by kernel_rfl) (by kernel_rfl)
    LoopsP.nil (e110 f46 f60)
/-! spec.LandingBox -/
def p62 : List SP := [.t .jet, .one (.r .place)]
def r62 : List SP := [.t .box, .one (.bool)]
abbrev T62 := Jet × List Place × Unit → Option (Box × Bool × Unit)
abbrev N62 (f : T62) : Entry := mkE p62 r62 false f
noncomputable def F62 (f109 : T109) (f93 : T93) (f110 : T110) (f111 : T111) (a : Jet × List Place × Unit) : Option (Box × Bool × Unit) :=
  (f109 (a.1, ())).bind fun x1 => (f93 (a.1, ())).bind fun x2 => (f110 (a.2.1, x2.1, ())).bind fun x3 => cond (!(!x1.2.1)) (cond (!x3.2.1) (some ((⟨⟨0, 0⟩, ⟨0, 0⟩⟩ : Box), false, ())) ((f111 (x1.1, x3.1.Low, ())).bind fun x4 => (f111 (x1.1, x3.1.High, ())).bind fun x5 => some ((⟨⟨x4.1.X, x4.1.Y⟩, ⟨x5.1.X, x5.1.Y⟩⟩ : Box), true, ()))) (some ((⟨⟨0, 0⟩, ⟨0, 0⟩⟩ : Box), false, ()))
def E62 (f109 : T109) (f93 : T93) (f110 : T110) (f111 : T111) : Env := envL [(109, N109 f109), (93, N93 f93), (110, N110 f110), (111, N111 f111)]
noncomputable def L62 (f109 : T109) (f93 : T93) (f110 : T110) (f111 : T111) : LEnv (densS (muts p62 ++ r62)) := lenv []
theorem e62 (f109 : T109) (f93 : T93) (f110 : T110) (f111 : T111) (a : densS p62) : runF (E62 f109 f93 f110 f111) tab (fun _ => false) p62 r62 Proofs.Tryz.f62 (L62 f109 f93 f110 f111) a = F62 f109 f93 f110 f111 a := by kernel_rfl
theorem ok62 {f109 : T109} {f93 : T93} {f110 : T110} {f111 : T111} (h109 : OK Proofs.Tryz.prog 109 (N109 f109)) (h93 : OK Proofs.Tryz.prog 93 (N93 f93)) (h110 : OK Proofs.Tryz.prog 110 (N110 f110)) (h111 : OK Proofs.Tryz.prog 111 (N111 f111)) : OK Proofs.Tryz.prog 62 (mkE p62 r62 false (F62 f109 f93 f110 f111)) :=
  fn_ok (E := E62 f109 f93 f110 f111) tab_ok (envL_ok (OKs.cons h109 (OKs.cons h93 (OKs.cons h110 (OKs.cons h111 OKs.nil))))) mixed (ann := (fun _ => false)) (L := L62 f109 f93 f110 f111) (fn := Proofs.Tryz.f62) (c := bodyC Proofs.Tryz.f62) (ls := []) Proofs.Tryz.func62 (by kernel_rfl) (by kernel_rfl) (by kernel_rfl) (by kernel_rfl)
    LoopsP.nil (e62 f109 f93 f110 f111)
/-! spec.LeastBasin -/
def p24 : List SP := [.agg [.r .device, .r .cue, .r .gust, .int .i64], .one (.r .place)]
def r24 : List SP := [.t .box, .one (.bool)]
abbrev T24 := ShD × List Place × Unit → Option (Box × Bool × Unit)
abbrev N24 (f : T24) : Entry := mkE p24 r24 false f
def q24_0 : List SP := pat 47 0 [(1, .one (.r .place)), (4, .boxt 5000001 .box), (6, .one (.o 5000002 .place)), (22, .one (.o 5000003 .throw)), (23, .one (.int .i64)), (24, .one (.int .i64))]
noncomputable def s24_0 (f16 : T16) (f60 : T60) (f61 : T61) (f62 : T62) (f46 : T46) (t4 : List Place × Box × List Place × List Throw × Int × Int × Unit) (rec K : List Place × Box × List Place × List Throw × Int × Int × Unit → Option (Box × Bool × Unit)) : Option (Box × Bool × Unit) :=
  cond (decide (t4.2.2.2.2.2.1 < t4.2.2.2.2.1)) (rdL t4.2.2.2.1 t4.2.2.2.2.2.1 fun _ => (t4.2.2.2.1[(Int.toNat t4.2.2.2.2.2.1)]?).bind fun d5 => (f62 (d5.jet, t4.1, ())).bind fun x6 => capK (List.length t4.2.2.1 + List.length ([x6.1.Low, x6.1.High] : List Place)) (rec (t4.1, t4.2.1, (t4.2.2.1 ++ ([x6.1.Low, x6.1.High] : List Place)), t4.2.2.2.1, t4.2.2.2.2.1, (w64 (t4.2.2.2.2.2.1 + 1)), ()))) (K (t4.1, t4.2.1, t4.2.2.1, t4.2.2.2.1, t4.2.2.2.2.1, t4.2.2.2.2.2.1, ()))
noncomputable def F24 (f16 : T16) (f60 : T60) (f61 : T61) (f62 : T62) (f46 : T46) (a : ShD × List Place × Unit) : Option (Box × Bool × Unit) :=
  (f16 ((a.1.1, a.1.2.1, a.1.2.2.1, a.1.2.2.2.1, ()), ())).bind fun x1 => cond (!(!x1.1)) ((f60 (a.2.1, ())).bind fun x2 => cond (!x2.1) (some ((⟨⟨0, 0⟩, ⟨0, 0⟩⟩ : Box), false, ())) ((f61 ((a.1.1, a.1.2.1, a.1.2.2.1, a.1.2.2.2.1, ()), ())).bind fun x3 => iterF (s24_0 f16 f60 f61 f62 f46) fuel (a.2.1, (⟨⟨0, 0⟩, ⟨0, 0⟩⟩ : Box), ([] : List Place), x3.1, (Int.ofNat (List.length x3.1)), 0, ()) fun t7 => (f46 (t7.2.2.1, ())).bind fun x8 => some (x8.1, x8.2.1, ()))) (some ((⟨⟨0, 0⟩, ⟨0, 0⟩⟩ : Box), false, ()))
def E24 (f16 : T16) (f60 : T60) (f61 : T61) (f62 : T62) (f46 : T46) : Env := envL [(16, N16 f16), (60, N60 f60), (61, N61 f61), (62, N62 f62), (46, N46 f46)]
noncomputable def L24 (f16 : T16) (f60 : T60) (f61 : T61) (f62 : T62) (f46 : T46) : LEnv (densS (muts p24 ++ r24)) := lenv [(0, loopL (R := densS (muts p24 ++ r24)) q24_0 (s24_0 f16 f60 f61 f62 f46))]
theorem e24_0 (f16 : T16) (f60 : T60) (f61 : T61) (f62 : T62) (f46 : T46) (X : Nat → St → Option (densS (muts p24 ++ r24))) (rec K : densS q24_0 → Option (densS (muts p24 ++ r24))) (t : densS q24_0) :
    ev (E24 f16 f60 f61 f62 f46) tab (fun _ => false) (L24 f16 f60 f61 f62 f46) (retK tab p24 r24 Proofs.Tryz.f24.results.toList) (loopC Proofs.Tryz.f24 0) (fun i s => cond (Nat.beq i 0) (decK 100 q24_0 s K) (X i s)) (fun s => decK 100 q24_0 s rec) (enc q24_0 t) = s24_0 f16 f60 f61 f62 f46 t rec K := by kernel_rfl
theorem e24 (f16 : T16) (f60 : T60) (f61 : T61) (f62 : T62) (f46 : T46) (a : densS p24) : runF (E24 f16 f60 f61 f62 f46) tab (fun _ => false) p24 r24 Proofs.Tryz.f24 (L24 f16 f60 f61 f62 f46) a = F24 f16 f60 f61 f62 f46 a := by kernel_rfl
theorem ok24 {f16 : T16} {f60 : T60} {f61 : T61} {f62 : T62} {f46 : T46} (h16 : OK Proofs.Tryz.prog 16 (N16 f16)) (h60 : OK Proofs.Tryz.prog 60 (N60 f60)) (h61 : OK Proofs.Tryz.prog 61 (N61 f61)) (h62 : OK Proofs.Tryz.prog 62 (N62 f62)) (h46 : OK Proofs.Tryz.prog 46 (N46 f46)) : OK Proofs.Tryz.prog 24 (mkE p24 r24 false (F24 f16 f60 f61 f62 f46)) :=
  fn_ok (E := E24 f16 f60 f61 f62 f46) tab_ok (envL_ok (OKs.cons h16 (OKs.cons h60 (OKs.cons h61 (OKs.cons h62 (OKs.cons h46 OKs.nil)))))) mixed (ann := (fun _ => false)) (L := L24 f16 f60 f61 f62 f46) (fn := Proofs.Tryz.f24) (c := bodyC Proofs.Tryz.f24) (ls := [(0, loopC Proofs.Tryz.f24 0)]) Proofs.Tryz.func24 (by kernel_rfl) (by kernel_rfl) (by kernel_rfl) (by kernel_rfl)
    (LoopsP.cons q24_0 (s24_0 f16 f60 f61 f62 f46) rfl (e24_0 f16 f60 f61 f62 f46) LoopsP.nil) (e24 f16 f60 f61 f62 f46)
/-! spec.l1Odd -/
def p73 : List SP := [.box 0 [.r .u8, .int .i64, .int .i64]]
def r73 : List SP := [.one (.int .i64)]
abbrev T73 := CuD × Unit → Option (CuD × Int × Unit)
abbrev N73 (f : T73) : Entry := mkE p73 r73 true f
noncomputable def F73 (f77 : T77) (a : CuD × Unit) : Option (CuD × Int × Unit) :=
  (f77 ((a.1.1, a.1.2.1, a.1.2.2.1, ()), ([(-1), 0, 1, 2, 3, 7, 8, 9, 15, 16, 17, 63, 64, 65, 999, 1000, 4096, 4097, 9223372036854775807, (-9223372036854775808)] : List Int), ())).bind fun x1 => some ((x1.1.1, x1.1.2.1, x1.1.2.2.1, ()), x1.2.1, ())
def E73 (f77 : T77) : Env := envL [(77, N77 f77)]
noncomputable def L73 (f77 : T77) : LEnv (densS (muts p73 ++ r73)) := lenv []
theorem e73 (f77 : T77) (a : densS p73) : runF (E73 f77) tab (fun _ => false) p73 r73 Proofs.Tryz.f73 (L73 f77) a = F73 f77 a := by kernel_rfl
theorem ok73 {f77 : T77} (h77 : OK Proofs.Tryz.prog 77 (N77 f77)) : OK Proofs.Tryz.prog 73 (mkE p73 r73 true (F73 f77)) :=
  fn_ok (E := E73 f77) tab_ok (envL_ok (OKs.cons h77 OKs.nil)) mixed (ann := (fun _ => false)) (L := L73 f77) (fn := Proofs.Tryz.f73) (c := bodyC Proofs.Tryz.f73) (ls := []) Proofs.Tryz.func73 (by kernel_rfl) (by kernel_rfl) (by kernel_rfl) (by kernel_rfl)
    LoopsP.nil (e73 f77)
/-! spec.l2Any -/
def p142 : List SP := [.box 0 [.r .u8, .int .i64, .int .i64]]
def r142 : List SP := [.t .place]
abbrev T142 := CuD × Unit → Option (CuD × Place × Unit)
abbrev N142 (f : T142) : Entry := mkE p142 r142 true f
noncomputable def F142 (f119 : T119) (f47 : T47) (f73 : T73) (f77 : T77) (a : CuD × Unit) : Option (CuD × Place × Unit) :=
  (f119 ((a.1.1, a.1.2.1, a.1.2.2.1, ()), ())).bind fun x1 => (f47 ((x1.1.1, x1.1.2.1, x1.1.2.2.1, ()), 9, ())).bind fun x2 => cond x2.2.1 ((f73 ((x2.1.1, x2.1.2.1, x2.1.2.2.1, ()), ())).bind fun x3 => (f47 ((x3.1.1, x3.1.2.1, x3.1.2.2.1, ()), 9, ())).bind fun x4 => cond x4.2.1 ((f77 ((x4.1.1, x4.1.2.1, x4.1.2.2.1, ()), ([4096, (-4096), 4097, (-4097), 4090] : List Int), ())).bind fun x5 => some ((x5.1.1, x5.1.2.1, x5.1.2.2.1, ()), (⟨x3.2.1, x5.2.1⟩ : Place), ())) (some ((x4.1.1, x4.1.2.1, x4.1.2.2.1, ()), (⟨x3.2.1, x1.2.1.Y⟩ : Place), ()))) ((f47 ((x2.1.1, x2.1.2.1, x2.1.2.2.1, ()), 9, ())).bind fun x6 => cond x6.2.1 ((f77 ((x6.1.1, x6.1.2.1, x6.1.2.2.1, ()), ([4096, (-4096), 4097, (-4097), 4090] : List Int), ())).bind fun x7 => some ((x7.1.1, x7.1.2.1, x7.1.2.2.1, ()), (⟨x1.2.1.X, x7.2.1⟩ : Place), ())) (some ((x6.1.1, x6.1.2.1, x6.1.2.2.1, ()), x1.2.1, ())))
def E142 (f119 : T119) (f47 : T47) (f73 : T73) (f77 : T77) : Env := envL [(119, N119 f119), (47, N47 f47), (73, N73 f73), (77, N77 f77)]
noncomputable def L142 (f119 : T119) (f47 : T47) (f73 : T73) (f77 : T77) : LEnv (densS (muts p142 ++ r142)) := lenv []
theorem e142 (f119 : T119) (f47 : T47) (f73 : T73) (f77 : T77) (a : densS p142) : runF (E142 f119 f47 f73 f77) tab (fun _ => false) p142 r142 Proofs.Tryz.f142 (L142 f119 f47 f73 f77) a = F142 f119 f47 f73 f77 a := by kernel_rfl
theorem ok142 {f119 : T119} {f47 : T47} {f73 : T73} {f77 : T77} (h119 : OK Proofs.Tryz.prog 119 (N119 f119)) (h47 : OK Proofs.Tryz.prog 47 (N47 f47)) (h73 : OK Proofs.Tryz.prog 73 (N73 f73)) (h77 : OK Proofs.Tryz.prog 77 (N77 f77)) : OK Proofs.Tryz.prog 142 (mkE p142 r142 true (F142 f119 f47 f73 f77)) :=
  fn_ok (E := E142 f119 f47 f73 f77) tab_ok (envL_ok (OKs.cons h119 (OKs.cons h47 (OKs.cons h73 (OKs.cons h77 OKs.nil))))) mixed (ann := (fun _ => false)) (L := L142 f119 f47 f73 f77) (fn := Proofs.Tryz.f142) (c := bodyC Proofs.Tryz.f142) (ls := []) Proofs.Tryz.func142 (by kernel_rfl) (by kernel_rfl) (by kernel_rfl) (by kernel_rfl)
    LoopsP.nil (e142 f119 f47 f73 f77)
/-! spec.l2Box -/
def p96 : List SP := [.box 0 [.r .u8, .int .i64, .int .i64]]
def r96 : List SP := [.t .box]
abbrev T96 := CuD × Unit → Option (CuD × Box × Unit)
abbrev N96 (f : T96) : Entry := mkE p96 r96 true f
noncomputable def F96 (f119 : T119) (f30 : T30) (f142 : T142) (a : CuD × Unit) : Option (CuD × Box × Unit) :=
  (f119 ((a.1.1, a.1.2.1, a.1.2.2.1, ()), ())).bind fun x1 => (f30 ((x1.1.1, x1.1.2.1, x1.1.2.2.1, ()), 90, ())).bind fun x2 => both ((f30 ((x2.1.1, x2.1.2.1, x2.1.2.2.1, ()), 90, ())).bind fun x3 => (f30 ((x3.1.1, x3.1.2.1, x3.1.2.2.1, ()), 14, ())).bind fun x4 => cond (decide (x4.2.1 = 0)) ((f142 ((x4.1.1, x4.1.2.1, x4.1.2.2.1, ()), ())).bind fun x5 => some ((x5.1.1, x5.1.2.1, x5.1.2.2.1, ()), (⟨⟨x1.2.1.X, x1.2.1.Y⟩, ⟨x5.2.1.X, x5.2.1.Y⟩⟩ : Box), ())) (cond (decide (x4.2.1 = 1)) ((f142 ((x4.1.1, x4.1.2.1, x4.1.2.2.1, ()), ())).bind fun x6 => some ((x6.1.1, x6.1.2.1, x6.1.2.2.1, ()), (⟨⟨x6.2.1.X, x6.2.1.Y⟩, ⟨(w64 (x1.2.1.X + x2.2.1)), (w64 (x1.2.1.Y + x3.2.1))⟩⟩ : Box), ())) (some ((x4.1.1, x4.1.2.1, x4.1.2.2.1, ()), (⟨⟨x1.2.1.X, x1.2.1.Y⟩, ⟨(w64 (x1.2.1.X + x2.2.1)), (w64 (x1.2.1.Y + x3.2.1))⟩⟩ : Box), ())))) ((f30 ((x2.1.1, x2.1.2.1, x2.1.2.2.1, ()), 90, ())).bind fun x7 => both ((f30 ((x7.1.1, x7.1.2.1, x7.1.2.2.1, ()), 14, ())).bind fun x8 => cond (decide (x8.2.1 = 0)) ((f142 ((x8.1.1, x8.1.2.1, x8.1.2.2.1, ()), ())).bind fun x9 => some ((x9.1.1, x9.1.2.1, x9.1.2.2.1, ()), (⟨⟨x1.2.1.X, x1.2.1.Y⟩, ⟨x9.2.1.X, x9.2.1.Y⟩⟩ : Box), ())) (cond (decide (x8.2.1 = 1)) ((f142 ((x8.1.1, x8.1.2.1, x8.1.2.2.1, ()), ())).bind fun x10 => some ((x10.1.1, x10.1.2.1, x10.1.2.2.1, ()), (⟨⟨x10.2.1.X, x10.2.1.Y⟩, ⟨(w64 (x1.2.1.X + x2.2.1)), (w64 (x1.2.1.Y + x7.2.1))⟩⟩ : Box), ())) (some ((x8.1.1, x8.1.2.1, x8.1.2.2.1, ()), (⟨⟨x1.2.1.X, x1.2.1.Y⟩, ⟨(w64 (x1.2.1.X + x2.2.1)), (w64 (x1.2.1.Y + x7.2.1))⟩⟩ : Box), ())))) ((f30 ((x7.1.1, x7.1.2.1, x7.1.2.2.1, ()), 14, ())).bind fun x11 => cond (decide (x11.2.1 = 0)) ((f142 ((x11.1.1, x11.1.2.1, x11.1.2.2.1, ()), ())).bind fun x12 => some ((x12.1.1, x12.1.2.1, x12.1.2.2.1, ()), (⟨⟨x1.2.1.X, x1.2.1.Y⟩, ⟨x12.2.1.X, x12.2.1.Y⟩⟩ : Box), ())) (cond (decide (x11.2.1 = 1)) ((f142 ((x11.1.1, x11.1.2.1, x11.1.2.2.1, ()), ())).bind fun x13 => some ((x13.1.1, x13.1.2.1, x13.1.2.2.1, ()), (⟨⟨x13.2.1.X, x13.2.1.Y⟩, ⟨(w64 (x1.2.1.X + x2.2.1)), (w64 (x1.2.1.Y + x7.2.1))⟩⟩ : Box), ())) (some ((x11.1.1, x11.1.2.1, x11.1.2.2.1, ()), (⟨⟨x1.2.1.X, x1.2.1.Y⟩, ⟨(w64 (x1.2.1.X + x2.2.1)), (w64 (x1.2.1.Y + x7.2.1))⟩⟩ : Box), ())))))
def E96 (f119 : T119) (f30 : T30) (f142 : T142) : Env := envL [(119, N119 f119), (30, N30 f30), (142, N142 f142)]
noncomputable def L96 (f119 : T119) (f30 : T30) (f142 : T142) : LEnv (densS (muts p96 ++ r96)) := lenv []
theorem e96 (f119 : T119) (f30 : T30) (f142 : T142) (a : densS p96) : runF (E96 f119 f30 f142) tab (fun n => Nat.beq n 1200000 || Nat.beq n 1299998) p96 r96 Proofs.Tryz.f96 (L96 f119 f30 f142) a = F96 f119 f30 f142 a := by kernel_rfl
theorem ok96 {f119 : T119} {f30 : T30} {f142 : T142} (h119 : OK Proofs.Tryz.prog 119 (N119 f119)) (h30 : OK Proofs.Tryz.prog 30 (N30 f30)) (h142 : OK Proofs.Tryz.prog 142 (N142 f142)) : OK Proofs.Tryz.prog 96 (mkE p96 r96 true (F96 f119 f30 f142)) :=
  fn_ok (E := E96 f119 f30 f142) tab_ok (envL_ok (OKs.cons h119 (OKs.cons h30 (OKs.cons h142 OKs.nil)))) mixed (ann := (fun n => Nat.beq n 1200000 || Nat.beq n 1299998)) (L := L96 f119 f30 f142) (fn := Proofs.Tryz.f96) (c := bodyC Proofs.Tryz.f96) (ls := []) Proofs.Tryz.func96 (by kernel_rfl) (by kernel_rfl) (by kernel_rfl) (by kernel_rfl)
    LoopsP.nil (e96 f119 f30 f142)
/-! spec.l10Basin -/
def p48 : List SP := [.box 0 [.r .u8, .int .i64, .int .i64]]
def r48 : List SP := [.t .box]
abbrev T48 := CuD × Unit → Option (CuD × Box × Unit)
abbrev N48 (f : T48) : Entry := mkE p48 r48 true f
noncomputable def F48 (f30 : T30) (f96 : T96) (a : CuD × Unit) : Option (CuD × Box × Unit) :=
  (f30 ((a.1.1, a.1.2.1, a.1.2.2.1, ()), 400, ())).bind fun x1 => (f30 ((x1.1.1, x1.1.2.1, x1.1.2.2.1, ()), 400, ())).bind fun x2 => (f30 ((x2.1.1, x2.1.2.1, x2.1.2.2.1, ()), 400, ())).bind fun x3 => (f30 ((x3.1.1, x3.1.2.1, x3.1.2.2.1, ()), 400, ())).bind fun x4 => (f30 ((x4.1.1, x4.1.2.1, x4.1.2.2.1, ()), 12, ())).bind fun x5 => cond (decide (x5.2.1 = 0)) ((f96 ((x5.1.1, x5.1.2.1, x5.1.2.2.1, ()), ())).bind fun x6 => some ((x6.1.1, x6.1.2.1, x6.1.2.2.1, ()), x6.2.1, ())) (cond (decide (x5.2.1 = 1)) (some ((x5.1.1, x5.1.2.1, x5.1.2.2.1, ()), (⟨⟨(-1900), (-1900)⟩, ⟨1900, 1900⟩⟩ : Box), ())) (some ((x5.1.1, x5.1.2.1, x5.1.2.2.1, ()), (⟨⟨(w64 (0 - x1.2.1)), (w64 (0 - x2.2.1))⟩, ⟨x3.2.1, x4.2.1⟩⟩ : Box), ())))
def E48 (f30 : T30) (f96 : T96) : Env := envL [(30, N30 f30), (96, N96 f96)]
noncomputable def L48 (f30 : T30) (f96 : T96) : LEnv (densS (muts p48 ++ r48)) := lenv []
theorem e48 (f30 : T30) (f96 : T96) (a : densS p48) : runF (E48 f30 f96) tab (fun _ => false) p48 r48 Proofs.Tryz.f48 (L48 f30 f96) a = F48 f30 f96 a := by kernel_rfl
theorem ok48 {f30 : T30} {f96 : T96} (h30 : OK Proofs.Tryz.prog 30 (N30 f30)) (h96 : OK Proofs.Tryz.prog 96 (N96 f96)) : OK Proofs.Tryz.prog 48 (mkE p48 r48 true (F48 f30 f96)) :=
  fn_ok (E := E48 f30 f96) tab_ok (envL_ok (OKs.cons h30 (OKs.cons h96 OKs.nil))) mixed (ann := (fun _ => false)) (L := L48 f30 f96) (fn := Proofs.Tryz.f48) (c := bodyC Proofs.Tryz.f48) (ls := []) Proofs.Tryz.func48 (by kernel_rfl) (by kernel_rfl) (by kernel_rfl) (by kernel_rfl)
    LoopsP.nil (e48 f30 f96)
/-! spec.l10Near -/
def p54 : List SP := [.box 0 [.r .u8, .int .i64, .int .i64], .agg [.r .device, .r .cue, .r .gust, .int .i64], .one (.r .place)]
def r54 : List SP := [.t .box]
abbrev T54 := CuD × ShD × List Place × Unit → Option (CuD × Box × Unit)
abbrev N54 (f : T54) : Entry := mkE p54 r54 true f
noncomputable def F54 (f24 : T24) (f47 : T47) (f48 : T48) (f30 : T30) (a : CuD × ShD × List Place × Unit) : Option (CuD × Box × Unit) :=
  (f24 ((a.2.1.1, a.2.1.2.1, a.2.1.2.2.1, a.2.1.2.2.2.1, ()), a.2.2.1, ())).bind fun x1 => cond (!(!x1.2.1)) ((f47 ((a.1.1, a.1.2.1, a.1.2.2.1, ()), 3, ())).bind fun x2 => cond x2.2.1 ((f48 ((x2.1.1, x2.1.2.1, x2.1.2.2.1, ()), ())).bind fun x3 => some ((x3.1.1, x3.1.2.1, x3.1.2.2.1, ()), x3.2.1, ())) ((f30 ((x2.1.1, x2.1.2.1, x2.1.2.2.1, ()), 7, ())).bind fun x4 => cond (decide (x4.2.1 = 0)) (some ((x4.1.1, x4.1.2.1, x4.1.2.2.1, ()), (⟨⟨(w64 (x1.1.Low.X + 1)), x1.1.Low.Y⟩, ⟨x1.1.High.X, x1.1.High.Y⟩⟩ : Box), ())) (cond (decide (x4.2.1 = 1)) (some ((x4.1.1, x4.1.2.1, x4.1.2.2.1, ()), (⟨⟨x1.1.Low.X, (w64 (x1.1.Low.Y + 1))⟩, ⟨x1.1.High.X, x1.1.High.Y⟩⟩ : Box), ())) (cond (decide (x4.2.1 = 2)) (some ((x4.1.1, x4.1.2.1, x4.1.2.2.1, ()), (⟨⟨x1.1.Low.X, x1.1.Low.Y⟩, ⟨(w64 (x1.1.High.X - 1)), x1.1.High.Y⟩⟩ : Box), ())) (cond (decide (x4.2.1 = 3)) (some ((x4.1.1, x4.1.2.1, x4.1.2.2.1, ()), (⟨⟨x1.1.Low.X, x1.1.Low.Y⟩, ⟨x1.1.High.X, (w64 (x1.1.High.Y - 1))⟩⟩ : Box), ())) (some ((x4.1.1, x4.1.2.1, x4.1.2.2.1, ()), x1.1, ()))))))) ((f48 ((a.1.1, a.1.2.1, a.1.2.2.1, ()), ())).bind fun x5 => some ((x5.1.1, x5.1.2.1, x5.1.2.2.1, ()), x5.2.1, ()))
def E54 (f24 : T24) (f47 : T47) (f48 : T48) (f30 : T30) : Env := envL [(24, N24 f24), (47, N47 f47), (48, N48 f48), (30, N30 f30)]
noncomputable def L54 (f24 : T24) (f47 : T47) (f48 : T48) (f30 : T30) : LEnv (densS (muts p54 ++ r54)) := lenv []
theorem e54 (f24 : T24) (f47 : T47) (f48 : T48) (f30 : T30) (a : densS p54) : runF (E54 f24 f47 f48 f30) tab (fun _ => false) p54 r54 Proofs.Tryz.f54 (L54 f24 f47 f48 f30) a = F54 f24 f47 f48 f30 a := by kernel_rfl
theorem ok54 {f24 : T24} {f47 : T47} {f48 : T48} {f30 : T30} (h24 : OK Proofs.Tryz.prog 24 (N24 f24)) (h47 : OK Proofs.Tryz.prog 47 (N47 f47)) (h48 : OK Proofs.Tryz.prog 48 (N48 f48)) (h30 : OK Proofs.Tryz.prog 30 (N30 f30)) : OK Proofs.Tryz.prog 54 (mkE p54 r54 true (F54 f24 f47 f48 f30)) :=
  fn_ok (E := E54 f24 f47 f48 f30) tab_ok (envL_ok (OKs.cons h24 (OKs.cons h47 (OKs.cons h48 (OKs.cons h30 OKs.nil))))) mixed (ann := (fun _ => false)) (L := L54 f24 f47 f48 f30) (fn := Proofs.Tryz.f54) (c := bodyC Proofs.Tryz.f54) (ls := []) Proofs.Tryz.func54 (by kernel_rfl) (by kernel_rfl) (by kernel_rfl) (by kernel_rfl)
    LoopsP.nil (e54 f24 f47 f48 f30)
/-! spec.IsBox -/
def p55 : List SP := [.t .box]
def r55 : List SP := [.one (.bool)]
abbrev T55 := Box × Unit → Option (Bool × Unit)
abbrev N55 (f : T55) : Entry := mkE p55 r55 false f
noncomputable def F55 (f94 : T94) (a : Box × Unit) : Option (Bool × Unit) :=
  (f94 (a.1.Low, ())).bind fun x1 => cond x1.1 ((f94 (a.1.High, ())).bind fun x2 => cond x2.1 (cond (decide (a.1.Low.X ≤ a.1.High.X)) (some ((decide (a.1.Low.Y ≤ a.1.High.Y)), ())) (some (false, ()))) (some (false, ()))) (some (false, ()))
def E55 (f94 : T94) : Env := envL [(94, N94 f94)]
noncomputable def L55 (f94 : T94) : LEnv (densS (muts p55 ++ r55)) := lenv []
theorem e55 (f94 : T94) (a : densS p55) : runF (E55 f94) tab (fun _ => false) p55 r55 Proofs.Tryz.f55 (L55 f94) a = F55 f94 a := by kernel_rfl
theorem ok55 {f94 : T94} (h94 : OK Proofs.Tryz.prog 94 (N94 f94)) : OK Proofs.Tryz.prog 55 (mkE p55 r55 false (F55 f94)) :=
  fn_ok (E := E55 f94) tab_ok (envL_ok (OKs.cons h94 OKs.nil)) mixed (ann := (fun _ => false)) (L := L55 f94) (fn := Proofs.Tryz.f55) (c := bodyC Proofs.Tryz.f55) (ls := []) Proofs.Tryz.func55 (by kernel_rfl) (by kernel_rfl) (by kernel_rfl) (by kernel_rfl)
    LoopsP.nil (e55 f94)
/-! spec.l12Fitting -/
def p56 : List SP := [.box 0 [.r .u8, .int .i64, .int .i64], .one (.r .place)]
def r56 : List SP := [.one (.o 1 .gust)]
abbrev T56 := CuD × List Place × Unit → Option (CuD × List Gust × Unit)
abbrev N56 (f : T56) : Entry := mkE p56 r56 true f
def q56_0 : List SP := pat 34 0 [(0, .box 0 [.r .u8, .int .i64, .int .i64]), (1, .one (.r .place)), (5, .one (.o 5000001 .gust)), (6, .one (.int .i64)), (7, .one (.int .i64))]
noncomputable def s56_0 (f30 : T30) (t2 : CuD × List Place × List Gust × Int × Int × Unit) (rec K : CuD × List Place × List Gust × Int × Int × Unit → Option (CuD × List Gust × Unit)) : Option (CuD × List Gust × Unit) :=
  cond (decide (t2.2.2.2.2.1 > 0)) ((f30 ((t2.1.1, t2.1.2.1, t2.1.2.2.1, ()), (Int.ofNat (List.length t2.2.1)), ())).bind fun x3 => rdL t2.2.1 x3.2.1 fun d4 => capK (List.length t2.2.2.1 + List.length ([(⟨t2.2.2.2.1, ⟨d4.X, d4.Y⟩⟩ : Gust)] : List Gust)) ((f30 ((x3.1.1, x3.1.2.1, x3.1.2.2.1, ()), 6, ())).bind fun x5 => rec ((x5.1.1, x5.1.2.1, x5.1.2.2.1, ()), t2.2.1, (t2.2.2.1 ++ ([(⟨t2.2.2.2.1, ⟨d4.X, d4.Y⟩⟩ : Gust)] : List Gust)), (w64 ((w64 (t2.2.2.2.1 + 1)) + x5.2.1)), (w64 (t2.2.2.2.2.1 - 1)), ()))) (K ((t2.1.1, t2.1.2.1, t2.1.2.2.1, ()), t2.2.1, t2.2.2.1, t2.2.2.2.1, t2.2.2.2.2.1, ()))
noncomputable def F56 (f30 : T30) (a : CuD × List Place × Unit) : Option (CuD × List Gust × Unit) :=
  (f30 ((a.1.1, a.1.2.1, a.1.2.2.1, ()), 6, ())).bind fun x1 => iterF (s56_0 f30) fuel ((x1.1.1, x1.1.2.1, x1.1.2.2.1, ()), a.2.1, ([] : List Gust), 0, (w64 (1 + x1.2.1)), ()) fun t6 => some ((t6.1.1, t6.1.2.1, t6.1.2.2.1, ()), t6.2.2.1, ())
def E56 (f30 : T30) : Env := envL [(30, N30 f30)]
noncomputable def L56 (f30 : T30) : LEnv (densS (muts p56 ++ r56)) := lenv [(0, loopL (R := densS (muts p56 ++ r56)) q56_0 (s56_0 f30))]
theorem e56_0 (f30 : T30) (X : Nat → St → Option (densS (muts p56 ++ r56))) (rec K : densS q56_0 → Option (densS (muts p56 ++ r56))) (t : densS q56_0) :
    ev (E56 f30) tab (fun _ => false) (L56 f30) (retK tab p56 r56 Proofs.Tryz.f56.results.toList) (loopC Proofs.Tryz.f56 0) (fun i s => cond (Nat.beq i 0) (decK 100 q56_0 s K) (X i s)) (fun s => decK 100 q56_0 s rec) (enc q56_0 t) = s56_0 f30 t rec K := by kernel_rfl
theorem e56 (f30 : T30) (a : densS p56) : runF (E56 f30) tab (fun _ => false) p56 r56 Proofs.Tryz.f56 (L56 f30) a = F56 f30 a := by kernel_rfl
theorem ok56 {f30 : T30} (h30 : OK Proofs.Tryz.prog 30 (N30 f30)) : OK Proofs.Tryz.prog 56 (mkE p56 r56 true (F56 f30)) :=
  fn_ok (E := E56 f30) tab_ok (envL_ok (OKs.cons h30 OKs.nil)) mixed (ann := (fun _ => false)) (L := L56 f30) (fn := Proofs.Tryz.f56) (c := bodyC Proofs.Tryz.f56) (ls := [(0, loopC Proofs.Tryz.f56 0)]) Proofs.Tryz.func56 (by kernel_rfl) (by kernel_rfl) (by kernel_rfl) (by kernel_rfl)
    (LoopsP.cons q56_0 (s56_0 f30) rfl (e56_0 f30) LoopsP.nil) (e56 f30)
/-! spec.DrawBasin -/
def p22 : List SP := [.one (.r .u8)]
def r22 : List SP := [.agg [.r .device, .r .cue, .r .gust, .int .i64], .one (.r .place), .t .box, .one (.o 0 .gust)]
abbrev T22 := List Int × Unit → Option (ShD × List Place × Box × List Gust × Unit)
abbrev N22 (f : T22) : Entry := mkE p22 r22 true f
noncomputable def F22 (f28 : T28) (f29 : T29) (f53 : T53) (f54 : T54) (f55 : T55) (f56 : T56) (a : List Int × Unit) : Option (ShD × List Place × Box × List Gust × Unit) :=
  (f28 (a.1, ())).bind fun x1 => (f29 ((x1.1.1, x1.1.2.1, x1.1.2.2.1, ()), ())).bind fun x2 => (f53 ((x2.1.1, x2.1.2.1, x2.1.2.2.1, ()), ())).bind fun x3 => (f54 ((x3.1.1, x3.1.2.1, x3.1.2.2.1, ()), (x2.2.1.1, x2.2.1.2.1, x2.2.1.2.2.1, x2.2.1.2.2.2.1, ()), x3.2.1, ())).bind fun x4 => (f55 (x4.2.1, ())).bind fun x5 => cond (!x5.1) ((f56 ((x4.1.1, x4.1.2.1, x4.1.2.2.1, ()), x3.2.1, ())).bind fun x6 => some ((x2.2.1.1, x2.2.1.2.1, x2.2.1.2.2.1, x2.2.1.2.2.2.1, ()), x3.2.1, (⟨⟨(-300), (-300)⟩, ⟨300, 300⟩⟩ : Box), x6.2.1, ())) ((f56 ((x4.1.1, x4.1.2.1, x4.1.2.2.1, ()), x3.2.1, ())).bind fun x7 => some ((x2.2.1.1, x2.2.1.2.1, x2.2.1.2.2.1, x2.2.1.2.2.2.1, ()), x3.2.1, x4.2.1, x7.2.1, ()))
def E22 (f28 : T28) (f29 : T29) (f53 : T53) (f54 : T54) (f55 : T55) (f56 : T56) : Env := envL [(28, N28 f28), (29, N29 f29), (53, N53 f53), (54, N54 f54), (55, N55 f55), (56, N56 f56)]
noncomputable def L22 (f28 : T28) (f29 : T29) (f53 : T53) (f54 : T54) (f55 : T55) (f56 : T56) : LEnv (densS (muts p22 ++ r22)) := lenv []
theorem e22 (f28 : T28) (f29 : T29) (f53 : T53) (f54 : T54) (f55 : T55) (f56 : T56) (a : densS p22) : runF (E22 f28 f29 f53 f54 f55 f56) tab (fun n => Nat.beq n 1700102 || Nat.beq n 1700111 || Nat.beq n 1799998) p22 r22 Proofs.Tryz.f22 (L22 f28 f29 f53 f54 f55 f56) a = F22 f28 f29 f53 f54 f55 f56 a := by kernel_rfl
theorem ok22 {f28 : T28} {f29 : T29} {f53 : T53} {f54 : T54} {f55 : T55} {f56 : T56} (h28 : OK Proofs.Tryz.prog 28 (N28 f28)) (h29 : OK Proofs.Tryz.prog 29 (N29 f29)) (h53 : OK Proofs.Tryz.prog 53 (N53 f53)) (h54 : OK Proofs.Tryz.prog 54 (N54 f54)) (h55 : OK Proofs.Tryz.prog 55 (N55 f55)) (h56 : OK Proofs.Tryz.prog 56 (N56 f56)) : OK Proofs.Tryz.prog 22 (mkE p22 r22 true (F22 f28 f29 f53 f54 f55 f56)) :=
  fn_ok (E := E22 f28 f29 f53 f54 f55 f56) tab_ok (envL_ok (OKs.cons h28 (OKs.cons h29 (OKs.cons h53 (OKs.cons h54 (OKs.cons h55 (OKs.cons h56 OKs.nil))))))) mixed (ann := (fun n => Nat.beq n 1700102 || Nat.beq n 1700111 || Nat.beq n 1799998)) (L := L22 f28 f29 f53 f54 f55 f56) (fn := Proofs.Tryz.f22) (c := bodyC Proofs.Tryz.f22) (ls := []) Proofs.Tryz.func22 (by kernel_rfl) (by kernel_rfl) (by kernel_rfl) (by kernel_rfl)
    LoopsP.nil (e22 f28 f29 f53 f54 f55 f56)
end Ev
