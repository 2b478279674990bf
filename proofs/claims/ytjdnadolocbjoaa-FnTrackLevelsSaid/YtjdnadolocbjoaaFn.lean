/- Functions of the program, as the evaluator sees them. -/
import Derived.Test.YtjdnadolocbjoaaPatA
set_option linter.unusedVariables false
set_option maxRecDepth 100000
namespace Ev
open Go
def tab : Tab := [(3, ⟨1, false, 8, [.int .i64 0], [], .int .i64, false⟩),
  (5, ⟨1, false, 1, [.int .u8 0], [], .int .u8, false⟩),
  (9, ⟨1, false, 16, [.str []], [], .str, false⟩),
  (22, ⟨1, false, 24, [.nils], [], .sl .u8, false⟩),
  (24, ⟨1, false, 24, [.nils], [], .sl .cue, false⟩),
  (27, ⟨1, false, 24, [.nils], [], .sl .int, false⟩),
  (37, ⟨2, true, 16, [.int .i64 0, .int .i64 0], [(0, 1, false), (1, 1, false)], .struct, false⟩),
  (39, ⟨8, true, 80, [.str [], .int .i64 0, .str [], .int .i64 0, .int .i64 0, .int .i64 0, .int .i64 0, .int .i64 0], [(0, 1, false), (1, 1, false), (2, 1, false), (3, 2, true), (5, 1, false), (6, 1, false), (7, 1, false)], .struct, true⟩),
  (52, ⟨5, true, 40, [.int .i64 0, .int .i64 0, .int .i64 0, .int .i64 0, .int .i64 0], [(0, 2, true), (2, 1, false), (3, 1, false), (4, 1, false)], .struct, false⟩),
  (54, ⟨1, false, 24, [.nils], [], .sl .device, false⟩),
  (55, ⟨1, false, 24, [.nils], [], .sl .gust, false⟩),
  (57, ⟨4, true, 80, [.nils, .nils, .nils, .int .i64 0], [(0, 1, false), (1, 1, false), (2, 1, false), (3, 1, false)], .struct, false⟩),
  (72, ⟨1, false, 24, [.nils], [], .sl .str, false⟩),
  (97, ⟨4, true, 40, [.int .i64 0, .str [], .int .i64 0, .int .i64 0], [(0, 1, false), (1, 1, false), (2, 1, false), (3, 1, false)], .struct, false⟩),
  (148, ⟨3, true, 40, [.nils, .int .i64 0, .int .i64 0], [(0, 1, false), (1, 1, false), (2, 1, false)], .struct, false⟩),
  (171, ⟨3, true, 24, [.int .i64 0, .int .i64 0, .int .i64 0], [(0, 1, false), (1, 2, true)], .struct, false⟩)]
theorem tab_ok : TabOK Proofs.Try.prog tab := tab_of2 (by kernel_rfl) (by kernel_rfl)
theorem mixed : Proofs.Try.prog.follows .mixedOrders = true := by kernel_rfl
/-! laws.big -/
def p10 : List SP := [.one (.r .u8)]
def r10 : List SP := [.one (.bool)]
noncomputable def F10 (a : List Int × Unit) : Option (Bool × Unit) :=
  some ((decide ((Int.ofNat (List.length a.1)) > 4096)), ())
def E10 : Env := envL []
noncomputable def L10 : LEnv (densS (muts p10 ++ r10)) := lenv []
theorem e10 (a : densS p10) : runF (E10) tab (fun _ => false) p10 r10 Proofs.Try.f10 (L10) a = F10 a := by kernel_rfl
theorem ok10 : OK Proofs.Try.prog 10 (mkE p10 r10 false (F10)) :=
  fn_ok tab_ok (envL_ok (l := []) OKs.nil) mixed (ann := (fun _ => false)) (L := L10) (fn := Proofs.Try.f10) (c := bodyC Proofs.Try.f10) (ls := []) Proofs.Try.func10 (by kernel_rfl) (by kernel_rfl) (by kernel_rfl) (by kernel_rfl)
    LoopsP.nil (e10)
/-! spec.l1New -/
def p48 : List SP := [.one (.r .u8)]
def r48 : List SP := [.box 0 [.r .u8, .int .i64, .int .i64]]
def q48_0 : List SP := pat 33 0 [(0, .one (.r .u8)), (3, .one (.int .i64)), (4, .one (.int .i64))]
noncomputable def s48_0 (t1 : List Int × Int × Int × Unit) (rec K : List Int × Int × Int × Unit → Option ((List Int × Int × Int × Unit) × Unit)) : Option ((List Int × Int × Int × Unit) × Unit) :=
  cond (decide (t1.2.2.1 < (Int.ofNat (List.length t1.1)))) (cond (decide (t1.2.2.1 < 4000)) (rdL t1.1 t1.2.2.1 fun d2 => rec (t1.1, (bitsOp .and .i64 (w64 ((w64 ((w64 (t1.2.1 * 167)) + (w64 d2))) + 29)) 1073741823), (w64 (t1.2.2.1 + 1)), ())) (K (t1.1, t1.2.1, t1.2.2.1, ()))) (K (t1.1, t1.2.1, t1.2.2.1, ()))
noncomputable def F48 (a : List Int × Unit) : Option ((List Int × Int × Int × Unit) × Unit) :=
  iterF (s48_0) fuel (a.1, (w64 (620033 + (w64 (3 * (Int.ofNat (List.length a.1)))))), 0, ()) fun t3 => some ((t3.1, 0, t3.2.1, ()), ())
def E48 : Env := envL []
noncomputable def L48 : LEnv (densS (muts p48 ++ r48)) := lenv [(0, loopL (R := densS (muts p48 ++ r48)) q48_0 (s48_0))]
theorem e48_0 (X : Nat → St → Option (densS (muts p48 ++ r48))) (rec K : densS q48_0 → Option (densS (muts p48 ++ r48))) (t : densS q48_0) :
    ev (E48) tab (fun _ => false) (L48) (retK tab p48 r48 Proofs.Try.f48.results.toList) (loopC Proofs.Try.f48 0) (fun i s => cond (Nat.beq i 0) (decK 100 q48_0 s K) (X i s)) (fun s => decK 100 q48_0 s rec) (enc q48_0 t) = s48_0 t rec K := by kernel_rfl
theorem e48 (a : densS p48) : runF (E48) tab (fun _ => false) p48 r48 Proofs.Try.f48 (L48) a = F48 a := by kernel_rfl
theorem ok48 : OK Proofs.Try.prog 48 (mkE p48 r48 true (F48)) :=
  fn_ok tab_ok (envL_ok (l := []) OKs.nil) mixed (ann := (fun _ => false)) (L := L48) (fn := Proofs.Try.f48) (c := bodyC Proofs.Try.f48) (ls := [(0, loopC Proofs.Try.f48 0)]) Proofs.Try.func48 (by kernel_rfl) (by kernel_rfl) (by kernel_rfl) (by kernel_rfl)
    (LoopsP.cons q48_0 (s48_0) rfl (e48_0) LoopsP.nil) (e48)
/-! spec.l1Byte -/
def p137 : List SP := [.box 0 [.r .u8, .int .i64, .int .i64]]
def r137 : List SP := [.one (.int .i64)]
noncomputable def F137 (a : (List Int × Int × Int × Unit) × Unit) : Option ((List Int × Int × Int × Unit) × Int × Unit) :=
  cond (decide (a.1.2.1 < (Int.ofNat (List.length a.1.1)))) (rdL a.1.1 a.1.2.1 fun d1 => some ((a.1.1, (w64 (a.1.2.1 + 1)), (w64 ((w64 (a.1.2.2.1 * 6364136223846793005)) + 1442695040888963407)), ()), (bitsOp .and .i64 (w64 ((bitsOp .and .i64 (bitsOp .xor .i64 (shrOp .i64 (w64 ((w64 (a.1.2.2.1 * 6364136223846793005)) + 1442695040888963407)) 35) (shrOp .i64 (w64 ((w64 (a.1.2.2.1 * 6364136223846793005)) + 1442695040888963407)) 45)) 255) + (w64 d1))) 255), ())) (some ((a.1.1, a.1.2.1, (w64 ((w64 (a.1.2.2.1 * 6364136223846793005)) + 1442695040888963407)), ()), (bitsOp .and .i64 (bitsOp .xor .i64 (shrOp .i64 (w64 ((w64 (a.1.2.2.1 * 6364136223846793005)) + 1442695040888963407)) 35) (shrOp .i64 (w64 ((w64 (a.1.2.2.1 * 6364136223846793005)) + 1442695040888963407)) 45)) 255), ()))
def E137 : Env := envL []
noncomputable def L137 : LEnv (densS (muts p137 ++ r137)) := lenv []
theorem e137 (a : densS p137) : runF (E137) tab (fun _ => false) p137 r137 Proofs.Try.f137 (L137) a = F137 a := by kernel_rfl
theorem ok137 : OK Proofs.Try.prog 137 (mkE p137 r137 true (F137)) :=
  fn_ok tab_ok (envL_ok (l := []) OKs.nil) mixed (ann := (fun _ => false)) (L := L137) (fn := Proofs.Try.f137) (c := bodyC Proofs.Try.f137) (ls := []) Proofs.Try.func137 (by kernel_rfl) (by kernel_rfl) (by kernel_rfl) (by kernel_rfl)
    LoopsP.nil (e137)
/-! spec.l1Below -/
def p77 : List SP := [.box 0 [.r .u8, .int .i64, .int .i64], .one (.int .i64)]
def r77 : List SP := [.one (.int .i64)]
noncomputable def F77 (f137 : (List Int × Int × Int × Unit) × Unit → Option ((List Int × Int × Int × Unit) × Int × Unit)) (a : (List Int × Int × Int × Unit) × Int × Unit) : Option ((List Int × Int × Int × Unit) × Int × Unit) :=
  cond (decide (a.2.1 ≤ 0)) (some ((a.1.1, a.1.2.1, a.1.2.2.1, ()), 0, ())) (cond (decide (a.2.1 ≤ 256)) ((f137 ((a.1.1, a.1.2.1, a.1.2.2.1, ()), ())).bind fun x1 => cond (decide (a.2.1 = 0)) none (some ((x1.1.1, x1.1.2.1, x1.1.2.2.1, ()), (Int.tmod x1.2.1 a.2.1), ()))) ((f137 ((a.1.1, a.1.2.1, a.1.2.2.1, ()), ())).bind fun x2 => (f137 ((x2.1.1, x2.1.2.1, x2.1.2.2.1, ()), ())).bind fun x3 => (f137 ((x3.1.1, x3.1.2.1, x3.1.2.2.1, ()), ())).bind fun x4 => cond (decide (a.2.1 = 0)) none (some ((x4.1.1, x4.1.2.1, x4.1.2.2.1, ()), (Int.tmod (w64 ((w64 ((w64 (x2.2.1 * 65536)) + (w64 (x3.2.1 * 256)))) + x4.2.1)) a.2.1), ()))))
def E77 (f137 : (List Int × Int × Int × Unit) × Unit → Option ((List Int × Int × Int × Unit) × Int × Unit)) : Env := envL [(137, mkE p137 r137 true f137)]
noncomputable def L77 (f137 : (List Int × Int × Int × Unit) × Unit → Option ((List Int × Int × Int × Unit) × Int × Unit)) : LEnv (densS (muts p77 ++ r77)) := lenv []
theorem e77 (f137 : (List Int × Int × Int × Unit) × Unit → Option ((List Int × Int × Int × Unit) × Int × Unit)) (a : densS p77) : runF (E77 f137) tab (fun _ => false) p77 r77 Proofs.Try.f77 (L77 f137) a = F77 f137 a := by kernel_rfl
theorem ok77 {f137 : (List Int × Int × Int × Unit) × Unit → Option ((List Int × Int × Int × Unit) × Int × Unit)} (h137 : OK Proofs.Try.prog 137 (mkE p137 r137 true f137)) : OK Proofs.Try.prog 77 (mkE p77 r77 true (F77 f137)) :=
  fn_ok tab_ok (envL_ok (l := [(137, mkE p137 r137 true f137)]) (OKs.cons h137 OKs.nil)) mixed (ann := (fun _ => false)) (L := L77 f137) (fn := Proofs.Try.f77) (c := bodyC Proofs.Try.f77) (ls := []) Proofs.Try.func77 (by kernel_rfl) (by kernel_rfl) (by kernel_rfl) (by kernel_rfl)
    LoopsP.nil (e77 f137)
/-! spec.l1Str -/
def p112 : List SP := [.box 0 [.r .u8, .int .i64, .int .i64], .one (.r .str)]
def r112 : List SP := [.one (.str)]
noncomputable def F112 (f77 : (List Int × Int × Int × Unit) × Int × Unit → Option ((List Int × Int × Int × Unit) × Int × Unit)) (a : (List Int × Int × Int × Unit) × List Str × Unit) : Option ((List Int × Int × Int × Unit) × Str × Unit) :=
  (f77 ((a.1.1, a.1.2.1, a.1.2.2.1, ()), (Int.ofNat (List.length a.2.1)), ())).bind fun x1 => rdL a.2.1 x1.2.1 fun d2 => some ((x1.1.1, x1.1.2.1, x1.1.2.2.1, ()), d2, ())
def E112 (f77 : (List Int × Int × Int × Unit) × Int × Unit → Option ((List Int × Int × Int × Unit) × Int × Unit)) : Env := envL [(77, mkE p77 r77 true f77)]
noncomputable def L112 (f77 : (List Int × Int × Int × Unit) × Int × Unit → Option ((List Int × Int × Int × Unit) × Int × Unit)) : LEnv (densS (muts p112 ++ r112)) := lenv []
theorem e112 (f77 : (List Int × Int × Int × Unit) × Int × Unit → Option ((List Int × Int × Int × Unit) × Int × Unit)) (a : densS p112) : runF (E112 f77) tab (fun _ => false) p112 r112 Proofs.Try.f112 (L112 f77) a = F112 f77 a := by kernel_rfl
theorem ok112 {f77 : (List Int × Int × Int × Unit) × Int × Unit → Option ((List Int × Int × Int × Unit) × Int × Unit)} (h77 : OK Proofs.Try.prog 77 (mkE p77 r77 true f77)) : OK Proofs.Try.prog 112 (mkE p112 r112 true (F112 f77)) :=
  fn_ok tab_ok (envL_ok (l := [(77, mkE p77 r77 true f77)]) (OKs.cons h77 OKs.nil)) mixed (ann := (fun _ => false)) (L := L112 f77) (fn := Proofs.Try.f112) (c := bodyC Proofs.Try.f112) (ls := []) Proofs.Try.func112 (by kernel_rfl) (by kernel_rfl) (by kernel_rfl) (by kernel_rfl)
    LoopsP.nil (e112 f77)
/-! spec.l7Name -/
def p50 : List SP := [.box 0 [.r .u8, .int .i64, .int .i64]]
def r50 : List SP := [.one (.str)]
noncomputable def F50 (f112 : (List Int × Int × Int × Unit) × List Str × Unit → Option ((List Int × Int × Int × Unit) × Str × Unit)) (a : (List Int × Int × Int × Unit) × Unit) : Option ((List Int × Int × Int × Unit) × Str × Unit) :=
  (f112 ((a.1.1, a.1.2.1, a.1.2.2.1, ()), ([[97], [97], [98], [99], [114], [110, 111]] : List Str), ())).bind fun x1 => some ((x1.1.1, x1.1.2.1, x1.1.2.2.1, ()), x1.2.1, ())
def E50 (f112 : (List Int × Int × Int × Unit) × List Str × Unit → Option ((List Int × Int × Int × Unit) × Str × Unit)) : Env := envL [(112, mkE p112 r112 true f112)]
noncomputable def L50 (f112 : (List Int × Int × Int × Unit) × List Str × Unit → Option ((List Int × Int × Int × Unit) × Str × Unit)) : LEnv (densS (muts p50 ++ r50)) := lenv []
theorem e50 (f112 : (List Int × Int × Int × Unit) × List Str × Unit → Option ((List Int × Int × Int × Unit) × Str × Unit)) (a : densS p50) : runF (E50 f112) tab (fun _ => false) p50 r50 Proofs.Try.f50 (L50 f112) a = F50 f112 a := by kernel_rfl
theorem ok50 {f112 : (List Int × Int × Int × Unit) × List Str × Unit → Option ((List Int × Int × Int × Unit) × Str × Unit)} (h112 : OK Proofs.Try.prog 112 (mkE p112 r112 true f112)) : OK Proofs.Try.prog 50 (mkE p50 r50 true (F50 f112)) :=
  fn_ok tab_ok (envL_ok (l := [(112, mkE p112 r112 true f112)]) (OKs.cons h112 OKs.nil)) mixed (ann := (fun _ => false)) (L := L50 f112) (fn := Proofs.Try.f50) (c := bodyC Proofs.Try.f50) (ls := []) Proofs.Try.func50 (by kernel_rfl) (by kernel_rfl) (by kernel_rfl) (by kernel_rfl)
    LoopsP.nil (e50 f112)
/-! spec.l1Int -/
def p124 : List SP := [.box 0 [.r .u8, .int .i64, .int .i64], .one (.r .int)]
def r124 : List SP := [.one (.int .i64)]
noncomputable def F124 (f77 : (List Int × Int × Int × Unit) × Int × Unit → Option ((List Int × Int × Int × Unit) × Int × Unit)) (a : (List Int × Int × Int × Unit) × List Int × Unit) : Option ((List Int × Int × Int × Unit) × Int × Unit) :=
  (f77 ((a.1.1, a.1.2.1, a.1.2.2.1, ()), (Int.ofNat (List.length a.2.1)), ())).bind fun x1 => rdL a.2.1 x1.2.1 fun d2 => some ((x1.1.1, x1.1.2.1, x1.1.2.2.1, ()), d2, ())
def E124 (f77 : (List Int × Int × Int × Unit) × Int × Unit → Option ((List Int × Int × Int × Unit) × Int × Unit)) : Env := envL [(77, mkE p77 r77 true f77)]
noncomputable def L124 (f77 : (List Int × Int × Int × Unit) × Int × Unit → Option ((List Int × Int × Int × Unit) × Int × Unit)) : LEnv (densS (muts p124 ++ r124)) := lenv []
theorem e124 (f77 : (List Int × Int × Int × Unit) × Int × Unit → Option ((List Int × Int × Int × Unit) × Int × Unit)) (a : densS p124) : runF (E124 f77) tab (fun _ => false) p124 r124 Proofs.Try.f124 (L124 f77) a = F124 f77 a := by kernel_rfl
theorem ok124 {f77 : (List Int × Int × Int × Unit) × Int × Unit → Option ((List Int × Int × Int × Unit) × Int × Unit)} (h77 : OK Proofs.Try.prog 77 (mkE p77 r77 true f77)) : OK Proofs.Try.prog 124 (mkE p124 r124 true (F124 f77)) :=
  fn_ok tab_ok (envL_ok (l := [(77, mkE p77 r77 true f77)]) (OKs.cons h77 OKs.nil)) mixed (ann := (fun _ => false)) (L := L124 f77) (fn := Proofs.Try.f124) (c := bodyC Proofs.Try.f124) (ls := []) Proofs.Try.func124 (by kernel_rfl) (by kernel_rfl) (by kernel_rfl) (by kernel_rfl)
    LoopsP.nil (e124 f77)
/-! spec.l7Cue -/
def p111 : List SP := [.box 0 [.r .u8, .int .i64, .int .i64]]
def r111 : List SP := [.t .cue]
noncomputable def F111 (f77 : (List Int × Int × Int × Unit) × Int × Unit → Option ((List Int × Int × Int × Unit) × Int × Unit)) (f50 : (List Int × Int × Int × Unit) × Unit → Option ((List Int × Int × Int × Unit) × Str × Unit)) (f124 : (List Int × Int × Int × Unit) × List Int × Unit → Option ((List Int × Int × Int × Unit) × Int × Unit)) (a : (List Int × Int × Int × Unit) × Unit) : Option ((List Int × Int × Int × Unit) × Cue × Unit) :=
  (f77 ((a.1.1, a.1.2.1, a.1.2.2.1, ()), 14, ())).bind fun x1 => (f50 ((x1.1.1, x1.1.2.1, x1.1.2.2.1, ()), ())).bind fun x2 => (f77 ((x2.1.1, x2.1.2.1, x2.1.2.2.1, ()), 33, ())).bind fun x3 => (f124 ((x3.1.1, x3.1.2.1, x3.1.2.2.1, ()), ([0, 0, 1, 2, 3, 5, 8, 16] : List Int), ())).bind fun x4 => some ((x4.1.1, x4.1.2.1, x4.1.2.2.1, ()), (⟨x1.2.1, x2.2.1, x3.2.1, x4.2.1⟩ : Cue), ())
def E111 (f77 : (List Int × Int × Int × Unit) × Int × Unit → Option ((List Int × Int × Int × Unit) × Int × Unit)) (f50 : (List Int × Int × Int × Unit) × Unit → Option ((List Int × Int × Int × Unit) × Str × Unit)) (f124 : (List Int × Int × Int × Unit) × List Int × Unit → Option ((List Int × Int × Int × Unit) × Int × Unit)) : Env := envL [(77, mkE p77 r77 true f77), (50, mkE p50 r50 true f50), (124, mkE p124 r124 true f124)]
noncomputable def L111 (f77 : (List Int × Int × Int × Unit) × Int × Unit → Option ((List Int × Int × Int × Unit) × Int × Unit)) (f50 : (List Int × Int × Int × Unit) × Unit → Option ((List Int × Int × Int × Unit) × Str × Unit)) (f124 : (List Int × Int × Int × Unit) × List Int × Unit → Option ((List Int × Int × Int × Unit) × Int × Unit)) : LEnv (densS (muts p111 ++ r111)) := lenv []
theorem e111 (f77 : (List Int × Int × Int × Unit) × Int × Unit → Option ((List Int × Int × Int × Unit) × Int × Unit)) (f50 : (List Int × Int × Int × Unit) × Unit → Option ((List Int × Int × Int × Unit) × Str × Unit)) (f124 : (List Int × Int × Int × Unit) × List Int × Unit → Option ((List Int × Int × Int × Unit) × Int × Unit)) (a : densS p111) : runF (E111 f77 f50 f124) tab (fun _ => false) p111 r111 Proofs.Try.f111 (L111 f77 f50 f124) a = F111 f77 f50 f124 a := by kernel_rfl
theorem ok111 {f77 : (List Int × Int × Int × Unit) × Int × Unit → Option ((List Int × Int × Int × Unit) × Int × Unit)} {f50 : (List Int × Int × Int × Unit) × Unit → Option ((List Int × Int × Int × Unit) × Str × Unit)} {f124 : (List Int × Int × Int × Unit) × List Int × Unit → Option ((List Int × Int × Int × Unit) × Int × Unit)} (h77 : OK Proofs.Try.prog 77 (mkE p77 r77 true f77)) (h50 : OK Proofs.Try.prog 50 (mkE p50 r50 true f50)) (h124 : OK Proofs.Try.prog 124 (mkE p124 r124 true f124)) : OK Proofs.Try.prog 111 (mkE p111 r111 true (F111 f77 f50 f124)) :=
  fn_ok tab_ok (envL_ok (l := [(77, mkE p77 r77 true f77), (50, mkE p50 r50 true f50), (124, mkE p124 r124 true f124)]) (OKs.cons h77 (OKs.cons h50 (OKs.cons h124 OKs.nil)))) mixed (ann := (fun _ => false)) (L := L111 f77 f50 f124) (fn := Proofs.Try.f111) (c := bodyC Proofs.Try.f111) (ls := []) Proofs.Try.func111 (by kernel_rfl) (by kernel_rfl) (by kernel_rfl) (by kernel_rfl)
    LoopsP.nil (e111 f77 f50 f124)
/-! spec.CompareCues -/
def p181 : List SP := [.t .cue, .t .cue]
def r181 : List SP := [.one (.int .i64)]
noncomputable def F181 (a : Cue × Cue × Unit) : Option (Int × Unit) :=
  cond (decide (a.1.Tick < a.2.1.Tick)) (cond (decide (a.1.Tick < a.2.1.Tick)) (some ((-1), ())) (cond (decide (a.1.Tick = a.2.1.Tick)) (cond (decide (a.1.Name = a.2.1.Name)) (some (0, ())) (some (1, ()))) (some (1, ())))) (cond (decide (a.1.Tick = a.2.1.Tick)) (cond (Op.bytesLess a.1.Name a.2.1.Name) (some ((-1), ())) (cond (decide (a.1.Tick = a.2.1.Tick)) (cond (decide (a.1.Name = a.2.1.Name)) (some (0, ())) (some (1, ()))) (some (1, ())))) (cond (decide (a.1.Tick = a.2.1.Tick)) (cond (decide (a.1.Name = a.2.1.Name)) (some (0, ())) (some (1, ()))) (some (1, ()))))
def E181 : Env := envL []
noncomputable def L181 : LEnv (densS (muts p181 ++ r181)) := lenv []
theorem e181 (a : densS p181) : runF (E181) tab (fun _ => false) p181 r181 Proofs.Try.f181 (L181) a = F181 a := by kernel_rfl
theorem ok181 : OK Proofs.Try.prog 181 (mkE p181 r181 false (F181)) :=
  fn_ok tab_ok (envL_ok (l := []) OKs.nil) mixed (ann := (fun _ => false)) (L := L181) (fn := Proofs.Try.f181) (c := bodyC Proofs.Try.f181) (ls := []) Proofs.Try.func181 (by kernel_rfl) (by kernel_rfl) (by kernel_rfl) (by kernel_rfl)
    LoopsP.nil (e181)
/-! spec.l7Copies -/
def p160 : List SP := [.one (.r .cue)]
def r160 : List SP := [.one (.o 0 .cue)]
noncomputable def F160 (a : List Cue × Unit) : Option (List Cue × Unit) :=
  capK (List.length ([] : List Cue) + List.length a.1) (some ((([] : List Cue) ++ a.1), ()))
def E160 : Env := envL []
noncomputable def L160 : LEnv (densS (muts p160 ++ r160)) := lenv []
theorem e160 (a : densS p160) : runF (E160) tab (fun _ => false) p160 r160 Proofs.Try.f160 (L160) a = F160 a := by kernel_rfl
theorem ok160 : OK Proofs.Try.prog 160 (mkE p160 r160 false (F160)) :=
  fn_ok tab_ok (envL_ok (l := []) OKs.nil) mixed (ann := (fun _ => false)) (L := L160) (fn := Proofs.Try.f160) (c := bodyC Proofs.Try.f160) (ls := []) Proofs.Try.func160 (by kernel_rfl) (by kernel_rfl) (by kernel_rfl) (by kernel_rfl)
    LoopsP.nil (e160)
/-! spec.l7Put -/
def p168 : List SP := [.one (.r .cue), .t .cue]
def r168 : List SP := [.one (.o 0 .cue), .one (.bool)]
def q168_0 : List SP := pat 50 0 [(0, .one (.r .cue)), (3, .boxt 5000001 .cue), (6, .one (.int .i64))]
noncomputable def s168_0 (f181 : Cue × Cue × Unit → Option (Int × Unit)) (f160 : List Cue × Unit → Option (List Cue × Unit)) (t1 : List Cue × Cue × Int × Unit) (rec K : List Cue × Cue × Int × Unit → Option (List Cue × Bool × Unit)) : Option (List Cue × Bool × Unit) :=
  cond (decide (t1.2.2.1 < (Int.ofNat (List.length t1.1)))) (rdL t1.1 t1.2.2.1 fun d2 => (f181 (d2, t1.2.1, ())).bind fun x3 => cond (decide (x3.1 < 0)) (rec (t1.1, t1.2.1, (w64 (t1.2.2.1 + 1)), ())) (K (t1.1, t1.2.1, t1.2.2.1, ()))) (K (t1.1, t1.2.1, t1.2.2.1, ()))
noncomputable def F168 (f181 : Cue × Cue × Unit → Option (Int × Unit)) (f160 : List Cue × Unit → Option (List Cue × Unit)) (a : List Cue × Cue × Unit) : Option (List Cue × Bool × Unit) :=
  iterF (s168_0 f181 f160) fuel (a.1, a.2.1, 0, ()) fun t4 => cond (decide (t4.2.2.1 < (Int.ofNat (List.length t4.1)))) (rdL t4.1 t4.2.2.1 fun d5 => (f181 (d5, t4.2.1, ())).bind fun x6 => cond (decide (x6.1 = 0)) ((f160 (t4.1, ())).bind fun x7 => some (x7.1, false, ())) (okIf (0 ≤ t4.2.2.1 ∧ t4.2.2.1 ≤ List.length t4.1) ((f160 ((List.take (Int.toNat t4.2.2.1) t4.1), ())).bind fun x8 => capK (List.length x8.1 + List.length ([t4.2.1] : List Cue)) (okIf (0 ≤ t4.2.2.1 ∧ t4.2.2.1 ≤ List.length t4.1) (capK (List.length (x8.1 ++ ([t4.2.1] : List Cue)) + List.length (List.drop (Int.toNat t4.2.2.1) t4.1)) (some (((x8.1 ++ ([t4.2.1] : List Cue)) ++ (List.drop (Int.toNat t4.2.2.1) t4.1)), true, ()))))))) (okIf (0 ≤ t4.2.2.1 ∧ t4.2.2.1 ≤ List.length t4.1) ((f160 ((List.take (Int.toNat t4.2.2.1) t4.1), ())).bind fun x9 => capK (List.length x9.1 + List.length ([t4.2.1] : List Cue)) (okIf (0 ≤ t4.2.2.1 ∧ t4.2.2.1 ≤ List.length t4.1) (capK (List.length (x9.1 ++ ([t4.2.1] : List Cue)) + List.length (List.drop (Int.toNat t4.2.2.1) t4.1)) (some (((x9.1 ++ ([t4.2.1] : List Cue)) ++ (List.drop (Int.toNat t4.2.2.1) t4.1)), true, ()))))))
def E168 (f181 : Cue × Cue × Unit → Option (Int × Unit)) (f160 : List Cue × Unit → Option (List Cue × Unit)) : Env := envL [(181, mkE p181 r181 false f181), (160, mkE p160 r160 false f160)]
noncomputable def L168 (f181 : Cue × Cue × Unit → Option (Int × Unit)) (f160 : List Cue × Unit → Option (List Cue × Unit)) : LEnv (densS (muts p168 ++ r168)) := lenv [(0, loopL (R := densS (muts p168 ++ r168)) q168_0 (s168_0 f181 f160))]
theorem e168_0 (f181 : Cue × Cue × Unit → Option (Int × Unit)) (f160 : List Cue × Unit → Option (List Cue × Unit)) (X : Nat → St → Option (densS (muts p168 ++ r168))) (rec K : densS q168_0 → Option (densS (muts p168 ++ r168))) (t : densS q168_0) :
    ev (E168 f181 f160) tab (fun _ => false) (L168 f181 f160) (retK tab p168 r168 Proofs.Try.f168.results.toList) (loopC Proofs.Try.f168 0) (fun i s => cond (Nat.beq i 0) (decK 100 q168_0 s K) (X i s)) (fun s => decK 100 q168_0 s rec) (enc q168_0 t) = s168_0 f181 f160 t rec K := by kernel_rfl
theorem e168 (f181 : Cue × Cue × Unit → Option (Int × Unit)) (f160 : List Cue × Unit → Option (List Cue × Unit)) (a : densS p168) : runF (E168 f181 f160) tab (fun _ => false) p168 r168 Proofs.Try.f168 (L168 f181 f160) a = F168 f181 f160 a := by kernel_rfl
theorem ok168 {f181 : Cue × Cue × Unit → Option (Int × Unit)} {f160 : List Cue × Unit → Option (List Cue × Unit)} (h181 : OK Proofs.Try.prog 181 (mkE p181 r181 false f181)) (h160 : OK Proofs.Try.prog 160 (mkE p160 r160 false f160)) : OK Proofs.Try.prog 168 (mkE p168 r168 false (F168 f181 f160)) :=
  fn_ok tab_ok (envL_ok (l := [(181, mkE p181 r181 false f181), (160, mkE p160 r160 false f160)]) (OKs.cons h181 (OKs.cons h160 OKs.nil))) mixed (ann := (fun _ => false)) (L := L168 f181 f160) (fn := Proofs.Try.f168) (c := bodyC Proofs.Try.f168) (ls := [(0, loopC Proofs.Try.f168 0)]) Proofs.Try.func168 (by kernel_rfl) (by kernel_rfl) (by kernel_rfl) (by kernel_rfl)
    (LoopsP.cons q168_0 (s168_0 f181 f160) rfl (e168_0 f181 f160) LoopsP.nil) (e168 f181 f160)
/-! spec.l1In -/
def p69 : List SP := [.one (.int .i64), .one (.int .i64), .one (.int .i64)]
def r69 : List SP := [.one (.bool)]
noncomputable def F69 (a : Int × Int × Int × Unit) : Option (Bool × Unit) :=
  cond (decide (a.1 ≥ a.2.1)) (some ((decide (a.1 ≤ a.2.2.1)), ())) (some (false, ()))
def E69 : Env := envL []
noncomputable def L69 : LEnv (densS (muts p69 ++ r69)) := lenv []
theorem e69 (a : densS p69) : runF (E69) tab (fun _ => false) p69 r69 Proofs.Try.f69 (L69) a = F69 a := by kernel_rfl
theorem ok69 : OK Proofs.Try.prog 69 (mkE p69 r69 false (F69)) :=
  fn_ok tab_ok (envL_ok (l := []) OKs.nil) mixed (ann := (fun _ => false)) (L := L69) (fn := Proofs.Try.f69) (c := bodyC Proofs.Try.f69) (ls := []) Proofs.Try.func69 (by kernel_rfl) (by kernel_rfl) (by kernel_rfl) (by kernel_rfl)
    LoopsP.nil (e69)
/-! spec.IsName -/
def p66 : List SP := [.one (.str)]
def r66 : List SP := [.one (.bool)]
def q66_0 : List SP := pat 50 0 [(0, .one (.str)), (3, .one (.int .i64))]
noncomputable def s66_0 (t1 : Str × Int × Unit) (rec K : Str × Int × Unit → Option (Bool × Unit)) : Option (Bool × Unit) :=
  cond (decide (t1.2.1 < (Int.ofNat (List.length t1.1)))) (rdL t1.1 t1.2.1 fun d2 => cond (decide ((Int.ofNat (UInt8.toNat d2)) ≥ 97)) (rdL t1.1 t1.2.1 fun d3 => rdL t1.1 t1.2.1 fun d4 => cond (decide ((Int.ofNat (UInt8.toNat d4)) ≥ 48)) (rdL t1.1 t1.2.1 fun d5 => cond (!(decide ((Int.ofNat (UInt8.toNat d3)) ≤ 122))) (cond (!(!(decide ((Int.ofNat (UInt8.toNat d5)) ≤ 57)))) (cond (decide (t1.2.1 = 0)) (some (false, ())) (rec (t1.1, (w64 (t1.2.1 + 1)), ()))) (some (false, ()))) (rec (t1.1, (w64 (t1.2.1 + 1)), ()))) (cond (!(decide ((Int.ofNat (UInt8.toNat d3)) ≤ 122))) (some (false, ())) (rec (t1.1, (w64 (t1.2.1 + 1)), ())))) (rdL t1.1 t1.2.1 fun d6 => cond (decide ((Int.ofNat (UInt8.toNat d6)) ≥ 48)) (rdL t1.1 t1.2.1 fun d7 => cond (!(!(decide ((Int.ofNat (UInt8.toNat d7)) ≤ 57)))) (cond (decide (t1.2.1 = 0)) (some (false, ())) (rec (t1.1, (w64 (t1.2.1 + 1)), ()))) (some (false, ()))) (some (false, ())))) (K (t1.1, t1.2.1, ()))
noncomputable def F66 (a : Str × Unit) : Option (Bool × Unit) :=
  iterF (s66_0) fuel (a.1, 0, ()) fun t8 => cond (decide ((Int.ofNat (List.length t8.1)) > 0)) (some ((decide ((Int.ofNat (List.length t8.1)) ≤ 8)), ())) (some (false, ()))
def E66 : Env := envL []
noncomputable def L66 : LEnv (densS (muts p66 ++ r66)) := lenv [(0, loopL (R := densS (muts p66 ++ r66)) q66_0 (s66_0))]
theorem e66_0 (X : Nat → St → Option (densS (muts p66 ++ r66))) (rec K : densS q66_0 → Option (densS (muts p66 ++ r66))) (t : densS q66_0) :
    ev (E66) tab (fun _ => false) (L66) (retK tab p66 r66 Proofs.Try.f66.results.toList) (loopC Proofs.Try.f66 0) (fun i s => cond (Nat.beq i 0) (decK 100 q66_0 s K) (X i s)) (fun s => decK 100 q66_0 s rec) (enc q66_0 t) = s66_0 t rec K := by kernel_rfl
theorem e66 (a : densS p66) : runF (E66) tab (fun _ => false) p66 r66 Proofs.Try.f66 (L66) a = F66 a := by kernel_rfl
theorem ok66 : OK Proofs.Try.prog 66 (mkE p66 r66 false (F66)) :=
  fn_ok tab_ok (envL_ok (l := []) OKs.nil) mixed (ann := (fun _ => false)) (L := L66) (fn := Proofs.Try.f66) (c := bodyC Proofs.Try.f66) (ls := [(0, loopC Proofs.Try.f66 0)]) Proofs.Try.func66 (by kernel_rfl) (by kernel_rfl) (by kernel_rfl) (by kernel_rfl)
    (LoopsP.cons q66_0 (s66_0) rfl (e66_0) LoopsP.nil) (e66)
/-! spec.IsCue -/
def p169 : List SP := [.t .cue]
def r169 : List SP := [.one (.bool)]
noncomputable def F169 (f69 : Int × Int × Int × Unit → Option (Bool × Unit)) (f66 : Str × Unit → Option (Bool × Unit)) (a : Cue × Unit) : Option (Bool × Unit) :=
  (f69 (a.1.Tick, 0, 64, ())).bind fun x1 => cond x1.1 ((f66 (a.1.Name, ())).bind fun x2 => cond x2.1 ((f69 (a.1.Level, 0, 32, ())).bind fun x3 => cond x3.1 ((f69 (a.1.Ramp, 0, 16, ())).bind fun x4 => some (x4.1, ())) (some (false, ()))) (some (false, ()))) (some (false, ()))
def E169 (f69 : Int × Int × Int × Unit → Option (Bool × Unit)) (f66 : Str × Unit → Option (Bool × Unit)) : Env := envL [(69, mkE p69 r69 false f69), (66, mkE p66 r66 false f66)]
noncomputable def L169 (f69 : Int × Int × Int × Unit → Option (Bool × Unit)) (f66 : Str × Unit → Option (Bool × Unit)) : LEnv (densS (muts p169 ++ r169)) := lenv []
theorem e169 (f69 : Int × Int × Int × Unit → Option (Bool × Unit)) (f66 : Str × Unit → Option (Bool × Unit)) (a : densS p169) : runF (E169 f69 f66) tab (fun _ => false) p169 r169 Proofs.Try.f169 (L169 f69 f66) a = F169 f69 f66 a := by kernel_rfl
theorem ok169 {f69 : Int × Int × Int × Unit → Option (Bool × Unit)} {f66 : Str × Unit → Option (Bool × Unit)} (h69 : OK Proofs.Try.prog 69 (mkE p69 r69 false f69)) (h66 : OK Proofs.Try.prog 66 (mkE p66 r66 false f66)) : OK Proofs.Try.prog 169 (mkE p169 r169 false (F169 f69 f66)) :=
  fn_ok tab_ok (envL_ok (l := [(69, mkE p69 r69 false f69), (66, mkE p66 r66 false f66)]) (OKs.cons h69 (OKs.cons h66 OKs.nil))) mixed (ann := (fun _ => false)) (L := L169 f69 f66) (fn := Proofs.Try.f169) (c := bodyC Proofs.Try.f169) (ls := []) Proofs.Try.func169 (by kernel_rfl) (by kernel_rfl) (by kernel_rfl) (by kernel_rfl)
    LoopsP.nil (e169 f69 f66)
/-! spec.IsScore -/
def p150 : List SP := [.one (.r .cue)]
def r150 : List SP := [.one (.bool)]
def q150_0 : List SP := pat 33 0 [(0, .one (.r .cue)), (5, .one (.r .cue)), (6, .one (.int .i64)), (7, .one (.int .i64))]
noncomputable def s150_0 (f169 : Cue × Unit → Option (Bool × Unit)) (f181 : Cue × Cue × Unit → Option (Int × Unit)) (t1 : List Cue × List Cue × Int × Int × Unit) (rec K : List Cue × List Cue × Int × Int × Unit → Option (Bool × Unit)) : Option (Bool × Unit) :=
  cond (decide (t1.2.2.2.1 < t1.2.2.1)) (rdL t1.2.1 t1.2.2.2.1 fun d2 => (f169 (d2, ())).bind fun x3 => cond (!(!x3.1)) (cond (decide (t1.2.2.2.1 > 0)) (rdL t1.1 (w64 (t1.2.2.2.1 - 1)) fun d4 => (f181 (d4, d2, ())).bind fun x5 => cond (decide (x5.1 ≥ 0)) (some (false, ())) (rec (t1.1, t1.2.1, t1.2.2.1, (w64 (t1.2.2.2.1 + 1)), ()))) (rec (t1.1, t1.2.1, t1.2.2.1, (w64 (t1.2.2.2.1 + 1)), ()))) (some (false, ()))) (K (t1.1, t1.2.1, t1.2.2.1, t1.2.2.2.1, ()))
noncomputable def F150 (f169 : Cue × Unit → Option (Bool × Unit)) (f181 : Cue × Cue × Unit → Option (Int × Unit)) (a : List Cue × Unit) : Option (Bool × Unit) :=
  iterF (s150_0 f169 f181) fuel (a.1, a.1, (Int.ofNat (List.length a.1)), 0, ()) fun t6 => some ((decide ((Int.ofNat (List.length t6.1)) ≤ 12)), ())
def E150 (f169 : Cue × Unit → Option (Bool × Unit)) (f181 : Cue × Cue × Unit → Option (Int × Unit)) : Env := envL [(169, mkE p169 r169 false f169), (181, mkE p181 r181 false f181)]
noncomputable def L150 (f169 : Cue × Unit → Option (Bool × Unit)) (f181 : Cue × Cue × Unit → Option (Int × Unit)) : LEnv (densS (muts p150 ++ r150)) := lenv [(0, loopL (R := densS (muts p150 ++ r150)) q150_0 (s150_0 f169 f181))]
theorem e150_0 (f169 : Cue × Unit → Option (Bool × Unit)) (f181 : Cue × Cue × Unit → Option (Int × Unit)) (X : Nat → St → Option (densS (muts p150 ++ r150))) (rec K : densS q150_0 → Option (densS (muts p150 ++ r150))) (t : densS q150_0) :
    ev (E150 f169 f181) tab (fun _ => false) (L150 f169 f181) (retK tab p150 r150 Proofs.Try.f150.results.toList) (loopC Proofs.Try.f150 0) (fun i s => cond (Nat.beq i 0) (decK 100 q150_0 s K) (X i s)) (fun s => decK 100 q150_0 s rec) (enc q150_0 t) = s150_0 f169 f181 t rec K := by kernel_rfl
theorem e150 (f169 : Cue × Unit → Option (Bool × Unit)) (f181 : Cue × Cue × Unit → Option (Int × Unit)) (a : densS p150) : runF (E150 f169 f181) tab (fun _ => false) p150 r150 Proofs.Try.f150 (L150 f169 f181) a = F150 f169 f181 a := by kernel_rfl
theorem ok150 {f169 : Cue × Unit → Option (Bool × Unit)} {f181 : Cue × Cue × Unit → Option (Int × Unit)} (h169 : OK Proofs.Try.prog 169 (mkE p169 r169 false f169)) (h181 : OK Proofs.Try.prog 181 (mkE p181 r181 false f181)) : OK Proofs.Try.prog 150 (mkE p150 r150 false (F150 f169 f181)) :=
  fn_ok tab_ok (envL_ok (l := [(169, mkE p169 r169 false f169), (181, mkE p181 r181 false f181)]) (OKs.cons h169 (OKs.cons h181 OKs.nil))) mixed (ann := (fun _ => false)) (L := L150 f169 f181) (fn := Proofs.Try.f150) (c := bodyC Proofs.Try.f150) (ls := [(0, loopC Proofs.Try.f150 0)]) Proofs.Try.func150 (by kernel_rfl) (by kernel_rfl) (by kernel_rfl) (by kernel_rfl)
    (LoopsP.cons q150_0 (s150_0 f169 f181) rfl (e150_0 f169 f181) LoopsP.nil) (e150 f169 f181)
/-! spec.AddCue -/
def p110 : List SP := [.one (.r .cue), .t .cue]
def r110 : List SP := [.one (.o 0 .cue), .one (.bool)]
noncomputable def F110 (f168 : List Cue × Cue × Unit → Option (List Cue × Bool × Unit)) (f150 : List Cue × Unit → Option (Bool × Unit)) (f169 : Cue × Unit → Option (Bool × Unit)) (f160 : List Cue × Unit → Option (List Cue × Unit)) (a : List Cue × Cue × Unit) : Option (List Cue × Bool × Unit) :=
  (f168 (a.1, a.2.1, ())).bind fun x1 => (f150 (a.1, ())).bind fun x2 => cond (!(!x2.1)) ((f169 (a.2.1, ())).bind fun x3 => cond (!(!x3.1)) (cond (!(!x1.2.1)) (cond (decide ((Int.ofNat (List.length a.1)) = 12)) ((f160 (a.1, ())).bind fun x4 => some (x4.1, false, ())) (some (x1.1, true, ()))) ((f160 (a.1, ())).bind fun x5 => some (x5.1, false, ()))) ((f160 (a.1, ())).bind fun x6 => some (x6.1, false, ()))) ((f160 (a.1, ())).bind fun x7 => some (x7.1, false, ()))
def E110 (f168 : List Cue × Cue × Unit → Option (List Cue × Bool × Unit)) (f150 : List Cue × Unit → Option (Bool × Unit)) (f169 : Cue × Unit → Option (Bool × Unit)) (f160 : List Cue × Unit → Option (List Cue × Unit)) : Env := envL [(168, mkE p168 r168 false f168), (150, mkE p150 r150 false f150), (169, mkE p169 r169 false f169), (160, mkE p160 r160 false f160)]
noncomputable def L110 (f168 : List Cue × Cue × Unit → Option (List Cue × Bool × Unit)) (f150 : List Cue × Unit → Option (Bool × Unit)) (f169 : Cue × Unit → Option (Bool × Unit)) (f160 : List Cue × Unit → Option (List Cue × Unit)) : LEnv (densS (muts p110 ++ r110)) := lenv []
theorem e110 (f168 : List Cue × Cue × Unit → Option (List Cue × Bool × Unit)) (f150 : List Cue × Unit → Option (Bool × Unit)) (f169 : Cue × Unit → Option (Bool × Unit)) (f160 : List Cue × Unit → Option (List Cue × Unit)) (a : densS p110) : runF (E110 f168 f150 f169 f160) tab (fun _ => false) p110 r110 Proofs.Try.f110 (L110 f168 f150 f169 f160) a = F110 f168 f150 f169 f160 a := by kernel_rfl
theorem ok110 {f168 : List Cue × Cue × Unit → Option (List Cue × Bool × Unit)} {f150 : List Cue × Unit → Option (Bool × Unit)} {f169 : Cue × Unit → Option (Bool × Unit)} {f160 : List Cue × Unit → Option (List Cue × Unit)} (h168 : OK Proofs.Try.prog 168 (mkE p168 r168 false f168)) (h150 : OK Proofs.Try.prog 150 (mkE p150 r150 false f150)) (h169 : OK Proofs.Try.prog 169 (mkE p169 r169 false f169)) (h160 : OK Proofs.Try.prog 160 (mkE p160 r160 false f160)) : OK Proofs.Try.prog 110 (mkE p110 r110 false (F110 f168 f150 f169 f160)) :=
  fn_ok tab_ok (envL_ok (l := [(168, mkE p168 r168 false f168), (150, mkE p150 r150 false f150), (169, mkE p169 r169 false f169), (160, mkE p160 r160 false f160)]) (OKs.cons h168 (OKs.cons h150 (OKs.cons h169 (OKs.cons h160 OKs.nil))))) mixed (ann := (fun _ => false)) (L := L110 f168 f150 f169 f160) (fn := Proofs.Try.f110) (c := bodyC Proofs.Try.f110) (ls := []) Proofs.Try.func110 (by kernel_rfl) (by kernel_rfl) (by kernel_rfl) (by kernel_rfl)
    LoopsP.nil (e110 f168 f150 f169 f160)
/-! spec.l7Draw -/
def p49 : List SP := [.box 0 [.r .u8, .int .i64, .int .i64], .one (.int .i64)]
def r49 : List SP := [.one (.o 1 .cue)]
def q49_0 : List SP := pat 24 0 [(0, .box 0 [.r .u8, .int .i64, .int .i64]), (5, .one (.o 5000001 .cue)), (6, .one (.int .i64))]
noncomputable def s49_0 (f77 : (List Int × Int × Int × Unit) × Int × Unit → Option ((List Int × Int × Int × Unit) × Int × Unit)) (f111 : (List Int × Int × Int × Unit) × Unit → Option ((List Int × Int × Int × Unit) × Cue × Unit)) (f110 : List Cue × Cue × Unit → Option (List Cue × Bool × Unit)) (t2 : (List Int × Int × Int × Unit) × List Cue × Int × Unit) (rec K : (List Int × Int × Int × Unit) × List Cue × Int × Unit → Option ((List Int × Int × Int × Unit) × List Cue × Unit)) : Option ((List Int × Int × Int × Unit) × List Cue × Unit) :=
  cond (decide (t2.2.2.1 > 0)) ((f111 ((t2.1.1, t2.1.2.1, t2.1.2.2.1, ()), ())).bind fun x3 => (f110 (t2.2.1, x3.2.1, ())).bind fun x4 => rec ((x3.1.1, x3.1.2.1, x3.1.2.2.1, ()), x4.1, (w64 (t2.2.2.1 - 1)), ())) (K ((t2.1.1, t2.1.2.1, t2.1.2.2.1, ()), t2.2.1, t2.2.2.1, ()))
noncomputable def F49 (f77 : (List Int × Int × Int × Unit) × Int × Unit → Option ((List Int × Int × Int × Unit) × Int × Unit)) (f111 : (List Int × Int × Int × Unit) × Unit → Option ((List Int × Int × Int × Unit) × Cue × Unit)) (f110 : List Cue × Cue × Unit → Option (List Cue × Bool × Unit)) (a : (List Int × Int × Int × Unit) × Int × Unit) : Option ((List Int × Int × Int × Unit) × List Cue × Unit) :=
  (f77 ((a.1.1, a.1.2.1, a.1.2.2.1, ()), (w64 (a.2.1 + 1)), ())).bind fun x1 => iterF (s49_0 f77 f111 f110) fuel ((x1.1.1, x1.1.2.1, x1.1.2.2.1, ()), ([] : List Cue), x1.2.1, ()) fun t5 => some ((t5.1.1, t5.1.2.1, t5.1.2.2.1, ()), t5.2.1, ())
def E49 (f77 : (List Int × Int × Int × Unit) × Int × Unit → Option ((List Int × Int × Int × Unit) × Int × Unit)) (f111 : (List Int × Int × Int × Unit) × Unit → Option ((List Int × Int × Int × Unit) × Cue × Unit)) (f110 : List Cue × Cue × Unit → Option (List Cue × Bool × Unit)) : Env := envL [(77, mkE p77 r77 true f77), (111, mkE p111 r111 true f111), (110, mkE p110 r110 false f110)]
noncomputable def L49 (f77 : (List Int × Int × Int × Unit) × Int × Unit → Option ((List Int × Int × Int × Unit) × Int × Unit)) (f111 : (List Int × Int × Int × Unit) × Unit → Option ((List Int × Int × Int × Unit) × Cue × Unit)) (f110 : List Cue × Cue × Unit → Option (List Cue × Bool × Unit)) : LEnv (densS (muts p49 ++ r49)) := lenv [(0, loopL (R := densS (muts p49 ++ r49)) q49_0 (s49_0 f77 f111 f110))]
theorem e49_0 (f77 : (List Int × Int × Int × Unit) × Int × Unit → Option ((List Int × Int × Int × Unit) × Int × Unit)) (f111 : (List Int × Int × Int × Unit) × Unit → Option ((List Int × Int × Int × Unit) × Cue × Unit)) (f110 : List Cue × Cue × Unit → Option (List Cue × Bool × Unit)) (X : Nat → St → Option (densS (muts p49 ++ r49))) (rec K : densS q49_0 → Option (densS (muts p49 ++ r49))) (t : densS q49_0) :
    ev (E49 f77 f111 f110) tab (fun _ => false) (L49 f77 f111 f110) (retK tab p49 r49 Proofs.Try.f49.results.toList) (loopC Proofs.Try.f49 0) (fun i s => cond (Nat.beq i 0) (decK 100 q49_0 s K) (X i s)) (fun s => decK 100 q49_0 s rec) (enc q49_0 t) = s49_0 f77 f111 f110 t rec K := by kernel_rfl
theorem e49 (f77 : (List Int × Int × Int × Unit) × Int × Unit → Option ((List Int × Int × Int × Unit) × Int × Unit)) (f111 : (List Int × Int × Int × Unit) × Unit → Option ((List Int × Int × Int × Unit) × Cue × Unit)) (f110 : List Cue × Cue × Unit → Option (List Cue × Bool × Unit)) (a : densS p49) : runF (E49 f77 f111 f110) tab (fun _ => false) p49 r49 Proofs.Try.f49 (L49 f77 f111 f110) a = F49 f77 f111 f110 a := by kernel_rfl
theorem ok49 {f77 : (List Int × Int × Int × Unit) × Int × Unit → Option ((List Int × Int × Int × Unit) × Int × Unit)} {f111 : (List Int × Int × Int × Unit) × Unit → Option ((List Int × Int × Int × Unit) × Cue × Unit)} {f110 : List Cue × Cue × Unit → Option (List Cue × Bool × Unit)} (h77 : OK Proofs.Try.prog 77 (mkE p77 r77 true f77)) (h111 : OK Proofs.Try.prog 111 (mkE p111 r111 true f111)) (h110 : OK Proofs.Try.prog 110 (mkE p110 r110 false f110)) : OK Proofs.Try.prog 49 (mkE p49 r49 true (F49 f77 f111 f110)) :=
  fn_ok tab_ok (envL_ok (l := [(77, mkE p77 r77 true f77), (111, mkE p111 r111 true f111), (110, mkE p110 r110 false f110)]) (OKs.cons h77 (OKs.cons h111 (OKs.cons h110 OKs.nil)))) mixed (ann := (fun _ => false)) (L := L49 f77 f111 f110) (fn := Proofs.Try.f49) (c := bodyC Proofs.Try.f49) (ls := [(0, loopC Proofs.Try.f49 0)]) Proofs.Try.func49 (by kernel_rfl) (by kernel_rfl) (by kernel_rfl) (by kernel_rfl)
    (LoopsP.cons q49_0 (s49_0 f77 f111 f110) rfl (e49_0 f77 f111 f110) LoopsP.nil) (e49 f77 f111 f110)
/-! spec.DrawScore -/
def p11 : List SP := [.one (.r .u8)]
def r11 : List SP := [.one (.o 0 .cue), .one (.str)]
noncomputable def F11 (f48 : List Int × Unit → Option ((List Int × Int × Int × Unit) × Unit)) (f49 : (List Int × Int × Int × Unit) × Int × Unit → Option ((List Int × Int × Int × Unit) × List Cue × Unit)) (f50 : (List Int × Int × Int × Unit) × Unit → Option ((List Int × Int × Int × Unit) × Str × Unit)) (a : List Int × Unit) : Option (List Cue × Str × Unit) :=
  (f48 (a.1, ())).bind fun x1 => (f49 ((x1.1.1, x1.1.2.1, x1.1.2.2.1, ()), 7, ())).bind fun x2 => (f50 ((x2.1.1, x2.1.2.1, x2.1.2.2.1, ()), ())).bind fun x3 => some (x2.2.1, x3.2.1, ())
def E11 (f48 : List Int × Unit → Option ((List Int × Int × Int × Unit) × Unit)) (f49 : (List Int × Int × Int × Unit) × Int × Unit → Option ((List Int × Int × Int × Unit) × List Cue × Unit)) (f50 : (List Int × Int × Int × Unit) × Unit → Option ((List Int × Int × Int × Unit) × Str × Unit)) : Env := envL [(48, mkE p48 r48 true f48), (49, mkE p49 r49 true f49), (50, mkE p50 r50 true f50)]
noncomputable def L11 (f48 : List Int × Unit → Option ((List Int × Int × Int × Unit) × Unit)) (f49 : (List Int × Int × Int × Unit) × Int × Unit → Option ((List Int × Int × Int × Unit) × List Cue × Unit)) (f50 : (List Int × Int × Int × Unit) × Unit → Option ((List Int × Int × Int × Unit) × Str × Unit)) : LEnv (densS (muts p11 ++ r11)) := lenv []
theorem e11 (f48 : List Int × Unit → Option ((List Int × Int × Int × Unit) × Unit)) (f49 : (List Int × Int × Int × Unit) × Int × Unit → Option ((List Int × Int × Int × Unit) × List Cue × Unit)) (f50 : (List Int × Int × Int × Unit) × Unit → Option ((List Int × Int × Int × Unit) × Str × Unit)) (a : densS p11) : runF (E11 f48 f49 f50) tab (fun _ => false) p11 r11 Proofs.Try.f11 (L11 f48 f49 f50) a = F11 f48 f49 f50 a := by kernel_rfl
theorem ok11 {f48 : List Int × Unit → Option ((List Int × Int × Int × Unit) × Unit)} {f49 : (List Int × Int × Int × Unit) × Int × Unit → Option ((List Int × Int × Int × Unit) × List Cue × Unit)} {f50 : (List Int × Int × Int × Unit) × Unit → Option ((List Int × Int × Int × Unit) × Str × Unit)} (h48 : OK Proofs.Try.prog 48 (mkE p48 r48 true f48)) (h49 : OK Proofs.Try.prog 49 (mkE p49 r49 true f49)) (h50 : OK Proofs.Try.prog 50 (mkE p50 r50 true f50)) : OK Proofs.Try.prog 11 (mkE p11 r11 false (F11 f48 f49 f50)) :=
  fn_ok tab_ok (envL_ok (l := [(48, mkE p48 r48 true f48), (49, mkE p49 r49 true f49), (50, mkE p50 r50 true f50)]) (OKs.cons h48 (OKs.cons h49 (OKs.cons h50 OKs.nil)))) mixed (ann := (fun _ => false)) (L := L11 f48 f49 f50) (fn := Proofs.Try.f11) (c := bodyC Proofs.Try.f11) (ls := []) Proofs.Try.func11 (by kernel_rfl) (by kernel_rfl) (by kernel_rfl) (by kernel_rfl)
    LoopsP.nil (e11 f48 f49 f50)
/-! impl.isWithin -/
def p52 : List SP := [.one (.int .i64), .one (.int .i64), .one (.int .i64)]
def r52 : List SP := [.one (.bool)]
noncomputable def F52 (a : Int × Int × Int × Unit) : Option (Bool × Unit) :=
  cond (decide (a.2.1 ≤ a.1)) (some ((decide (a.1 ≤ a.2.2.1)), ())) (some (false, ()))
def E52 : Env := envL []
noncomputable def L52 : LEnv (densS (muts p52 ++ r52)) := lenv []
theorem e52 (a : densS p52) : runF (E52) tab (fun _ => false) p52 r52 Proofs.Try.f52 (L52) a = F52 a := by kernel_rfl
theorem ok52 : OK Proofs.Try.prog 52 (mkE p52 r52 false (F52)) :=
  fn_ok tab_ok (envL_ok (l := []) OKs.nil) mixed (ann := (fun _ => false)) (L := L52) (fn := Proofs.Try.f52) (c := bodyC Proofs.Try.f52) (ls := []) Proofs.Try.func52 (by kernel_rfl) (by kernel_rfl) (by kernel_rfl) (by kernel_rfl)
    LoopsP.nil (e52)
/-! impl.IsName -/
def p62 : List SP := [.one (.str)]
def r62 : List SP := [.one (.bool)]
def q62_0 : List SP := pat 42 0 [(0, .one (.str)), (6, .one (.int .i64)), (7, .one (.int .i64))]
noncomputable def s62_0 (f52 : Int × Int × Int × Unit → Option (Bool × Unit)) (t1 : Str × Int × Int × Unit) (rec K : Str × Int × Int × Unit → Option (Bool × Unit)) : Option (Bool × Unit) :=
  cond (decide (t1.2.2.1 < t1.2.1)) (rdL t1.1 t1.2.2.1 fun d2 => cond (decide ((Int.ofNat (UInt8.toNat d2)) ≥ 97)) (rdL t1.1 t1.2.2.1 fun d3 => cond (!(decide ((Int.ofNat (UInt8.toNat d3)) ≤ 122))) (cond (!(decide (t1.2.2.1 = 0))) (rdL t1.1 t1.2.2.1 fun d4 => cond (!(decide ((Int.ofNat (UInt8.toNat d4)) < 48))) (rdL t1.1 t1.2.2.1 fun d5 => cond (decide ((Int.ofNat (UInt8.toNat d5)) > 57)) (some (false, ())) (rec (t1.1, t1.2.1, (w64 (t1.2.2.1 + 1)), ()))) (some (false, ()))) (some (false, ()))) (rec (t1.1, t1.2.1, (w64 (t1.2.2.1 + 1)), ()))) (cond (!(decide (t1.2.2.1 = 0))) (rdL t1.1 t1.2.2.1 fun d6 => cond (!(decide ((Int.ofNat (UInt8.toNat d6)) < 48))) (rdL t1.1 t1.2.2.1 fun d7 => cond (decide ((Int.ofNat (UInt8.toNat d7)) > 57)) (some (false, ())) (rec (t1.1, t1.2.1, (w64 (t1.2.2.1 + 1)), ()))) (some (false, ()))) (some (false, ())))) (K (t1.1, t1.2.1, t1.2.2.1, ()))
noncomputable def F62 (f52 : Int × Int × Int × Unit → Option (Bool × Unit)) (a : Str × Unit) : Option (Bool × Unit) :=
  iterF (s62_0 f52) fuel (a.1, (Int.ofNat (List.length a.1)), 0, ()) fun t8 => (f52 ((Int.ofNat (List.length t8.1)), 1, 8, ())).bind fun x9 => some (x9.1, ())
def E62 (f52 : Int × Int × Int × Unit → Option (Bool × Unit)) : Env := envL [(52, mkE p52 r52 false f52)]
noncomputable def L62 (f52 : Int × Int × Int × Unit → Option (Bool × Unit)) : LEnv (densS (muts p62 ++ r62)) := lenv [(0, loopL (R := densS (muts p62 ++ r62)) q62_0 (s62_0 f52))]
theorem e62_0 (f52 : Int × Int × Int × Unit → Option (Bool × Unit)) (X : Nat → St → Option (densS (muts p62 ++ r62))) (rec K : densS q62_0 → Option (densS (muts p62 ++ r62))) (t : densS q62_0) :
    ev (E62 f52) tab (fun _ => false) (L62 f52) (retK tab p62 r62 Proofs.Try.f62.results.toList) (loopC Proofs.Try.f62 0) (fun i s => cond (Nat.beq i 0) (decK 100 q62_0 s K) (X i s)) (fun s => decK 100 q62_0 s rec) (enc q62_0 t) = s62_0 f52 t rec K := by kernel_rfl
theorem e62 (f52 : Int × Int × Int × Unit → Option (Bool × Unit)) (a : densS p62) : runF (E62 f52) tab (fun _ => false) p62 r62 Proofs.Try.f62 (L62 f52) a = F62 f52 a := by kernel_rfl
theorem ok62 {f52 : Int × Int × Int × Unit → Option (Bool × Unit)} (h52 : OK Proofs.Try.prog 52 (mkE p52 r52 false f52)) : OK Proofs.Try.prog 62 (mkE p62 r62 false (F62 f52)) :=
  fn_ok tab_ok (envL_ok (l := [(52, mkE p52 r52 false f52)]) (OKs.cons h52 OKs.nil)) mixed (ann := (fun _ => false)) (L := L62 f52) (fn := Proofs.Try.f62) (c := bodyC Proofs.Try.f62) (ls := [(0, loopC Proofs.Try.f62 0)]) Proofs.Try.func62 (by kernel_rfl) (by kernel_rfl) (by kernel_rfl) (by kernel_rfl)
    (LoopsP.cons q62_0 (s62_0 f52) rfl (e62_0 f52) LoopsP.nil) (e62 f52)
/-! impl.IsCue -/
def p113 : List SP := [.t .cue]
def r113 : List SP := [.one (.bool)]
noncomputable def F113 (f52 : Int × Int × Int × Unit → Option (Bool × Unit)) (f62 : Str × Unit → Option (Bool × Unit)) (a : Cue × Unit) : Option (Bool × Unit) :=
  (f52 (a.1.Tick, 0, 64, ())).bind fun x1 => cond x1.1 ((f62 (a.1.Name, ())).bind fun x2 => cond x2.1 ((f52 (a.1.Level, 0, 32, ())).bind fun x3 => cond x3.1 ((f52 (a.1.Ramp, 0, 16, ())).bind fun x4 => some (x4.1, ())) (some (false, ()))) (some (false, ()))) (some (false, ()))
def E113 (f52 : Int × Int × Int × Unit → Option (Bool × Unit)) (f62 : Str × Unit → Option (Bool × Unit)) : Env := envL [(52, mkE p52 r52 false f52), (62, mkE p62 r62 false f62)]
noncomputable def L113 (f52 : Int × Int × Int × Unit → Option (Bool × Unit)) (f62 : Str × Unit → Option (Bool × Unit)) : LEnv (densS (muts p113 ++ r113)) := lenv []
theorem e113 (f52 : Int × Int × Int × Unit → Option (Bool × Unit)) (f62 : Str × Unit → Option (Bool × Unit)) (a : densS p113) : runF (E113 f52 f62) tab (fun _ => false) p113 r113 Proofs.Try.f113 (L113 f52 f62) a = F113 f52 f62 a := by kernel_rfl
theorem ok113 {f52 : Int × Int × Int × Unit → Option (Bool × Unit)} {f62 : Str × Unit → Option (Bool × Unit)} (h52 : OK Proofs.Try.prog 52 (mkE p52 r52 false f52)) (h62 : OK Proofs.Try.prog 62 (mkE p62 r62 false f62)) : OK Proofs.Try.prog 113 (mkE p113 r113 false (F113 f52 f62)) :=
  fn_ok tab_ok (envL_ok (l := [(52, mkE p52 r52 false f52), (62, mkE p62 r62 false f62)]) (OKs.cons h52 (OKs.cons h62 OKs.nil))) mixed (ann := (fun _ => false)) (L := L113 f52 f62) (fn := Proofs.Try.f113) (c := bodyC Proofs.Try.f113) (ls := []) Proofs.Try.func113 (by kernel_rfl) (by kernel_rfl) (by kernel_rfl) (by kernel_rfl)
    LoopsP.nil (e113 f52 f62)
/-! cmp.isNaN[int] -/
def p174 : List SP := [.one (.int .i64)]
def r174 : List SP := [.one (.bool)]
noncomputable def F174 (a : Int × Unit) : Option (Bool × Unit) :=
  some ((!(decide (a.1 = a.1))), ())
def E174 : Env := envL []
noncomputable def L174 : LEnv (densS (muts p174 ++ r174)) := lenv []
theorem e174 (a : densS p174) : runF (E174) tab (fun _ => false) p174 r174 Proofs.Try.f174 (L174) a = F174 a := by kernel_rfl
theorem ok174 : OK Proofs.Try.prog 174 (mkE p174 r174 false (F174)) :=
  fn_ok tab_ok (envL_ok (l := []) OKs.nil) mixed (ann := (fun _ => false)) (L := L174) (fn := Proofs.Try.f174) (c := bodyC Proofs.Try.f174) (ls := []) Proofs.Try.func174 (by kernel_rfl) (by kernel_rfl) (by kernel_rfl) (by kernel_rfl)
    LoopsP.nil (e174)
/-! cmp.Compare[int] -/
def p132 : List SP := [.one (.int .i64), .one (.int .i64)]
def r132 : List SP := [.one (.int .i64)]
noncomputable def F132 (f174 : Int × Unit → Option (Bool × Unit)) (a : Int × Int × Unit) : Option (Int × Unit) :=
  (f174 (a.1, ())).bind fun x1 => (f174 (a.2.1, ())).bind fun x2 => cond x1.1 (cond x2.1 (some (0, ())) (some ((-1), ()))) (cond x2.1 (some (1, ())) (cond (decide (a.1 < a.2.1)) (some ((-1), ())) (cond (decide (a.1 > a.2.1)) (some (1, ())) (some (0, ())))))
def E132 (f174 : Int × Unit → Option (Bool × Unit)) : Env := envL [(174, mkE p174 r174 false f174)]
noncomputable def L132 (f174 : Int × Unit → Option (Bool × Unit)) : LEnv (densS (muts p132 ++ r132)) := lenv []
theorem e132 (f174 : Int × Unit → Option (Bool × Unit)) (a : densS p132) : runF (E132 f174) tab (fun _ => false) p132 r132 Proofs.Try.f132 (L132 f174) a = F132 f174 a := by kernel_rfl
theorem ok132 {f174 : Int × Unit → Option (Bool × Unit)} (h174 : OK Proofs.Try.prog 174 (mkE p174 r174 false f174)) : OK Proofs.Try.prog 132 (mkE p132 r132 false (F132 f174)) :=
  fn_ok tab_ok (envL_ok (l := [(174, mkE p174 r174 false f174)]) (OKs.cons h174 OKs.nil)) mixed (ann := (fun _ => false)) (L := L132 f174) (fn := Proofs.Try.f132) (c := bodyC Proofs.Try.f132) (ls := []) Proofs.Try.func132 (by kernel_rfl) (by kernel_rfl) (by kernel_rfl) (by kernel_rfl)
    LoopsP.nil (e132 f174)
/-! cmp.isNaN[string] -/
def p192 : List SP := [.one (.str)]
def r192 : List SP := [.one (.bool)]
noncomputable def F192 (a : Str × Unit) : Option (Bool × Unit) :=
  some ((!decide (a.1 = a.1)), ())
def E192 : Env := envL []
noncomputable def L192 : LEnv (densS (muts p192 ++ r192)) := lenv []
theorem e192 (a : densS p192) : runF (E192) tab (fun _ => false) p192 r192 Proofs.Try.f192 (L192) a = F192 a := by kernel_rfl
theorem ok192 : OK Proofs.Try.prog 192 (mkE p192 r192 false (F192)) :=
  fn_ok tab_ok (envL_ok (l := []) OKs.nil) mixed (ann := (fun _ => false)) (L := L192) (fn := Proofs.Try.f192) (c := bodyC Proofs.Try.f192) (ls := []) Proofs.Try.func192 (by kernel_rfl) (by kernel_rfl) (by kernel_rfl) (by kernel_rfl)
    LoopsP.nil (e192)
/-! cmp.Compare[string] -/
def p170 : List SP := [.one (.str), .one (.str)]
def r170 : List SP := [.one (.int .i64)]
noncomputable def F170 (f192 : Str × Unit → Option (Bool × Unit)) (a : Str × Str × Unit) : Option (Int × Unit) :=
  (f192 (a.1, ())).bind fun x1 => (f192 (a.2.1, ())).bind fun x2 => cond x1.1 (cond x2.1 (some (0, ())) (some ((-1), ()))) (cond x2.1 (some (1, ())) (cond (Op.bytesLess a.1 a.2.1) (some ((-1), ())) (cond (!(Op.bytesLess a.1 a.2.1 || decide (a.1 = a.2.1))) (some (1, ())) (some (0, ())))))
def E170 (f192 : Str × Unit → Option (Bool × Unit)) : Env := envL [(192, mkE p192 r192 false f192)]
noncomputable def L170 (f192 : Str × Unit → Option (Bool × Unit)) : LEnv (densS (muts p170 ++ r170)) := lenv []
theorem e170 (f192 : Str × Unit → Option (Bool × Unit)) (a : densS p170) : runF (E170 f192) tab (fun _ => false) p170 r170 Proofs.Try.f170 (L170 f192) a = F170 f192 a := by kernel_rfl
theorem ok170 {f192 : Str × Unit → Option (Bool × Unit)} (h192 : OK Proofs.Try.prog 192 (mkE p192 r192 false f192)) : OK Proofs.Try.prog 170 (mkE p170 r170 false (F170 f192)) :=
  fn_ok tab_ok (envL_ok (l := [(192, mkE p192 r192 false f192)]) (OKs.cons h192 OKs.nil)) mixed (ann := (fun _ => false)) (L := L170 f192) (fn := Proofs.Try.f170) (c := bodyC Proofs.Try.f170) (ls := []) Proofs.Try.func170 (by kernel_rfl) (by kernel_rfl) (by kernel_rfl) (by kernel_rfl)
    LoopsP.nil (e170 f192)
/-! cmp.Or[int] -/
def p131 : List SP := [.one (.r .int)]
def r131 : List SP := [.one (.int .i64)]
def q131_0 : List SP := pat 18 0 [(3, .one (.int .i64)), (6, .one (.r .int)), (7, .one (.int .i64)), (8, .one (.int .i64))]
noncomputable def s131_0 (t1 : Int × List Int × Int × Int × Unit) (rec K : Int × List Int × Int × Int × Unit → Option (Int × Unit)) : Option (Int × Unit) :=
  cond (decide (t1.2.2.2.1 < t1.2.2.1)) (rdL t1.2.1 t1.2.2.2.1 fun d2 => cond (!(decide (d2 = t1.1))) (some (d2, ())) (rec (t1.1, t1.2.1, t1.2.2.1, (w64 (t1.2.2.2.1 + 1)), ()))) (K (t1.1, t1.2.1, t1.2.2.1, t1.2.2.2.1, ()))
noncomputable def F131 (a : List Int × Unit) : Option (Int × Unit) :=
  iterF (s131_0) fuel (0, a.1, (Int.ofNat (List.length a.1)), 0, ()) fun t3 => some (t3.1, ())
def E131 : Env := envL []
noncomputable def L131 : LEnv (densS (muts p131 ++ r131)) := lenv [(0, loopL (R := densS (muts p131 ++ r131)) q131_0 (s131_0))]
theorem e131_0 (X : Nat → St → Option (densS (muts p131 ++ r131))) (rec K : densS q131_0 → Option (densS (muts p131 ++ r131))) (t : densS q131_0) :
    ev (E131) tab (fun _ => false) (L131) (retK tab p131 r131 Proofs.Try.f131.results.toList) (loopC Proofs.Try.f131 0) (fun i s => cond (Nat.beq i 0) (decK 100 q131_0 s K) (X i s)) (fun s => decK 100 q131_0 s rec) (enc q131_0 t) = s131_0 t rec K := by kernel_rfl
theorem e131 (a : densS p131) : runF (E131) tab (fun _ => false) p131 r131 Proofs.Try.f131 (L131) a = F131 a := by kernel_rfl
theorem ok131 : OK Proofs.Try.prog 131 (mkE p131 r131 false (F131)) :=
  fn_ok tab_ok (envL_ok (l := []) OKs.nil) mixed (ann := (fun _ => false)) (L := L131) (fn := Proofs.Try.f131) (c := bodyC Proofs.Try.f131) (ls := [(0, loopC Proofs.Try.f131 0)]) Proofs.Try.func131 (by kernel_rfl) (by kernel_rfl) (by kernel_rfl) (by kernel_rfl)
    (LoopsP.cons q131_0 (s131_0) rfl (e131_0) LoopsP.nil) (e131)
/-! impl.CompareCues -/
def p114 : List SP := [.t .cue, .t .cue]
def r114 : List SP := [.one (.int .i64)]
noncomputable def F114 (f132 : Int × Int × Unit → Option (Int × Unit)) (f170 : Str × Str × Unit → Option (Int × Unit)) (f131 : List Int × Unit → Option (Int × Unit)) (a : Cue × Cue × Unit) : Option (Int × Unit) :=
  (f132 (a.1.Tick, a.2.1.Tick, ())).bind fun x1 => (f170 (a.1.Name, a.2.1.Name, ())).bind fun x2 => (f131 (([x1.1, x2.1] : List Int), ())).bind fun x3 => some (x3.1, ())
def E114 (f132 : Int × Int × Unit → Option (Int × Unit)) (f170 : Str × Str × Unit → Option (Int × Unit)) (f131 : List Int × Unit → Option (Int × Unit)) : Env := envL [(132, mkE p132 r132 false f132), (170, mkE p170 r170 false f170), (131, mkE p131 r131 false f131)]
noncomputable def L114 (f132 : Int × Int × Unit → Option (Int × Unit)) (f170 : Str × Str × Unit → Option (Int × Unit)) (f131 : List Int × Unit → Option (Int × Unit)) : LEnv (densS (muts p114 ++ r114)) := lenv []
theorem e114 (f132 : Int × Int × Unit → Option (Int × Unit)) (f170 : Str × Str × Unit → Option (Int × Unit)) (f131 : List Int × Unit → Option (Int × Unit)) (a : densS p114) : runF (E114 f132 f170 f131) tab (fun _ => false) p114 r114 Proofs.Try.f114 (L114 f132 f170 f131) a = F114 f132 f170 f131 a := by kernel_rfl
theorem ok114 {f132 : Int × Int × Unit → Option (Int × Unit)} {f170 : Str × Str × Unit → Option (Int × Unit)} {f131 : List Int × Unit → Option (Int × Unit)} (h132 : OK Proofs.Try.prog 132 (mkE p132 r132 false f132)) (h170 : OK Proofs.Try.prog 170 (mkE p170 r170 false f170)) (h131 : OK Proofs.Try.prog 131 (mkE p131 r131 false f131)) : OK Proofs.Try.prog 114 (mkE p114 r114 false (F114 f132 f170 f131)) :=
  fn_ok tab_ok (envL_ok (l := [(132, mkE p132 r132 false f132), (170, mkE p170 r170 false f170), (131, mkE p131 r131 false f131)]) (OKs.cons h132 (OKs.cons h170 (OKs.cons h131 OKs.nil)))) mixed (ann := (fun _ => false)) (L := L114 f132 f170 f131) (fn := Proofs.Try.f114) (c := bodyC Proofs.Try.f114) (ls := []) Proofs.Try.func114 (by kernel_rfl) (by kernel_rfl) (by kernel_rfl) (by kernel_rfl)
    LoopsP.nil (e114 f132 f170 f131)
/-! impl.IsScore -/
def p51 : List SP := [.one (.r .cue)]
def r51 : List SP := [.one (.bool)]
def q51_0 : List SP := pat 33 0 [(0, .one (.r .cue)), (5, .one (.r .cue)), (6, .one (.int .i64)), (7, .one (.int .i64))]
noncomputable def s51_0 (f113 : Cue × Unit → Option (Bool × Unit)) (f114 : Cue × Cue × Unit → Option (Int × Unit)) (t1 : List Cue × List Cue × Int × Int × Unit) (rec K : List Cue × List Cue × Int × Int × Unit → Option (Bool × Unit)) : Option (Bool × Unit) :=
  cond (decide (t1.2.2.2.1 < t1.2.2.1)) (rdL t1.2.1 t1.2.2.2.1 fun d2 => (f113 (d2, ())).bind fun x3 => cond (!(!x3.1)) (cond (decide (t1.2.2.2.1 > 0)) (rdL t1.1 (w64 (t1.2.2.2.1 - 1)) fun d4 => (f114 (d4, d2, ())).bind fun x5 => cond (decide (x5.1 ≥ 0)) (some (false, ())) (rec (t1.1, t1.2.1, t1.2.2.1, (w64 (t1.2.2.2.1 + 1)), ()))) (rec (t1.1, t1.2.1, t1.2.2.1, (w64 (t1.2.2.2.1 + 1)), ()))) (some (false, ()))) (K (t1.1, t1.2.1, t1.2.2.1, t1.2.2.2.1, ()))
noncomputable def F51 (f113 : Cue × Unit → Option (Bool × Unit)) (f114 : Cue × Cue × Unit → Option (Int × Unit)) (a : List Cue × Unit) : Option (Bool × Unit) :=
  iterF (s51_0 f113 f114) fuel (a.1, a.1, (Int.ofNat (List.length a.1)), 0, ()) fun t6 => some ((decide ((Int.ofNat (List.length t6.1)) ≤ 12)), ())
def E51 (f113 : Cue × Unit → Option (Bool × Unit)) (f114 : Cue × Cue × Unit → Option (Int × Unit)) : Env := envL [(113, mkE p113 r113 false f113), (114, mkE p114 r114 false f114)]
noncomputable def L51 (f113 : Cue × Unit → Option (Bool × Unit)) (f114 : Cue × Cue × Unit → Option (Int × Unit)) : LEnv (densS (muts p51 ++ r51)) := lenv [(0, loopL (R := densS (muts p51 ++ r51)) q51_0 (s51_0 f113 f114))]
theorem e51_0 (f113 : Cue × Unit → Option (Bool × Unit)) (f114 : Cue × Cue × Unit → Option (Int × Unit)) (X : Nat → St → Option (densS (muts p51 ++ r51))) (rec K : densS q51_0 → Option (densS (muts p51 ++ r51))) (t : densS q51_0) :
    ev (E51 f113 f114) tab (fun _ => false) (L51 f113 f114) (retK tab p51 r51 Proofs.Try.f51.results.toList) (loopC Proofs.Try.f51 0) (fun i s => cond (Nat.beq i 0) (decK 100 q51_0 s K) (X i s)) (fun s => decK 100 q51_0 s rec) (enc q51_0 t) = s51_0 f113 f114 t rec K := by kernel_rfl
theorem e51 (f113 : Cue × Unit → Option (Bool × Unit)) (f114 : Cue × Cue × Unit → Option (Int × Unit)) (a : densS p51) : runF (E51 f113 f114) tab (fun _ => false) p51 r51 Proofs.Try.f51 (L51 f113 f114) a = F51 f113 f114 a := by kernel_rfl
theorem ok51 {f113 : Cue × Unit → Option (Bool × Unit)} {f114 : Cue × Cue × Unit → Option (Int × Unit)} (h113 : OK Proofs.Try.prog 113 (mkE p113 r113 false f113)) (h114 : OK Proofs.Try.prog 114 (mkE p114 r114 false f114)) : OK Proofs.Try.prog 51 (mkE p51 r51 false (F51 f113 f114)) :=
  fn_ok tab_ok (envL_ok (l := [(113, mkE p113 r113 false f113), (114, mkE p114 r114 false f114)]) (OKs.cons h113 (OKs.cons h114 OKs.nil))) mixed (ann := (fun _ => false)) (L := L51 f113 f114) (fn := Proofs.Try.f51) (c := bodyC Proofs.Try.f51) (ls := [(0, loopC Proofs.Try.f51 0)]) Proofs.Try.func51 (by kernel_rfl) (by kernel_rfl) (by kernel_rfl) (by kernel_rfl)
    (LoopsP.cons q51_0 (s51_0 f113 f114) rfl (e51_0 f113 f114) LoopsP.nil) (e51 f113 f114)
/-! impl.IsMeasure -/
def p115 : List SP := [.one (.int .i64)]
def r115 : List SP := [.one (.bool)]
noncomputable def F115 (f52 : Int × Int × Int × Unit → Option (Bool × Unit)) (a : Int × Unit) : Option (Bool × Unit) :=
  (f52 (a.1, (-4096), 4096, ())).bind fun x1 => some (x1.1, ())
def E115 (f52 : Int × Int × Int × Unit → Option (Bool × Unit)) : Env := envL [(52, mkE p52 r52 false f52)]
noncomputable def L115 (f52 : Int × Int × Int × Unit → Option (Bool × Unit)) : LEnv (densS (muts p115 ++ r115)) := lenv []
theorem e115 (f52 : Int × Int × Int × Unit → Option (Bool × Unit)) (a : densS p115) : runF (E115 f52) tab (fun _ => false) p115 r115 Proofs.Try.f115 (L115 f52) a = F115 f52 a := by kernel_rfl
theorem ok115 {f52 : Int × Int × Int × Unit → Option (Bool × Unit)} (h52 : OK Proofs.Try.prog 52 (mkE p52 r52 false f52)) : OK Proofs.Try.prog 115 (mkE p115 r115 false (F115 f52)) :=
  fn_ok tab_ok (envL_ok (l := [(52, mkE p52 r52 false f52)]) (OKs.cons h52 OKs.nil)) mixed (ann := (fun _ => false)) (L := L115 f52) (fn := Proofs.Try.f115) (c := bodyC Proofs.Try.f115) (ls := []) Proofs.Try.func115 (by kernel_rfl) (by kernel_rfl) (by kernel_rfl) (by kernel_rfl)
    LoopsP.nil (e115 f52)
/-! impl.floorDiv -/
def p116 : List SP := [.one (.int .i64), .one (.int .i64)]
def r116 : List SP := [.one (.int .i64)]
noncomputable def F116 (a : Int × Int × Unit) : Option (Int × Unit) :=
  cond (decide (a.2.1 = 0)) none (cond (decide (a.2.1 = 0)) none (cond (decide ((Int.tmod a.1 a.2.1) < 0)) (some ((w64 ((w64 (Int.tdiv a.1 a.2.1)) - 1)), ())) (some ((w64 (Int.tdiv a.1 a.2.1)), ()))))
def E116 : Env := envL []
noncomputable def L116 : LEnv (densS (muts p116 ++ r116)) := lenv []
theorem e116 (a : densS p116) : runF (E116) tab (fun _ => false) p116 r116 Proofs.Try.f116 (L116) a = F116 a := by kernel_rfl
theorem ok116 : OK Proofs.Try.prog 116 (mkE p116 r116 false (F116)) :=
  fn_ok tab_ok (envL_ok (l := []) OKs.nil) mixed (ann := (fun _ => false)) (L := L116) (fn := Proofs.Try.f116) (c := bodyC Proofs.Try.f116) (ls := []) Proofs.Try.func116 (by kernel_rfl) (by kernel_rfl) (by kernel_rfl) (by kernel_rfl)
    LoopsP.nil (e116)
/-! impl.RampAt -/
def p53 : List SP := [.one (.int .i64), .one (.int .i64), .one (.int .i64), .one (.int .i64)]
def r53 : List SP := [.one (.int .i64)]
noncomputable def F53 (f115 : Int × Unit → Option (Bool × Unit)) (f116 : Int × Int × Unit → Option (Int × Unit)) (a : Int × Int × Int × Int × Unit) : Option (Int × Unit) :=
  (f115 (a.1, ())).bind fun x1 => cond (!(!x1.1)) ((f115 (a.2.1, ())).bind fun x2 => cond (!x2.1) (some (0, ())) (cond (decide (a.2.2.1 ≥ a.2.2.2.1)) (some (a.2.1, ())) (cond (!(decide (a.2.2.1 ≤ 0))) (cond (decide (a.2.2.2.1 > 999)) (some (a.1, ())) ((f116 ((w64 (a.2.2.1 * (w64 (a.2.1 - a.1)))), a.2.2.2.1, ())).bind fun x3 => some ((w64 (a.1 + x3.1)), ()))) (some (a.1, ()))))) (some (0, ()))
def E53 (f115 : Int × Unit → Option (Bool × Unit)) (f116 : Int × Int × Unit → Option (Int × Unit)) : Env := envL [(115, mkE p115 r115 false f115), (116, mkE p116 r116 false f116)]
noncomputable def L53 (f115 : Int × Unit → Option (Bool × Unit)) (f116 : Int × Int × Unit → Option (Int × Unit)) : LEnv (densS (muts p53 ++ r53)) := lenv []
theorem e53 (f115 : Int × Unit → Option (Bool × Unit)) (f116 : Int × Int × Unit → Option (Int × Unit)) (a : densS p53) : runF (E53 f115 f116) tab (fun _ => false) p53 r53 Proofs.Try.f53 (L53 f115 f116) a = F53 f115 f116 a := by kernel_rfl
theorem ok53 {f115 : Int × Unit → Option (Bool × Unit)} {f116 : Int × Int × Unit → Option (Int × Unit)} (h115 : OK Proofs.Try.prog 115 (mkE p115 r115 false f115)) (h116 : OK Proofs.Try.prog 116 (mkE p116 r116 false f116)) : OK Proofs.Try.prog 53 (mkE p53 r53 false (F53 f115 f116)) :=
  fn_ok tab_ok (envL_ok (l := [(115, mkE p115 r115 false f115), (116, mkE p116 r116 false f116)]) (OKs.cons h115 (OKs.cons h116 OKs.nil))) mixed (ann := (fun _ => false)) (L := L53 f115 f116) (fn := Proofs.Try.f53) (c := bodyC Proofs.Try.f53) (ls := []) Proofs.Try.func53 (by kernel_rfl) (by kernel_rfl) (by kernel_rfl) (by kernel_rfl)
    LoopsP.nil (e53 f115 f116)
/-! impl.LevelAt -/
def p14 : List SP := [.one (.r .cue), .one (.str), .one (.int .i64)]
def r14 : List SP := [.one (.int .i64)]
def q14_0 : List SP := pat 58 0 [(1, .one (.str)), (2, .one (.int .i64)), (7, .one (.int .i64)), (8, .boxt 5000001 .cue), (19, .one (.r .cue)), (20, .one (.int .i64)), (21, .one (.int .i64))]
noncomputable def s14_0 (f51 : List Cue × Unit → Option (Bool × Unit)) (f53 : Int × Int × Int × Int × Unit → Option (Int × Unit)) (t2 : Str × Int × Int × Cue × List Cue × Int × Int × Unit) (rec K : Str × Int × Int × Cue × List Cue × Int × Int × Unit → Option (Int × Unit)) : Option (Int × Unit) :=
  cond (decide (t2.2.2.2.2.2.2.1 < t2.2.2.2.2.2.1)) (rdL t2.2.2.2.2.1 t2.2.2.2.2.2.2.1 fun d3 => cond (decide (d3.Name = t2.1)) (cond (decide (d3.Tick ≤ t2.2.1)) ((f53 (t2.2.2.1, t2.2.2.2.1.Level, (w64 (d3.Tick - t2.2.2.2.1.Tick)), t2.2.2.2.1.Ramp, ())).bind fun x4 => rec (t2.1, t2.2.1, x4.1, d3, t2.2.2.2.2.1, t2.2.2.2.2.2.1, (w64 (t2.2.2.2.2.2.2.1 + 1)), ())) (rec (t2.1, t2.2.1, t2.2.2.1, t2.2.2.2.1, t2.2.2.2.2.1, t2.2.2.2.2.2.1, (w64 (t2.2.2.2.2.2.2.1 + 1)), ()))) (rec (t2.1, t2.2.1, t2.2.2.1, t2.2.2.2.1, t2.2.2.2.2.1, t2.2.2.2.2.2.1, (w64 (t2.2.2.2.2.2.2.1 + 1)), ()))) (K (t2.1, t2.2.1, t2.2.2.1, t2.2.2.2.1, t2.2.2.2.2.1, t2.2.2.2.2.2.1, t2.2.2.2.2.2.2.1, ()))
noncomputable def F14 (f51 : List Cue × Unit → Option (Bool × Unit)) (f53 : Int × Int × Int × Int × Unit → Option (Int × Unit)) (a : List Cue × Str × Int × Unit) : Option (Int × Unit) :=
  (f51 (a.1, ())).bind fun x1 => cond (!(!x1.1)) (cond (decide (a.2.2.1 < 0)) (some (0, ())) (iterF (s14_0 f51 f53) fuel (a.2.1, a.2.2.1, 0, (⟨0, [], 0, 0⟩ : Cue), a.1, (Int.ofNat (List.length a.1)), 0, ()) fun t5 => (f53 (t5.2.2.1, t5.2.2.2.1.Level, (w64 (t5.2.1 - t5.2.2.2.1.Tick)), t5.2.2.2.1.Ramp, ())).bind fun x6 => some (x6.1, ()))) (some (0, ()))
def E14 (f51 : List Cue × Unit → Option (Bool × Unit)) (f53 : Int × Int × Int × Int × Unit → Option (Int × Unit)) : Env := envL [(51, mkE p51 r51 false f51), (53, mkE p53 r53 false f53)]
noncomputable def L14 (f51 : List Cue × Unit → Option (Bool × Unit)) (f53 : Int × Int × Int × Int × Unit → Option (Int × Unit)) : LEnv (densS (muts p14 ++ r14)) := lenv [(0, loopL (R := densS (muts p14 ++ r14)) q14_0 (s14_0 f51 f53))]
theorem e14_0 (f51 : List Cue × Unit → Option (Bool × Unit)) (f53 : Int × Int × Int × Int × Unit → Option (Int × Unit)) (X : Nat → St → Option (densS (muts p14 ++ r14))) (rec K : densS q14_0 → Option (densS (muts p14 ++ r14))) (t : densS q14_0) :
    ev (E14 f51 f53) tab (fun _ => false) (L14 f51 f53) (retK tab p14 r14 Proofs.Try.f14.results.toList) (loopC Proofs.Try.f14 0) (fun i s => cond (Nat.beq i 0) (decK 100 q14_0 s K) (X i s)) (fun s => decK 100 q14_0 s rec) (enc q14_0 t) = s14_0 f51 f53 t rec K := by kernel_rfl
theorem e14 (f51 : List Cue × Unit → Option (Bool × Unit)) (f53 : Int × Int × Int × Int × Unit → Option (Int × Unit)) (a : densS p14) : runF (E14 f51 f53) tab (fun _ => false) p14 r14 Proofs.Try.f14 (L14 f51 f53) a = F14 f51 f53 a := by kernel_rfl
theorem ok14 {f51 : List Cue × Unit → Option (Bool × Unit)} {f53 : Int × Int × Int × Int × Unit → Option (Int × Unit)} (h51 : OK Proofs.Try.prog 51 (mkE p51 r51 false f51)) (h53 : OK Proofs.Try.prog 53 (mkE p53 r53 false f53)) : OK Proofs.Try.prog 14 (mkE p14 r14 false (F14 f51 f53)) :=
  fn_ok tab_ok (envL_ok (l := [(51, mkE p51 r51 false f51), (53, mkE p53 r53 false f53)]) (OKs.cons h51 (OKs.cons h53 OKs.nil))) mixed (ann := (fun _ => false)) (L := L14 f51 f53) (fn := Proofs.Try.f14) (c := bodyC Proofs.Try.f14) (ls := [(0, loopC Proofs.Try.f14 0)]) Proofs.Try.func14 (by kernel_rfl) (by kernel_rfl) (by kernel_rfl) (by kernel_rfl)
    (LoopsP.cons q14_0 (s14_0 f51 f53) rfl (e14_0 f51 f53) LoopsP.nil) (e14 f51 f53)
/-! impl.TrackOf -/
def p12 : List SP := [.one (.r .cue), .one (.str), .one (.int .i64)]
def r12 : List SP := [.one (.o 0 .int)]
def q12_0 : List SP := pat 32 0 [(0, .one (.r .cue)), (1, .one (.str)), (7, .one (.o 5000001 .int)), (19, .one (.int .i64)), (20, .one (.int .i64))]
noncomputable def s12_0 (f51 : List Cue × Unit → Option (Bool × Unit)) (f52 : Int × Int × Int × Unit → Option (Bool × Unit)) (f14 : List Cue × Str × Int × Unit → Option (Int × Unit)) (t3 : List Cue × Str × List Int × Int × Int × Unit) (rec K : List Cue × Str × List Int × Int × Int × Unit → Option (List Int × Unit)) : Option (List Int × Unit) :=
  cond (decide (t3.2.2.2.2.1 < t3.2.2.2.1)) ((f14 (t3.1, t3.2.1, t3.2.2.2.2.1, ())).bind fun x4 => capK (List.length t3.2.2.1 + List.length ([x4.1] : List Int)) (rec (t3.1, t3.2.1, (t3.2.2.1 ++ ([x4.1] : List Int)), t3.2.2.2.1, (w64 (t3.2.2.2.2.1 + 1)), ()))) (K (t3.1, t3.2.1, t3.2.2.1, t3.2.2.2.1, t3.2.2.2.2.1, ()))
noncomputable def F12 (f51 : List Cue × Unit → Option (Bool × Unit)) (f52 : Int × Int × Int × Unit → Option (Bool × Unit)) (f14 : List Cue × Str × Int × Unit → Option (Int × Unit)) (a : List Cue × Str × Int × Unit) : Option (List Int × Unit) :=
  (f51 (a.1, ())).bind fun x1 => cond (!(!x1.1)) ((f52 (a.2.2.1, 0, 64, ())).bind fun x2 => cond (!x2.1) (some (([] : List Int), ())) (iterF (s12_0 f51 f52 f14) fuel (a.1, a.2.1, ([] : List Int), a.2.2.1, 0, ()) fun t5 => some (t5.2.2.1, ()))) (some (([] : List Int), ()))
def E12 (f51 : List Cue × Unit → Option (Bool × Unit)) (f52 : Int × Int × Int × Unit → Option (Bool × Unit)) (f14 : List Cue × Str × Int × Unit → Option (Int × Unit)) : Env := envL [(51, mkE p51 r51 false f51), (52, mkE p52 r52 false f52), (14, mkE p14 r14 false f14)]
noncomputable def L12 (f51 : List Cue × Unit → Option (Bool × Unit)) (f52 : Int × Int × Int × Unit → Option (Bool × Unit)) (f14 : List Cue × Str × Int × Unit → Option (Int × Unit)) : LEnv (densS (muts p12 ++ r12)) := lenv [(0, loopL (R := densS (muts p12 ++ r12)) q12_0 (s12_0 f51 f52 f14))]
theorem e12_0 (f51 : List Cue × Unit → Option (Bool × Unit)) (f52 : Int × Int × Int × Unit → Option (Bool × Unit)) (f14 : List Cue × Str × Int × Unit → Option (Int × Unit)) (X : Nat → St → Option (densS (muts p12 ++ r12))) (rec K : densS q12_0 → Option (densS (muts p12 ++ r12))) (t : densS q12_0) :
    ev (E12 f51 f52 f14) tab (fun _ => false) (L12 f51 f52 f14) (retK tab p12 r12 Proofs.Try.f12.results.toList) (loopC Proofs.Try.f12 0) (fun i s => cond (Nat.beq i 0) (decK 100 q12_0 s K) (X i s)) (fun s => decK 100 q12_0 s rec) (enc q12_0 t) = s12_0 f51 f52 f14 t rec K := by kernel_rfl
theorem e12 (f51 : List Cue × Unit → Option (Bool × Unit)) (f52 : Int × Int × Int × Unit → Option (Bool × Unit)) (f14 : List Cue × Str × Int × Unit → Option (Int × Unit)) (a : densS p12) : runF (E12 f51 f52 f14) tab (fun _ => false) p12 r12 Proofs.Try.f12 (L12 f51 f52 f14) a = F12 f51 f52 f14 a := by kernel_rfl
theorem ok12 {f51 : List Cue × Unit → Option (Bool × Unit)} {f52 : Int × Int × Int × Unit → Option (Bool × Unit)} {f14 : List Cue × Str × Int × Unit → Option (Int × Unit)} (h51 : OK Proofs.Try.prog 51 (mkE p51 r51 false f51)) (h52 : OK Proofs.Try.prog 52 (mkE p52 r52 false f52)) (h14 : OK Proofs.Try.prog 14 (mkE p14 r14 false f14)) : OK Proofs.Try.prog 12 (mkE p12 r12 false (F12 f51 f52 f14)) :=
  fn_ok tab_ok (envL_ok (l := [(51, mkE p51 r51 false f51), (52, mkE p52 r52 false f52), (14, mkE p14 r14 false f14)]) (OKs.cons h51 (OKs.cons h52 (OKs.cons h14 OKs.nil)))) mixed (ann := (fun _ => false)) (L := L12 f51 f52 f14) (fn := Proofs.Try.f12) (c := bodyC Proofs.Try.f12) (ls := [(0, loopC Proofs.Try.f12 0)]) Proofs.Try.func12 (by kernel_rfl) (by kernel_rfl) (by kernel_rfl) (by kernel_rfl)
    (LoopsP.cons q12_0 (s12_0 f51 f52 f14) rfl (e12_0 f51 f52 f14) LoopsP.nil) (e12 f51 f52 f14)
/-! impl.IsTrack -/
def p13 : List SP := [.one (.r .int)]
def r13 : List SP := [.one (.bool)]
def q13_0 : List SP := pat 18 0 [(0, .one (.r .int)), (5, .one (.r .int)), (6, .one (.int .i64)), (7, .one (.int .i64))]
noncomputable def s13_0 (f52 : Int × Int × Int × Unit → Option (Bool × Unit)) (t1 : List Int × List Int × Int × Int × Unit) (rec K : List Int × List Int × Int × Int × Unit → Option (Bool × Unit)) : Option (Bool × Unit) :=
  cond (decide (t1.2.2.2.1 < t1.2.2.1)) (rdL t1.2.1 t1.2.2.2.1 fun d2 => (f52 (d2, 0, 32, ())).bind fun x3 => cond (!x3.1) (some (false, ())) (rec (t1.1, t1.2.1, t1.2.2.1, (w64 (t1.2.2.2.1 + 1)), ()))) (K (t1.1, t1.2.1, t1.2.2.1, t1.2.2.2.1, ()))
noncomputable def F13 (f52 : Int × Int × Int × Unit → Option (Bool × Unit)) (a : List Int × Unit) : Option (Bool × Unit) :=
  iterF (s13_0 f52) fuel (a.1, a.1, (Int.ofNat (List.length a.1)), 0, ()) fun t4 => some ((decide ((Int.ofNat (List.length t4.1)) ≤ 64)), ())
def E13 (f52 : Int × Int × Int × Unit → Option (Bool × Unit)) : Env := envL [(52, mkE p52 r52 false f52)]
noncomputable def L13 (f52 : Int × Int × Int × Unit → Option (Bool × Unit)) : LEnv (densS (muts p13 ++ r13)) := lenv [(0, loopL (R := densS (muts p13 ++ r13)) q13_0 (s13_0 f52))]
theorem e13_0 (f52 : Int × Int × Int × Unit → Option (Bool × Unit)) (X : Nat → St → Option (densS (muts p13 ++ r13))) (rec K : densS q13_0 → Option (densS (muts p13 ++ r13))) (t : densS q13_0) :
    ev (E13 f52) tab (fun _ => false) (L13 f52) (retK tab p13 r13 Proofs.Try.f13.results.toList) (loopC Proofs.Try.f13 0) (fun i s => cond (Nat.beq i 0) (decK 100 q13_0 s K) (X i s)) (fun s => decK 100 q13_0 s rec) (enc q13_0 t) = s13_0 f52 t rec K := by kernel_rfl
theorem e13 (f52 : Int × Int × Int × Unit → Option (Bool × Unit)) (a : densS p13) : runF (E13 f52) tab (fun _ => false) p13 r13 Proofs.Try.f13 (L13 f52) a = F13 f52 a := by kernel_rfl
theorem ok13 {f52 : Int × Int × Int × Unit → Option (Bool × Unit)} (h52 : OK Proofs.Try.prog 52 (mkE p52 r52 false f52)) : OK Proofs.Try.prog 13 (mkE p13 r13 false (F13 f52)) :=
  fn_ok tab_ok (envL_ok (l := [(52, mkE p52 r52 false f52)]) (OKs.cons h52 OKs.nil)) mixed (ann := (fun _ => false)) (L := L13 f52) (fn := Proofs.Try.f13) (c := bodyC Proofs.Try.f13) (ls := [(0, loopC Proofs.Try.f13 0)]) Proofs.Try.func13 (by kernel_rfl) (by kernel_rfl) (by kernel_rfl) (by kernel_rfl)
    (LoopsP.cons q13_0 (s13_0 f52) rfl (e13_0 f52) LoopsP.nil) (e13 f52)
/-! slices.Clone[[]impl.Cue,impl.Cue] -/
def p54 : List SP := [.one (.r .cue)]
def r54 : List SP := [.one (.o 0 .cue)]
noncomputable def F54 (a : List Cue × Unit) : Option (List Cue × Unit) :=
  emptyK (List.isEmpty a.1) (some ([], ())) (capK (List.length ([] : List Cue) + List.length a.1) (some ((([] : List Cue) ++ a.1), ())))
def E54 : Env := envL []
noncomputable def L54 : LEnv (densS (muts p54 ++ r54)) := lenv []
theorem e54 (a : densS p54) : runF (E54) tab (fun _ => false) p54 r54 Proofs.Try.f54 (L54) a = F54 a := by kernel_rfl
theorem ok54 : OK Proofs.Try.prog 54 (mkE p54 r54 false (F54)) :=
  fn_ok tab_ok (envL_ok (l := []) OKs.nil) mixed (ann := (fun _ => false)) (L := L54) (fn := Proofs.Try.f54) (c := bodyC Proofs.Try.f54) (ls := []) Proofs.Try.func54 (by kernel_rfl) (by kernel_rfl) (by kernel_rfl) (by kernel_rfl)
    LoopsP.nil (e54)
/-! impl.LaterScore -/
def p15 : List SP := [.one (.r .cue), .one (.int .i64)]
def r15 : List SP := [.one (.o 0 .cue), .one (.bool)]
def q15_0 : List SP := pat 39 0 [(1, .one (.int .i64)), (6, .one (.o 5000001 .cue)), (20, .one (.int .i64)), (21, .one (.int .i64))]
noncomputable def s15_0 (f51 : List Cue × Unit → Option (Bool × Unit)) (f52 : Int × Int × Int × Unit → Option (Bool × Unit)) (f54 : List Cue × Unit → Option (List Cue × Unit)) (t4 : Int × List Cue × Int × Int × Unit) (rec K : Int × List Cue × Int × Int × Unit → Option (List Cue × Bool × Unit)) : Option (List Cue × Bool × Unit) :=
  cond (decide (t4.2.2.2.1 < t4.2.2.1)) (rdL t4.2.1 t4.2.2.2.1 fun _ => (t4.2.1[(Int.toNat t4.2.2.2.1)]?).bind fun d5 => rdL t4.2.1 t4.2.2.2.1 fun _ => (t4.2.1[(Int.toNat t4.2.2.2.1)]?).bind fun d6 => rec (t4.1, (List.set t4.2.1 (Int.toNat t4.2.2.2.1) (⟨(w64 (d5.Tick + t4.1)), d6.Name, d6.Level, d6.Ramp⟩ : Cue)), t4.2.2.1, (w64 (t4.2.2.2.1 + 1)), ())) (K (t4.1, t4.2.1, t4.2.2.1, t4.2.2.2.1, ()))
noncomputable def F15 (f51 : List Cue × Unit → Option (Bool × Unit)) (f52 : Int × Int × Int × Unit → Option (Bool × Unit)) (f54 : List Cue × Unit → Option (List Cue × Unit)) (a : List Cue × Int × Unit) : Option (List Cue × Bool × Unit) :=
  (f51 (a.1, ())).bind fun x1 => cond (!(!x1.1)) ((f52 (a.2.1, 0, 64, ())).bind fun x2 => cond (!x2.1) (some (([] : List Cue), false, ())) ((f54 (a.1, ())).bind fun x3 => iterF (s15_0 f51 f52 f54) fuel (a.2.1, x3.1, (Int.ofNat (List.length x3.1)), 0, ()) fun t7 => (f51 (t7.2.1, ())).bind fun x8 => cond (!x8.1) (some (([] : List Cue), false, ())) (some (t7.2.1, true, ())))) (some (([] : List Cue), false, ()))
def E15 (f51 : List Cue × Unit → Option (Bool × Unit)) (f52 : Int × Int × Int × Unit → Option (Bool × Unit)) (f54 : List Cue × Unit → Option (List Cue × Unit)) : Env := envL [(51, mkE p51 r51 false f51), (52, mkE p52 r52 false f52), (54, mkE p54 r54 false f54)]
noncomputable def L15 (f51 : List Cue × Unit → Option (Bool × Unit)) (f52 : Int × Int × Int × Unit → Option (Bool × Unit)) (f54 : List Cue × Unit → Option (List Cue × Unit)) : LEnv (densS (muts p15 ++ r15)) := lenv [(0, loopL (R := densS (muts p15 ++ r15)) q15_0 (s15_0 f51 f52 f54))]
theorem e15_0 (f51 : List Cue × Unit → Option (Bool × Unit)) (f52 : Int × Int × Int × Unit → Option (Bool × Unit)) (f54 : List Cue × Unit → Option (List Cue × Unit)) (X : Nat → St → Option (densS (muts p15 ++ r15))) (rec K : densS q15_0 → Option (densS (muts p15 ++ r15))) (t : densS q15_0) :
    ev (E15 f51 f52 f54) tab (fun _ => false) (L15 f51 f52 f54) (retK tab p15 r15 Proofs.Try.f15.results.toList) (loopC Proofs.Try.f15 0) (fun i s => cond (Nat.beq i 0) (decK 100 q15_0 s K) (X i s)) (fun s => decK 100 q15_0 s rec) (enc q15_0 t) = s15_0 f51 f52 f54 t rec K := by kernel_rfl
theorem e15 (f51 : List Cue × Unit → Option (Bool × Unit)) (f52 : Int × Int × Int × Unit → Option (Bool × Unit)) (f54 : List Cue × Unit → Option (List Cue × Unit)) (a : densS p15) : runF (E15 f51 f52 f54) tab (fun _ => false) p15 r15 Proofs.Try.f15 (L15 f51 f52 f54) a = F15 f51 f52 f54 a := by kernel_rfl
theorem ok15 {f51 : List Cue × Unit → Option (Bool × Unit)} {f52 : Int × Int × Int × Unit → Option (Bool × Unit)} {f54 : List Cue × Unit → Option (List Cue × Unit)} (h51 : OK Proofs.Try.prog 51 (mkE p51 r51 false f51)) (h52 : OK Proofs.Try.prog 52 (mkE p52 r52 false f52)) (h54 : OK Proofs.Try.prog 54 (mkE p54 r54 false f54)) : OK Proofs.Try.prog 15 (mkE p15 r15 false (F15 f51 f52 f54)) :=
  fn_ok tab_ok (envL_ok (l := [(51, mkE p51 r51 false f51), (52, mkE p52 r52 false f52), (54, mkE p54 r54 false f54)]) (OKs.cons h51 (OKs.cons h52 (OKs.cons h54 OKs.nil)))) mixed (ann := (fun _ => false)) (L := L15 f51 f52 f54) (fn := Proofs.Try.f15) (c := bodyC Proofs.Try.f15) (ls := [(0, loopC Proofs.Try.f15 0)]) Proofs.Try.func15 (by kernel_rfl) (by kernel_rfl) (by kernel_rfl) (by kernel_rfl)
    (LoopsP.cons q15_0 (s15_0 f51 f52 f54) rfl (e15_0 f51 f52 f54) LoopsP.nil) (e15 f51 f52 f54)
/-! slices.Clone[[]int,int] -/
def p55 : List SP := [.one (.r .int)]
def r55 : List SP := [.one (.o 0 .int)]
noncomputable def F55 (a : List Int × Unit) : Option (List Int × Unit) :=
  emptyK (List.isEmpty a.1) (some ([], ())) (capK (List.length ([] : List Int) + List.length a.1) (some ((([] : List Int) ++ a.1), ())))
def E55 : Env := envL []
noncomputable def L55 : LEnv (densS (muts p55 ++ r55)) := lenv []
theorem e55 (a : densS p55) : runF (E55) tab (fun _ => false) p55 r55 Proofs.Try.f55 (L55) a = F55 a := by kernel_rfl
theorem ok55 : OK Proofs.Try.prog 55 (mkE p55 r55 false (F55)) :=
  fn_ok tab_ok (envL_ok (l := []) OKs.nil) mixed (ann := (fun _ => false)) (L := L55) (fn := Proofs.Try.f55) (c := bodyC Proofs.Try.f55) (ls := []) Proofs.Try.func55 (by kernel_rfl) (by kernel_rfl) (by kernel_rfl) (by kernel_rfl)
    LoopsP.nil (e55)
/-! impl.WindowOf -/
def p16 : List SP := [.one (.r .int), .one (.int .i64), .one (.int .i64)]
def r16 : List SP := [.one (.o 0 .int), .one (.bool)]
noncomputable def F16 (f13 : List Int × Unit → Option (Bool × Unit)) (f55 : List Int × Unit → Option (List Int × Unit)) (a : List Int × Int × Int × Unit) : Option (List Int × Bool × Unit) :=
  (f13 (a.1, ())).bind fun x1 => cond (!(!x1.1)) (cond (!(decide (a.2.1 < 0))) (cond (!(decide (a.2.2.1 < a.2.1))) (cond (decide (a.2.2.1 > (Int.ofNat (List.length a.1)))) (some (([] : List Int), false, ())) (okIf (0 ≤ a.2.1 ∧ a.2.1 ≤ a.2.2.1 ∧ a.2.2.1 ≤ List.length a.1) ((f55 ((List.drop (Int.toNat a.2.1) (List.take (Int.toNat a.2.2.1) a.1)), ())).bind fun x2 => some (x2.1, true, ())))) (some (([] : List Int), false, ()))) (some (([] : List Int), false, ()))) (some (([] : List Int), false, ()))
def E16 (f13 : List Int × Unit → Option (Bool × Unit)) (f55 : List Int × Unit → Option (List Int × Unit)) : Env := envL [(13, mkE p13 r13 false f13), (55, mkE p55 r55 false f55)]
noncomputable def L16 (f13 : List Int × Unit → Option (Bool × Unit)) (f55 : List Int × Unit → Option (List Int × Unit)) : LEnv (densS (muts p16 ++ r16)) := lenv []
theorem e16 (f13 : List Int × Unit → Option (Bool × Unit)) (f55 : List Int × Unit → Option (List Int × Unit)) (a : densS p16) : runF (E16 f13 f55) tab (fun _ => false) p16 r16 Proofs.Try.f16 (L16 f13 f55) a = F16 f13 f55 a := by kernel_rfl
theorem ok16 {f13 : List Int × Unit → Option (Bool × Unit)} {f55 : List Int × Unit → Option (List Int × Unit)} (h13 : OK Proofs.Try.prog 13 (mkE p13 r13 false f13)) (h55 : OK Proofs.Try.prog 55 (mkE p55 r55 false f55)) : OK Proofs.Try.prog 16 (mkE p16 r16 false (F16 f13 f55)) :=
  fn_ok tab_ok (envL_ok (l := [(13, mkE p13 r13 false f13), (55, mkE p55 r55 false f55)]) (OKs.cons h13 (OKs.cons h55 OKs.nil))) mixed (ann := (fun _ => false)) (L := L16 f13 f55) (fn := Proofs.Try.f16) (c := bodyC Proofs.Try.f16) (ls := []) Proofs.Try.func16 (by kernel_rfl) (by kernel_rfl) (by kernel_rfl) (by kernel_rfl)
    LoopsP.nil (e16 f13 f55)
/-! laws.ints -/
def p17 : List SP := [.one (.r .int), .one (.r .int)]
def r17 : List SP := [.one (.bool)]
def q17_0 : List SP := pat 26 0 [(0, .one (.r .int)), (1, .one (.r .int)), (5, .one (.int .i64))]
noncomputable def s17_0 (t1 : List Int × List Int × Int × Unit) (rec K : List Int × List Int × Int × Unit → Option (Bool × Unit)) : Option (Bool × Unit) :=
  cond (decide (t1.2.2.1 < (Int.ofNat (List.length t1.1)))) (rdL t1.1 t1.2.2.1 fun d2 => rdL t1.2.1 t1.2.2.1 fun d3 => cond (!(decide (d2 = d3))) (some (false, ())) (rec (t1.1, t1.2.1, (w64 (t1.2.2.1 + 1)), ()))) (K (t1.1, t1.2.1, t1.2.2.1, ()))
noncomputable def F17 (a : List Int × List Int × Unit) : Option (Bool × Unit) :=
  cond (!(decide ((Int.ofNat (List.length a.1)) = (Int.ofNat (List.length a.2.1))))) (some (false, ())) (iterF (s17_0) fuel (a.1, a.2.1, 0, ()) fun t4 => some (true, ()))
def E17 : Env := envL []
noncomputable def L17 : LEnv (densS (muts p17 ++ r17)) := lenv [(0, loopL (R := densS (muts p17 ++ r17)) q17_0 (s17_0))]
theorem e17_0 (X : Nat → St → Option (densS (muts p17 ++ r17))) (rec K : densS q17_0 → Option (densS (muts p17 ++ r17))) (t : densS q17_0) :
    ev (E17) tab (fun _ => false) (L17) (retK tab p17 r17 Proofs.Try.f17.results.toList) (loopC Proofs.Try.f17 0) (fun i s => cond (Nat.beq i 0) (decK 100 q17_0 s K) (X i s)) (fun s => decK 100 q17_0 s rec) (enc q17_0 t) = s17_0 t rec K := by kernel_rfl
theorem e17 (a : densS p17) : runF (E17) tab (fun _ => false) p17 r17 Proofs.Try.f17 (L17) a = F17 a := by kernel_rfl
theorem ok17 : OK Proofs.Try.prog 17 (mkE p17 r17 false (F17)) :=
  fn_ok tab_ok (envL_ok (l := []) OKs.nil) mixed (ann := (fun _ => false)) (L := L17) (fn := Proofs.Try.f17) (c := bodyC Proofs.Try.f17) (ls := [(0, loopC Proofs.Try.f17 0)]) Proofs.Try.func17 (by kernel_rfl) (by kernel_rfl) (by kernel_rfl) (by kernel_rfl)
    (LoopsP.cons q17_0 (s17_0) rfl (e17_0) LoopsP.nil) (e17)
/-! laws.FnTrackLevels -/
def p3 : List SP := [.one (.r .u8)]
def r3 : List SP := [.one (.bool)]
def q3_0 : List SP := pat 62 0 [(3, .one (.o 5000001 .cue)), (4, .one (.str)), (5, .one (.o 5000002 .int)), (6, .one (.int .i64))]
noncomputable def s3_0 (f10 : List Int × Unit → Option (Bool × Unit)) (f11 : List Int × Unit → Option (List Cue × Str × Unit)) (f12 : List Cue × Str × Int × Unit → Option (List Int × Unit)) (f13 : List Int × Unit → Option (Bool × Unit)) (f14 : List Cue × Str × Int × Unit → Option (Int × Unit)) (f15 : List Cue × Int × Unit → Option (List Cue × Bool × Unit)) (f16 : List Int × Int × Int × Unit → Option (List Int × Bool × Unit)) (f17 : List Int × List Int × Unit → Option (Bool × Unit)) (t5 : List Cue × Str × List Int × Int × Unit) (rec K : List Cue × Str × List Int × Int × Unit → Option (Bool × Unit)) : Option (Bool × Unit) :=
  cond (decide (t5.2.2.2.1 < 30)) (rdL t5.2.2.1 t5.2.2.2.1 fun _ => (t5.2.2.1[(Int.toNat t5.2.2.2.1)]?).bind fun d6 => (f14 (t5.1, t5.2.1, t5.2.2.2.1, ())).bind fun x7 => cond (!(decide (d6 = x7.1))) (some (false, ())) (rec (t5.1, t5.2.1, t5.2.2.1, (w64 (t5.2.2.2.1 + 1)), ()))) (K (t5.1, t5.2.1, t5.2.2.1, t5.2.2.2.1, ()))
noncomputable def F3 (f10 : List Int × Unit → Option (Bool × Unit)) (f11 : List Int × Unit → Option (List Cue × Str × Unit)) (f12 : List Cue × Str × Int × Unit → Option (List Int × Unit)) (f13 : List Int × Unit → Option (Bool × Unit)) (f14 : List Cue × Str × Int × Unit → Option (Int × Unit)) (f15 : List Cue × Int × Unit → Option (List Cue × Bool × Unit)) (f16 : List Int × Int × Int × Unit → Option (List Int × Bool × Unit)) (f17 : List Int × List Int × Unit → Option (Bool × Unit)) (a : List Int × Unit) : Option (Bool × Unit) :=
  (f10 (a.1, ())).bind fun x1 => cond x1.1 (some (true, ())) ((f11 (a.1, ())).bind fun x2 => (f12 (x2.1, x2.2.1, 30, ())).bind fun x3 => cond (!(!(decide ((Int.ofNat (List.length x3.1)) = 30)))) ((f13 (x3.1, ())).bind fun x4 => cond (!x4.1) (some (false, ())) (iterF (s3_0 f10 f11 f12 f13 f14 f15 f16 f17) fuel (x2.1, x2.2.1, x3.1, 0, ()) fun t8 => (f15 (t8.1, 6, ())).bind fun x9 => (f12 (x9.1, t8.2.1, 36, ())).bind fun x10 => (f16 (x10.1, 6, 36, ())).bind fun x11 => cond x11.2.1 ((f17 (x11.1, t8.2.2.1, ())).bind fun x12 => some (x12.1, ())) (some (false, ())))) (some (false, ())))
def E3 (f10 : List Int × Unit → Option (Bool × Unit)) (f11 : List Int × Unit → Option (List Cue × Str × Unit)) (f12 : List Cue × Str × Int × Unit → Option (List Int × Unit)) (f13 : List Int × Unit → Option (Bool × Unit)) (f14 : List Cue × Str × Int × Unit → Option (Int × Unit)) (f15 : List Cue × Int × Unit → Option (List Cue × Bool × Unit)) (f16 : List Int × Int × Int × Unit → Option (List Int × Bool × Unit)) (f17 : List Int × List Int × Unit → Option (Bool × Unit)) : Env := envL [(10, mkE p10 r10 false f10), (11, mkE p11 r11 false f11), (12, mkE p12 r12 false f12), (13, mkE p13 r13 false f13), (14, mkE p14 r14 false f14), (15, mkE p15 r15 false f15), (16, mkE p16 r16 false f16), (17, mkE p17 r17 false f17)]
noncomputable def L3 (f10 : List Int × Unit → Option (Bool × Unit)) (f11 : List Int × Unit → Option (List Cue × Str × Unit)) (f12 : List Cue × Str × Int × Unit → Option (List Int × Unit)) (f13 : List Int × Unit → Option (Bool × Unit)) (f14 : List Cue × Str × Int × Unit → Option (Int × Unit)) (f15 : List Cue × Int × Unit → Option (List Cue × Bool × Unit)) (f16 : List Int × Int × Int × Unit → Option (List Int × Bool × Unit)) (f17 : List Int × List Int × Unit → Option (Bool × Unit)) : LEnv (densS (muts p3 ++ r3)) := lenv [(0, loopL (R := densS (muts p3 ++ r3)) q3_0 (s3_0 f10 f11 f12 f13 f14 f15 f16 f17))]
theorem e3_0 (f10 : List Int × Unit → Option (Bool × Unit)) (f11 : List Int × Unit → Option (List Cue × Str × Unit)) (f12 : List Cue × Str × Int × Unit → Option (List Int × Unit)) (f13 : List Int × Unit → Option (Bool × Unit)) (f14 : List Cue × Str × Int × Unit → Option (Int × Unit)) (f15 : List Cue × Int × Unit → Option (List Cue × Bool × Unit)) (f16 : List Int × Int × Int × Unit → Option (List Int × Bool × Unit)) (f17 : List Int × List Int × Unit → Option (Bool × Unit)) (X : Nat → St → Option (densS (muts p3 ++ r3))) (rec K : densS q3_0 → Option (densS (muts p3 ++ r3))) (t : densS q3_0) :
    ev (E3 f10 f11 f12 f13 f14 f15 f16 f17) tab (fun _ => false) (L3 f10 f11 f12 f13 f14 f15 f16 f17) (retK tab p3 r3 Proofs.Try.f3.results.toList) (loopC Proofs.Try.f3 0) (fun i s => cond (Nat.beq i 0) (decK 100 q3_0 s K) (X i s)) (fun s => decK 100 q3_0 s rec) (enc q3_0 t) = s3_0 f10 f11 f12 f13 f14 f15 f16 f17 t rec K := by kernel_rfl
theorem e3 (f10 : List Int × Unit → Option (Bool × Unit)) (f11 : List Int × Unit → Option (List Cue × Str × Unit)) (f12 : List Cue × Str × Int × Unit → Option (List Int × Unit)) (f13 : List Int × Unit → Option (Bool × Unit)) (f14 : List Cue × Str × Int × Unit → Option (Int × Unit)) (f15 : List Cue × Int × Unit → Option (List Cue × Bool × Unit)) (f16 : List Int × Int × Int × Unit → Option (List Int × Bool × Unit)) (f17 : List Int × List Int × Unit → Option (Bool × Unit)) (a : densS p3) : runF (E3 f10 f11 f12 f13 f14 f15 f16 f17) tab (fun _ => false) p3 r3 Proofs.Try.f3 (L3 f10 f11 f12 f13 f14 f15 f16 f17) a = F3 f10 f11 f12 f13 f14 f15 f16 f17 a := by kernel_rfl
theorem ok3 {f10 : List Int × Unit → Option (Bool × Unit)} {f11 : List Int × Unit → Option (List Cue × Str × Unit)} {f12 : List Cue × Str × Int × Unit → Option (List Int × Unit)} {f13 : List Int × Unit → Option (Bool × Unit)} {f14 : List Cue × Str × Int × Unit → Option (Int × Unit)} {f15 : List Cue × Int × Unit → Option (List Cue × Bool × Unit)} {f16 : List Int × Int × Int × Unit → Option (List Int × Bool × Unit)} {f17 : List Int × List Int × Unit → Option (Bool × Unit)} (h10 : OK Proofs.Try.prog 10 (mkE p10 r10 false f10)) (h11 : OK Proofs.Try.prog 11 (mkE p11 r11 false f11)) (h12 : OK Proofs.Try.prog 12 (mkE p12 r12 false f12)) (h13 : OK Proofs.Try.prog 13 (mkE p13 r13 false f13)) (h14 : OK Proofs.Try.prog 14 (mkE p14 r14 false f14)) (h15 : OK Proofs.Try.prog 15 (mkE p15 r15 false f15)) (h16 : OK Proofs.Try.prog 16 (mkE p16 r16 false f16)) (h17 : OK Proofs.Try.prog 17 (mkE p17 r17 false f17)) : OK Proofs.Try.prog 3 (mkE p3 r3 false (F3 f10 f11 f12 f13 f14 f15 f16 f17)) :=
  fn_ok tab_ok (envL_ok (l := [(10, mkE p10 r10 false f10), (11, mkE p11 r11 false f11), (12, mkE p12 r12 false f12), (13, mkE p13 r13 false f13), (14, mkE p14 r14 false f14), (15, mkE p15 r15 false f15), (16, mkE p16 r16 false f16), (17, mkE p17 r17 false f17)]) (OKs.cons h10 (OKs.cons h11 (OKs.cons h12 (OKs.cons h13 (OKs.cons h14 (OKs.cons h15 (OKs.cons h16 (OKs.cons h17 OKs.nil))))))))) mixed (ann := (fun _ => false)) (L := L3 f10 f11 f12 f13 f14 f15 f16 f17) (fn := Proofs.Try.f3) (c := bodyC Proofs.Try.f3) (ls := [(0, loopC Proofs.Try.f3 0)]) Proofs.Try.func3 (by kernel_rfl) (by kernel_rfl) (by kernel_rfl) (by kernel_rfl)
    (LoopsP.cons q3_0 (s3_0 f10 f11 f12 f13 f14 f15 f16 f17) rfl (e3_0 f10 f11 f12 f13 f14 f15 f16 f17) LoopsP.nil) (e3 f10 f11 f12 f13 f14 f15 f16 f17)
/-! spec.l5Supply -/
def p67 : List SP := [.one (.int .i64)]
def r67 : List SP := [.one (.bool)]
noncomputable def F67 (f69 : Int × Int × Int × Unit → Option (Bool × Unit)) (a : Int × Unit) : Option (Bool × Unit) :=
  (f69 (a.1, 0, 512, ())).bind fun x1 => some (x1.1, ())
def E67 (f69 : Int × Int × Int × Unit → Option (Bool × Unit)) : Env := envL [(69, mkE p69 r69 false f69)]
noncomputable def L67 (f69 : Int × Int × Int × Unit → Option (Bool × Unit)) : LEnv (densS (muts p67 ++ r67)) := lenv []
theorem e67 (f69 : Int × Int × Int × Unit → Option (Bool × Unit)) (a : densS p67) : runF (E67 f69) tab (fun _ => false) p67 r67 Proofs.Try.f67 (L67 f69) a = F67 f69 a := by kernel_rfl
theorem ok67 {f69 : Int × Int × Int × Unit → Option (Bool × Unit)} (h69 : OK Proofs.Try.prog 69 (mkE p69 r69 false f69)) : OK Proofs.Try.prog 67 (mkE p67 r67 false (F67 f69)) :=
  fn_ok tab_ok (envL_ok (l := [(69, mkE p69 r69 false f69)]) (OKs.cons h69 OKs.nil)) mixed (ann := (fun _ => false)) (L := L67 f69) (fn := Proofs.Try.f67) (c := bodyC Proofs.Try.f67) (ls := []) Proofs.Try.func67 (by kernel_rfl) (by kernel_rfl) (by kernel_rfl) (by kernel_rfl)
    LoopsP.nil (e67 f69)
/-! spec.IsHeading -/
def p173 : List SP := [.one (.int .i64)]
def r173 : List SP := [.one (.bool)]
noncomputable def F173 (a : Int × Unit) : Option (Bool × Unit) :=
  cond (decide (a.1 ≥ 0)) (some ((decide (a.1 ≤ 3)), ())) (some (false, ()))
def E173 : Env := envL []
noncomputable def L173 : LEnv (densS (muts p173 ++ r173)) := lenv []
theorem e173 (a : densS p173) : runF (E173) tab (fun _ => false) p173 r173 Proofs.Try.f173 (L173) a = F173 a := by kernel_rfl
theorem ok173 : OK Proofs.Try.prog 173 (mkE p173 r173 false (F173)) :=
  fn_ok tab_ok (envL_ok (l := []) OKs.nil) mixed (ann := (fun _ => false)) (L := L173) (fn := Proofs.Try.f173) (c := bodyC Proofs.Try.f173) (ls := []) Proofs.Try.func173 (by kernel_rfl) (by kernel_rfl) (by kernel_rfl) (by kernel_rfl)
    LoopsP.nil (e173)
/-! spec.IsJet -/
def p129 : List SP := [.t .jet]
def r129 : List SP := [.one (.bool)]
noncomputable def F129 (f69 : Int × Int × Int × Unit → Option (Bool × Unit)) (f173 : Int × Unit → Option (Bool × Unit)) (a : Jet × Unit) : Option (Bool × Unit) :=
  (f69 (a.1.At.X, (-1024), 1024, ())).bind fun x1 => cond x1.1 ((f69 (a.1.At.Y, (-1024), 1024, ())).bind fun x2 => cond x2.1 ((f173 (a.1.Heading, ())).bind fun x3 => cond x3.1 ((f69 (a.1.Tilt, 0, 16, ())).bind fun x4 => cond x4.1 ((f69 (a.1.Lift, 1, 32, ())).bind fun x5 => some (x5.1, ())) (some (false, ()))) (some (false, ()))) (some (false, ()))) (some (false, ()))
def E129 (f69 : Int × Int × Int × Unit → Option (Bool × Unit)) (f173 : Int × Unit → Option (Bool × Unit)) : Env := envL [(69, mkE p69 r69 false f69), (173, mkE p173 r173 false f173)]
noncomputable def L129 (f69 : Int × Int × Int × Unit → Option (Bool × Unit)) (f173 : Int × Unit → Option (Bool × Unit)) : LEnv (densS (muts p129 ++ r129)) := lenv []
theorem e129 (f69 : Int × Int × Int × Unit → Option (Bool × Unit)) (f173 : Int × Unit → Option (Bool × Unit)) (a : densS p129) : runF (E129 f69 f173) tab (fun _ => false) p129 r129 Proofs.Try.f129 (L129 f69 f173) a = F129 f69 f173 a := by kernel_rfl
theorem ok129 {f69 : Int × Int × Int × Unit → Option (Bool × Unit)} {f173 : Int × Unit → Option (Bool × Unit)} (h69 : OK Proofs.Try.prog 69 (mkE p69 r69 false f69)) (h173 : OK Proofs.Try.prog 173 (mkE p173 r173 false f173)) : OK Proofs.Try.prog 129 (mkE p129 r129 false (F129 f69 f173)) :=
  fn_ok tab_ok (envL_ok (l := [(69, mkE p69 r69 false f69), (173, mkE p173 r173 false f173)]) (OKs.cons h69 (OKs.cons h173 OKs.nil))) mixed (ann := (fun _ => false)) (L := L129 f69 f173) (fn := Proofs.Try.f129) (c := bodyC Proofs.Try.f129) (ls := []) Proofs.Try.func129 (by kernel_rfl) (by kernel_rfl) (by kernel_rfl) (by kernel_rfl)
    LoopsP.nil (e129 f69 f173)
/-! spec.l6Jet -/
def p68 : List SP := [.t .device]
def r68 : List SP := [.one (.bool)]
noncomputable def F68 (f129 : Jet × Unit → Option (Bool × Unit)) (a : Device × Unit) : Option (Bool × Unit) :=
  (f129 ((⟨⟨a.1.At.X, a.1.At.Y⟩, a.1.Heading, a.1.Tilt, 1⟩ : Jet), ())).bind fun x1 => some (x1.1, ())
def E68 (f129 : Jet × Unit → Option (Bool × Unit)) : Env := envL [(129, mkE p129 r129 false f129)]
noncomputable def L68 (f129 : Jet × Unit → Option (Bool × Unit)) : LEnv (densS (muts p68 ++ r68)) := lenv []
theorem e68 (f129 : Jet × Unit → Option (Bool × Unit)) (a : densS p68) : runF (E68 f129) tab (fun _ => false) p68 r68 Proofs.Try.f68 (L68 f129) a = F68 f129 a := by kernel_rfl
theorem ok68 {f129 : Jet × Unit → Option (Bool × Unit)} (h129 : OK Proofs.Try.prog 129 (mkE p129 r129 false f129)) : OK Proofs.Try.prog 68 (mkE p68 r68 false (F68 f129)) :=
  fn_ok tab_ok (envL_ok (l := [(129, mkE p129 r129 false f129)]) (OKs.cons h129 OKs.nil)) mixed (ann := (fun _ => false)) (L := L68 f129) (fn := Proofs.Try.f68) (c := bodyC Proofs.Try.f68) (ls := []) Proofs.Try.func68 (by kernel_rfl) (by kernel_rfl) (by kernel_rfl) (by kernel_rfl)
    LoopsP.nil (e68 f129)
/-! spec.IsMeasure -/
def p130 : List SP := [.one (.int .i64)]
def r130 : List SP := [.one (.bool)]
noncomputable def F130 (a : Int × Unit) : Option (Bool × Unit) :=
  cond (decide (a.1 ≥ (-4096))) (some ((decide (a.1 ≤ 4096)), ())) (some (false, ()))
def E130 : Env := envL []
noncomputable def L130 : LEnv (densS (muts p130 ++ r130)) := lenv []
theorem e130 (a : densS p130) : runF (E130) tab (fun _ => false) p130 r130 Proofs.Try.f130 (L130) a = F130 a := by kernel_rfl
theorem ok130 : OK Proofs.Try.prog 130 (mkE p130 r130 false (F130)) :=
  fn_ok tab_ok (envL_ok (l := []) OKs.nil) mixed (ann := (fun _ => false)) (L := L130) (fn := Proofs.Try.f130) (c := bodyC Proofs.Try.f130) (ls := []) Proofs.Try.func130 (by kernel_rfl) (by kernel_rfl) (by kernel_rfl) (by kernel_rfl)
    LoopsP.nil (e130)
/-! spec.IsPlace -/
def p70 : List SP := [.t .place]
def r70 : List SP := [.one (.bool)]
noncomputable def F70 (f130 : Int × Unit → Option (Bool × Unit)) (a : Place × Unit) : Option (Bool × Unit) :=
  (f130 (a.1.X, ())).bind fun x1 => cond x1.1 ((f130 (a.1.Y, ())).bind fun x2 => some (x2.1, ())) (some (false, ()))
def E70 (f130 : Int × Unit → Option (Bool × Unit)) : Env := envL [(130, mkE p130 r130 false f130)]
noncomputable def L70 (f130 : Int × Unit → Option (Bool × Unit)) : LEnv (densS (muts p70 ++ r70)) := lenv []
theorem e70 (f130 : Int × Unit → Option (Bool × Unit)) (a : densS p70) : runF (E70 f130) tab (fun _ => false) p70 r70 Proofs.Try.f70 (L70 f130) a = F70 f130 a := by kernel_rfl
theorem ok70 {f130 : Int × Unit → Option (Bool × Unit)} (h130 : OK Proofs.Try.prog 130 (mkE p130 r130 false f130)) : OK Proofs.Try.prog 70 (mkE p70 r70 false (F70 f130)) :=
  fn_ok tab_ok (envL_ok (l := [(130, mkE p130 r130 false f130)]) (OKs.cons h130 OKs.nil)) mixed (ann := (fun _ => false)) (L := L70 f130) (fn := Proofs.Try.f70) (c := bodyC Proofs.Try.f70) (ls := []) Proofs.Try.func70 (by kernel_rfl) (by kernel_rfl) (by kernel_rfl) (by kernel_rfl)
    LoopsP.nil (e70 f130)
/-! spec.IsDevice -/
def p21 : List SP := [.t .device]
def r21 : List SP := [.one (.bool)]
noncomputable def F21 (f66 : Str × Unit → Option (Bool × Unit)) (f67 : Int × Unit → Option (Bool × Unit)) (f68 : Device × Unit → Option (Bool × Unit)) (f69 : Int × Int × Int × Unit → Option (Bool × Unit)) (f70 : Place × Unit → Option (Bool × Unit)) (a : Device × Unit) : Option (Bool × Unit) :=
  (f66 (a.1.Line, ())).bind fun x1 => cond x1.1 ((f66 (a.1.Name, ())).bind fun x2 => cond (!x2.1) (some (false, ())) (cond (decide (a.1.Kind = 1)) ((f67 (a.1.Most, ())).bind fun x3 => cond x3.1 (some ((decide (a.1.Name = a.1.Name) && (decide (a.1.Kind = a.1.Kind) && (decide (a.1.Line = []) && (decide (a.1.At.X = 0) && (decide (a.1.At.Y = 0) && (decide (a.1.Heading = 0) && (decide (a.1.Tilt = 0) && (decide (a.1.Most = a.1.Most) && true)))))))), ())) (some (false, ()))) (cond (decide (a.1.Kind = 2)) (cond (!decide (a.1.Line = a.1.Name)) ((f68 (a.1, ())).bind fun x4 => cond x4.1 ((f69 (a.1.Most, 0, 32, ())).bind fun x5 => some (x5.1, ())) (some (false, ()))) (some (false, ()))) (cond (decide (a.1.Kind = 3)) (cond (!decide (a.1.Line = a.1.Name)) ((f70 (a.1.At, ())).bind fun x6 => cond x6.1 (some ((decide (a.1.Name = a.1.Name) && (decide (a.1.Kind = a.1.Kind) && (decide (a.1.Line = a.1.Line) && (decide (a.1.At.X = a.1.At.X) && (decide (a.1.At.Y = a.1.At.Y) && (decide (a.1.Heading = 0) && (decide (a.1.Tilt = 0) && (decide (a.1.Most = 0) && true)))))))), ())) (some (false, ()))) (some (false, ()))) (some (false, ())))))) ((f66 (a.1.Name, ())).bind fun x7 => cond (!x7.1) (some (false, ())) (cond (decide (a.1.Kind = 1)) ((f67 (a.1.Most, ())).bind fun x8 => cond x8.1 (some ((decide (a.1.Name = a.1.Name) && (decide (a.1.Kind = a.1.Kind) && (decide (a.1.Line = []) && (decide (a.1.At.X = 0) && (decide (a.1.At.Y = 0) && (decide (a.1.Heading = 0) && (decide (a.1.Tilt = 0) && (decide (a.1.Most = a.1.Most) && true)))))))), ())) (some (false, ()))) (cond (decide (a.1.Kind = 2)) (some (false, ())) (cond (decide (a.1.Kind = 3)) (some (false, ())) (some (false, ()))))))
def E21 (f66 : Str × Unit → Option (Bool × Unit)) (f67 : Int × Unit → Option (Bool × Unit)) (f68 : Device × Unit → Option (Bool × Unit)) (f69 : Int × Int × Int × Unit → Option (Bool × Unit)) (f70 : Place × Unit → Option (Bool × Unit)) : Env := envL [(66, mkE p66 r66 false f66), (67, mkE p67 r67 false f67), (68, mkE p68 r68 false f68), (69, mkE p69 r69 false f69), (70, mkE p70 r70 false f70)]
noncomputable def L21 (f66 : Str × Unit → Option (Bool × Unit)) (f67 : Int × Unit → Option (Bool × Unit)) (f68 : Device × Unit → Option (Bool × Unit)) (f69 : Int × Int × Int × Unit → Option (Bool × Unit)) (f70 : Place × Unit → Option (Bool × Unit)) : LEnv (densS (muts p21 ++ r21)) := lenv []
theorem e21 (f66 : Str × Unit → Option (Bool × Unit)) (f67 : Int × Unit → Option (Bool × Unit)) (f68 : Device × Unit → Option (Bool × Unit)) (f69 : Int × Int × Int × Unit → Option (Bool × Unit)) (f70 : Place × Unit → Option (Bool × Unit)) (a : densS p21) : runF (E21 f66 f67 f68 f69 f70) tab (fun _ => false) p21 r21 Proofs.Try.f21 (L21 f66 f67 f68 f69 f70) a = F21 f66 f67 f68 f69 f70 a := by kernel_rfl
theorem ok21 {f66 : Str × Unit → Option (Bool × Unit)} {f67 : Int × Unit → Option (Bool × Unit)} {f68 : Device × Unit → Option (Bool × Unit)} {f69 : Int × Int × Int × Unit → Option (Bool × Unit)} {f70 : Place × Unit → Option (Bool × Unit)} (h66 : OK Proofs.Try.prog 66 (mkE p66 r66 false f66)) (h67 : OK Proofs.Try.prog 67 (mkE p67 r67 false f67)) (h68 : OK Proofs.Try.prog 68 (mkE p68 r68 false f68)) (h69 : OK Proofs.Try.prog 69 (mkE p69 r69 false f69)) (h70 : OK Proofs.Try.prog 70 (mkE p70 r70 false f70)) : OK Proofs.Try.prog 21 (mkE p21 r21 false (F21 f66 f67 f68 f69 f70)) :=
  fn_ok tab_ok (envL_ok (l := [(66, mkE p66 r66 false f66), (67, mkE p67 r67 false f67), (68, mkE p68 r68 false f68), (69, mkE p69 r69 false f69), (70, mkE p70 r70 false f70)]) (OKs.cons h66 (OKs.cons h67 (OKs.cons h68 (OKs.cons h69 (OKs.cons h70 OKs.nil)))))) mixed (ann := (fun _ => false)) (L := L21 f66 f67 f68 f69 f70) (fn := Proofs.Try.f21) (c := bodyC Proofs.Try.f21) (ls := []) Proofs.Try.func21 (by kernel_rfl) (by kernel_rfl) (by kernel_rfl) (by kernel_rfl)
    LoopsP.nil (e21 f66 f67 f68 f69 f70)
/-! spec.FindDevice -/
def p91 : List SP := [.one (.r .device), .one (.str)]
def r91 : List SP := [.one (.int .i64)]
def q91_0 : List SP := pat 20 0 [(1, .one (.str)), (7, .one (.r .device)), (8, .one (.int .i64)), (9, .one (.int .i64))]
noncomputable def s91_0 (t1 : Str × List Device × Int × Int × Unit) (rec K : Str × List Device × Int × Int × Unit → Option (Int × Unit)) : Option (Int × Unit) :=
  cond (decide (t1.2.2.2.1 < t1.2.2.1)) (rdL t1.2.1 t1.2.2.2.1 fun d2 => cond (decide (d2.Name = t1.1)) (some (t1.2.2.2.1, ())) (rec (t1.1, t1.2.1, t1.2.2.1, (w64 (t1.2.2.2.1 + 1)), ()))) (K (t1.1, t1.2.1, t1.2.2.1, t1.2.2.2.1, ()))
noncomputable def F91 (a : List Device × Str × Unit) : Option (Int × Unit) :=
  iterF (s91_0) fuel (a.2.1, a.1, (Int.ofNat (List.length a.1)), 0, ()) fun t3 => some ((-1), ())
def E91 : Env := envL []
noncomputable def L91 : LEnv (densS (muts p91 ++ r91)) := lenv [(0, loopL (R := densS (muts p91 ++ r91)) q91_0 (s91_0))]
theorem e91_0 (X : Nat → St → Option (densS (muts p91 ++ r91))) (rec K : densS q91_0 → Option (densS (muts p91 ++ r91))) (t : densS q91_0) :
    ev (E91) tab (fun _ => false) (L91) (retK tab p91 r91 Proofs.Try.f91.results.toList) (loopC Proofs.Try.f91 0) (fun i s => cond (Nat.beq i 0) (decK 100 q91_0 s K) (X i s)) (fun s => decK 100 q91_0 s rec) (enc q91_0 t) = s91_0 t rec K := by kernel_rfl
theorem e91 (a : densS p91) : runF (E91) tab (fun _ => false) p91 r91 Proofs.Try.f91 (L91) a = F91 a := by kernel_rfl
theorem ok91 : OK Proofs.Try.prog 91 (mkE p91 r91 false (F91)) :=
  fn_ok tab_ok (envL_ok (l := []) OKs.nil) mixed (ann := (fun _ => false)) (L := L91) (fn := Proofs.Try.f91) (c := bodyC Proofs.Try.f91) (ls := [(0, loopC Proofs.Try.f91 0)]) Proofs.Try.func91 (by kernel_rfl) (by kernel_rfl) (by kernel_rfl) (by kernel_rfl)
    (LoopsP.cons q91_0 (s91_0) rfl (e91_0) LoopsP.nil) (e91)
/-! spec.l6Hangs -/
def p180 : List SP := [.one (.r .device), .t .device]
def r180 : List SP := [.one (.bool)]
noncomputable def F180 (f91 : List Device × Str × Unit → Option (Int × Unit)) (a : List Device × Device × Unit) : Option (Bool × Unit) :=
  (f91 (a.1, a.2.1.Line, ())).bind fun x1 => cond (decide (a.2.1.Kind = 2)) (cond (decide (x1.1 ≥ 0)) (rdL a.1 x1.1 fun d2 => some ((decide (d2.Kind = 1)), ())) (some (false, ()))) (cond (decide (a.2.1.Kind = 3)) (cond (decide (x1.1 ≥ 0)) (rdL a.1 x1.1 fun d3 => some ((decide (d3.Kind = 2)), ())) (some (false, ()))) (some (true, ())))
def E180 (f91 : List Device × Str × Unit → Option (Int × Unit)) : Env := envL [(91, mkE p91 r91 false f91)]
noncomputable def L180 (f91 : List Device × Str × Unit → Option (Int × Unit)) : LEnv (densS (muts p180 ++ r180)) := lenv []
theorem e180 (f91 : List Device × Str × Unit → Option (Int × Unit)) (a : densS p180) : runF (E180 f91) tab (fun _ => false) p180 r180 Proofs.Try.f180 (L180 f91) a = F180 f91 a := by kernel_rfl
theorem ok180 {f91 : List Device × Str × Unit → Option (Int × Unit)} (h91 : OK Proofs.Try.prog 91 (mkE p91 r91 false f91)) : OK Proofs.Try.prog 180 (mkE p180 r180 false (F180 f91)) :=
  fn_ok tab_ok (envL_ok (l := [(91, mkE p91 r91 false f91)]) (OKs.cons h91 OKs.nil)) mixed (ann := (fun _ => false)) (L := L180 f91) (fn := Proofs.Try.f180) (c := bodyC Proofs.Try.f180) (ls := []) Proofs.Try.func180 (by kernel_rfl) (by kernel_rfl) (by kernel_rfl) (by kernel_rfl)
    LoopsP.nil (e180 f91)
/-! spec.IsRig -/
def p149 : List SP := [.one (.r .device)]
def r149 : List SP := [.one (.bool)]
def q149_0 : List SP := pat 40 0 [(0, .one (.r .device)), (5, .one (.r .device)), (6, .one (.int .i64)), (7, .one (.int .i64))]
noncomputable def s149_0 (f21 : Device × Unit → Option (Bool × Unit)) (f180 : List Device × Device × Unit → Option (Bool × Unit)) (t1 : List Device × List Device × Int × Int × Unit) (rec K : List Device × List Device × Int × Int × Unit → Option (Bool × Unit)) : Option (Bool × Unit) :=
  cond (decide (t1.2.2.2.1 < t1.2.2.1)) (rdL t1.2.1 t1.2.2.2.1 fun d2 => (f21 (d2, ())).bind fun x3 => cond (!(!x3.1)) (cond (decide (t1.2.2.2.1 > 0)) (rdL t1.1 (w64 (t1.2.2.2.1 - 1)) fun d4 => cond (!(!Op.bytesLess d4.Name d2.Name)) ((f180 (t1.1, d2, ())).bind fun x5 => cond (!x5.1) (some (false, ())) (rec (t1.1, t1.2.1, t1.2.2.1, (w64 (t1.2.2.2.1 + 1)), ()))) (some (false, ()))) ((f180 (t1.1, d2, ())).bind fun x6 => cond (!x6.1) (some (false, ())) (rec (t1.1, t1.2.1, t1.2.2.1, (w64 (t1.2.2.2.1 + 1)), ())))) (some (false, ()))) (K (t1.1, t1.2.1, t1.2.2.1, t1.2.2.2.1, ()))
noncomputable def F149 (f21 : Device × Unit → Option (Bool × Unit)) (f180 : List Device × Device × Unit → Option (Bool × Unit)) (a : List Device × Unit) : Option (Bool × Unit) :=
  iterF (s149_0 f21 f180) fuel (a.1, a.1, (Int.ofNat (List.length a.1)), 0, ()) fun t7 => some ((decide ((Int.ofNat (List.length t7.1)) ≤ 8)), ())
def E149 (f21 : Device × Unit → Option (Bool × Unit)) (f180 : List Device × Device × Unit → Option (Bool × Unit)) : Env := envL [(21, mkE p21 r21 false f21), (180, mkE p180 r180 false f180)]
noncomputable def L149 (f21 : Device × Unit → Option (Bool × Unit)) (f180 : List Device × Device × Unit → Option (Bool × Unit)) : LEnv (densS (muts p149 ++ r149)) := lenv [(0, loopL (R := densS (muts p149 ++ r149)) q149_0 (s149_0 f21 f180))]
theorem e149_0 (f21 : Device × Unit → Option (Bool × Unit)) (f180 : List Device × Device × Unit → Option (Bool × Unit)) (X : Nat → St → Option (densS (muts p149 ++ r149))) (rec K : densS q149_0 → Option (densS (muts p149 ++ r149))) (t : densS q149_0) :
    ev (E149 f21 f180) tab (fun _ => false) (L149 f21 f180) (retK tab p149 r149 Proofs.Try.f149.results.toList) (loopC Proofs.Try.f149 0) (fun i s => cond (Nat.beq i 0) (decK 100 q149_0 s K) (X i s)) (fun s => decK 100 q149_0 s rec) (enc q149_0 t) = s149_0 f21 f180 t rec K := by kernel_rfl
theorem e149 (f21 : Device × Unit → Option (Bool × Unit)) (f180 : List Device × Device × Unit → Option (Bool × Unit)) (a : densS p149) : runF (E149 f21 f180) tab (fun _ => false) p149 r149 Proofs.Try.f149 (L149 f21 f180) a = F149 f21 f180 a := by kernel_rfl
theorem ok149 {f21 : Device × Unit → Option (Bool × Unit)} {f180 : List Device × Device × Unit → Option (Bool × Unit)} (h21 : OK Proofs.Try.prog 21 (mkE p21 r21 false f21)) (h180 : OK Proofs.Try.prog 180 (mkE p180 r180 false f180)) : OK Proofs.Try.prog 149 (mkE p149 r149 false (F149 f21 f180)) :=
  fn_ok tab_ok (envL_ok (l := [(21, mkE p21 r21 false f21), (180, mkE p180 r180 false f180)]) (OKs.cons h21 (OKs.cons h180 OKs.nil))) mixed (ann := (fun _ => false)) (L := L149 f21 f180) (fn := Proofs.Try.f149) (c := bodyC Proofs.Try.f149) (ls := [(0, loopC Proofs.Try.f149 0)]) Proofs.Try.func149 (by kernel_rfl) (by kernel_rfl) (by kernel_rfl) (by kernel_rfl)
    (LoopsP.cons q149_0 (s149_0 f21 f180) rfl (e149_0 f21 f180) LoopsP.nil) (e149 f21 f180)
/-! spec.l6Copies -/
def p159 : List SP := [.one (.r .device)]
def r159 : List SP := [.one (.o 0 .device)]
noncomputable def F159 (a : List Device × Unit) : Option (List Device × Unit) :=
  capK (List.length ([] : List Device) + List.length a.1) (some ((([] : List Device) ++ a.1), ()))
def E159 : Env := envL []
noncomputable def L159 : LEnv (densS (muts p159 ++ r159)) := lenv []
theorem e159 (a : densS p159) : runF (E159) tab (fun _ => false) p159 r159 Proofs.Try.f159 (L159) a = F159 a := by kernel_rfl
theorem ok159 : OK Proofs.Try.prog 159 (mkE p159 r159 false (F159)) :=
  fn_ok tab_ok (envL_ok (l := []) OKs.nil) mixed (ann := (fun _ => false)) (L := L159) (fn := Proofs.Try.f159) (c := bodyC Proofs.Try.f159) (ls := []) Proofs.Try.func159 (by kernel_rfl) (by kernel_rfl) (by kernel_rfl) (by kernel_rfl)
    LoopsP.nil (e159)
/-! spec.AddDevice -/
def p177 : List SP := [.one (.r .device), .t .device]
def r177 : List SP := [.one (.o 0 .device), .one (.bool)]
def q177_0 : List SP := pat 70 0 [(3, .boxt 5000001 .device), (6, .one (.o 5000002 .device)), (7, .one (.bool)), (39, .one (.r .device)), (40, .one (.int .i64)), (41, .one (.int .i64))]
noncomputable def s177_0 (f149 : List Device × Unit → Option (Bool × Unit)) (f21 : Device × Unit → Option (Bool × Unit)) (f91 : List Device × Str × Unit → Option (Int × Unit)) (f180 : List Device × Device × Unit → Option (Bool × Unit)) (f159 : List Device × Unit → Option (List Device × Unit)) (t6 : Device × List Device × Bool × List Device × Int × Int × Unit) (rec K : Device × List Device × Bool × List Device × Int × Int × Unit → Option (List Device × Bool × Unit)) : Option (List Device × Bool × Unit) :=
  cond (decide (t6.2.2.2.2.2.1 < t6.2.2.2.2.1)) (rdL t6.2.2.2.1 t6.2.2.2.2.2.1 fun d7 => cond (!t6.2.2.1) (cond (!(Op.bytesLess d7.Name t6.1.Name || decide (d7.Name = t6.1.Name))) (capK (List.length t6.2.1 + List.length ([t6.1] : List Device)) (capK (List.length (t6.2.1 ++ ([t6.1] : List Device)) + List.length ([d7] : List Device)) (rec (t6.1, ((t6.2.1 ++ ([t6.1] : List Device)) ++ ([d7] : List Device)), true, t6.2.2.2.1, t6.2.2.2.2.1, (w64 (t6.2.2.2.2.2.1 + 1)), ())))) (capK (List.length t6.2.1 + List.length ([d7] : List Device)) (rec (t6.1, (t6.2.1 ++ ([d7] : List Device)), t6.2.2.1, t6.2.2.2.1, t6.2.2.2.2.1, (w64 (t6.2.2.2.2.2.1 + 1)), ())))) (capK (List.length t6.2.1 + List.length ([d7] : List Device)) (rec (t6.1, (t6.2.1 ++ ([d7] : List Device)), t6.2.2.1, t6.2.2.2.1, t6.2.2.2.2.1, (w64 (t6.2.2.2.2.2.1 + 1)), ())))) (K (t6.1, t6.2.1, t6.2.2.1, t6.2.2.2.1, t6.2.2.2.2.1, t6.2.2.2.2.2.1, ()))
noncomputable def F177 (f149 : List Device × Unit → Option (Bool × Unit)) (f21 : Device × Unit → Option (Bool × Unit)) (f91 : List Device × Str × Unit → Option (Int × Unit)) (f180 : List Device × Device × Unit → Option (Bool × Unit)) (f159 : List Device × Unit → Option (List Device × Unit)) (a : List Device × Device × Unit) : Option (List Device × Bool × Unit) :=
  (f149 (a.1, ())).bind fun x1 => cond (!(!x1.1)) ((f21 (a.2.1, ())).bind fun x2 => cond (!(!x2.1)) ((f91 (a.1, a.2.1.Name, ())).bind fun x3 => cond (!(decide (x3.1 ≥ 0))) (cond (!(decide ((Int.ofNat (List.length a.1)) = 8))) ((f180 (a.1, a.2.1, ())).bind fun x4 => cond (!x4.1) ((f159 (a.1, ())).bind fun x5 => some (x5.1, false, ())) (iterF (s177_0 f149 f21 f91 f180 f159) fuel (a.2.1, ([] : List Device), false, a.1, (Int.ofNat (List.length a.1)), 0, ()) fun t8 => cond (!t8.2.2.1) (capK (List.length t8.2.1 + List.length ([t8.1] : List Device)) (some ((t8.2.1 ++ ([t8.1] : List Device)), true, ()))) (some (t8.2.1, true, ())))) ((f159 (a.1, ())).bind fun x9 => some (x9.1, false, ()))) ((f159 (a.1, ())).bind fun x10 => some (x10.1, false, ()))) ((f159 (a.1, ())).bind fun x11 => some (x11.1, false, ()))) ((f159 (a.1, ())).bind fun x12 => some (x12.1, false, ()))
def E177 (f149 : List Device × Unit → Option (Bool × Unit)) (f21 : Device × Unit → Option (Bool × Unit)) (f91 : List Device × Str × Unit → Option (Int × Unit)) (f180 : List Device × Device × Unit → Option (Bool × Unit)) (f159 : List Device × Unit → Option (List Device × Unit)) : Env := envL [(149, mkE p149 r149 false f149), (21, mkE p21 r21 false f21), (91, mkE p91 r91 false f91), (180, mkE p180 r180 false f180), (159, mkE p159 r159 false f159)]
noncomputable def L177 (f149 : List Device × Unit → Option (Bool × Unit)) (f21 : Device × Unit → Option (Bool × Unit)) (f91 : List Device × Str × Unit → Option (Int × Unit)) (f180 : List Device × Device × Unit → Option (Bool × Unit)) (f159 : List Device × Unit → Option (List Device × Unit)) : LEnv (densS (muts p177 ++ r177)) := lenv [(0, loopL (R := densS (muts p177 ++ r177)) q177_0 (s177_0 f149 f21 f91 f180 f159))]
theorem e177_0 (f149 : List Device × Unit → Option (Bool × Unit)) (f21 : Device × Unit → Option (Bool × Unit)) (f91 : List Device × Str × Unit → Option (Int × Unit)) (f180 : List Device × Device × Unit → Option (Bool × Unit)) (f159 : List Device × Unit → Option (List Device × Unit)) (X : Nat → St → Option (densS (muts p177 ++ r177))) (rec K : densS q177_0 → Option (densS (muts p177 ++ r177))) (t : densS q177_0) :
    ev (E177 f149 f21 f91 f180 f159) tab (fun _ => false) (L177 f149 f21 f91 f180 f159) (retK tab p177 r177 Proofs.Try.f177.results.toList) (loopC Proofs.Try.f177 0) (fun i s => cond (Nat.beq i 0) (decK 100 q177_0 s K) (X i s)) (fun s => decK 100 q177_0 s rec) (enc q177_0 t) = s177_0 f149 f21 f91 f180 f159 t rec K := by kernel_rfl
theorem e177 (f149 : List Device × Unit → Option (Bool × Unit)) (f21 : Device × Unit → Option (Bool × Unit)) (f91 : List Device × Str × Unit → Option (Int × Unit)) (f180 : List Device × Device × Unit → Option (Bool × Unit)) (f159 : List Device × Unit → Option (List Device × Unit)) (a : densS p177) : runF (E177 f149 f21 f91 f180 f159) tab (fun _ => false) p177 r177 Proofs.Try.f177 (L177 f149 f21 f91 f180 f159) a = F177 f149 f21 f91 f180 f159 a := by kernel_rfl
theorem ok177 {f149 : List Device × Unit → Option (Bool × Unit)} {f21 : Device × Unit → Option (Bool × Unit)} {f91 : List Device × Str × Unit → Option (Int × Unit)} {f180 : List Device × Device × Unit → Option (Bool × Unit)} {f159 : List Device × Unit → Option (List Device × Unit)} (h149 : OK Proofs.Try.prog 149 (mkE p149 r149 false f149)) (h21 : OK Proofs.Try.prog 21 (mkE p21 r21 false f21)) (h91 : OK Proofs.Try.prog 91 (mkE p91 r91 false f91)) (h180 : OK Proofs.Try.prog 180 (mkE p180 r180 false f180)) (h159 : OK Proofs.Try.prog 159 (mkE p159 r159 false f159)) : OK Proofs.Try.prog 177 (mkE p177 r177 false (F177 f149 f21 f91 f180 f159)) :=
  fn_ok tab_ok (envL_ok (l := [(149, mkE p149 r149 false f149), (21, mkE p21 r21 false f21), (91, mkE p91 r91 false f91), (180, mkE p180 r180 false f180), (159, mkE p159 r159 false f159)]) (OKs.cons h149 (OKs.cons h21 (OKs.cons h91 (OKs.cons h180 (OKs.cons h159 OKs.nil)))))) mixed (ann := (fun _ => false)) (L := L177 f149 f21 f91 f180 f159) (fn := Proofs.Try.f177) (c := bodyC Proofs.Try.f177) (ls := [(0, loopC Proofs.Try.f177 0)]) Proofs.Try.func177 (by kernel_rfl) (by kernel_rfl) (by kernel_rfl) (by kernel_rfl)
    (LoopsP.cons q177_0 (s177_0 f149 f21 f91 f180 f159) rfl (e177_0 f149 f21 f91 f180 f159) LoopsP.nil) (e177 f149 f21 f91 f180 f159)
/-! spec.l1Some -/
def p127 : List SP := [.box 0 [.r .u8, .int .i64, .int .i64], .one (.int .i64), .one (.int .i64)]
def r127 : List SP := [.one (.int .i64)]
noncomputable def F127 (f77 : (List Int × Int × Int × Unit) × Int × Unit → Option ((List Int × Int × Int × Unit) × Int × Unit)) (a : (List Int × Int × Int × Unit) × Int × Int × Unit) : Option ((List Int × Int × Int × Unit) × Int × Unit) :=
  (f77 ((a.1.1, a.1.2.1, a.1.2.2.1, ()), (w64 ((w64 (a.2.2.1 - a.2.1)) + 1)), ())).bind fun x1 => some ((x1.1.1, x1.1.2.1, x1.1.2.2.1, ()), (w64 (a.2.1 + x1.2.1)), ())
def E127 (f77 : (List Int × Int × Int × Unit) × Int × Unit → Option ((List Int × Int × Int × Unit) × Int × Unit)) : Env := envL [(77, mkE p77 r77 true f77)]
noncomputable def L127 (f77 : (List Int × Int × Int × Unit) × Int × Unit → Option ((List Int × Int × Int × Unit) × Int × Unit)) : LEnv (densS (muts p127 ++ r127)) := lenv []
theorem e127 (f77 : (List Int × Int × Int × Unit) × Int × Unit → Option ((List Int × Int × Int × Unit) × Int × Unit)) (a : densS p127) : runF (E127 f77) tab (fun _ => false) p127 r127 Proofs.Try.f127 (L127 f77) a = F127 f77 a := by kernel_rfl
theorem ok127 {f77 : (List Int × Int × Int × Unit) × Int × Unit → Option ((List Int × Int × Int × Unit) × Int × Unit)} (h77 : OK Proofs.Try.prog 77 (mkE p77 r77 true f77)) : OK Proofs.Try.prog 127 (mkE p127 r127 true (F127 f77)) :=
  fn_ok tab_ok (envL_ok (l := [(77, mkE p77 r77 true f77)]) (OKs.cons h77 OKs.nil)) mixed (ann := (fun _ => false)) (L := L127 f77) (fn := Proofs.Try.f127) (c := bodyC Proofs.Try.f127) (ls := []) Proofs.Try.func127 (by kernel_rfl) (by kernel_rfl) (by kernel_rfl) (by kernel_rfl)
    LoopsP.nil (e127 f77)
/-! spec.l2Draw -/
def p171 : List SP := [.box 0 [.r .u8, .int .i64, .int .i64]]
def r171 : List SP := [.t .place]
noncomputable def F171 (f127 : (List Int × Int × Int × Unit) × Int × Int × Unit → Option ((List Int × Int × Int × Unit) × Int × Unit)) (a : (List Int × Int × Int × Unit) × Unit) : Option ((List Int × Int × Int × Unit) × Place × Unit) :=
  (f127 ((a.1.1, a.1.2.1, a.1.2.2.1, ()), (-64), 64, ())).bind fun x1 => (f127 ((x1.1.1, x1.1.2.1, x1.1.2.2.1, ()), (-64), 64, ())).bind fun x2 => some ((x2.1.1, x2.1.2.1, x2.1.2.2.1, ()), (⟨x1.2.1, x2.2.1⟩ : Place), ())
def E171 (f127 : (List Int × Int × Int × Unit) × Int × Int × Unit → Option ((List Int × Int × Int × Unit) × Int × Unit)) : Env := envL [(127, mkE p127 r127 true f127)]
noncomputable def L171 (f127 : (List Int × Int × Int × Unit) × Int × Int × Unit → Option ((List Int × Int × Int × Unit) × Int × Unit)) : LEnv (densS (muts p171 ++ r171)) := lenv []
theorem e171 (f127 : (List Int × Int × Int × Unit) × Int × Int × Unit → Option ((List Int × Int × Int × Unit) × Int × Unit)) (a : densS p171) : runF (E171 f127) tab (fun _ => false) p171 r171 Proofs.Try.f171 (L171 f127) a = F171 f127 a := by kernel_rfl
theorem ok171 {f127 : (List Int × Int × Int × Unit) × Int × Int × Unit → Option ((List Int × Int × Int × Unit) × Int × Unit)} (h127 : OK Proofs.Try.prog 127 (mkE p127 r127 true f127)) : OK Proofs.Try.prog 171 (mkE p171 r171 true (F171 f127)) :=
  fn_ok tab_ok (envL_ok (l := [(127, mkE p127 r127 true f127)]) (OKs.cons h127 OKs.nil)) mixed (ann := (fun _ => false)) (L := L171 f127) (fn := Proofs.Try.f171) (c := bodyC Proofs.Try.f171) (ls := []) Proofs.Try.func171 (by kernel_rfl) (by kernel_rfl) (by kernel_rfl) (by kernel_rfl)
    LoopsP.nil (e171 f127)
/-! spec.l3Draw -/
def p126 : List SP := [.box 0 [.r .u8, .int .i64, .int .i64]]
def r126 : List SP := [.t .jet]
noncomputable def F126 (f171 : (List Int × Int × Int × Unit) × Unit → Option ((List Int × Int × Int × Unit) × Place × Unit)) (f77 : (List Int × Int × Int × Unit) × Int × Unit → Option ((List Int × Int × Int × Unit) × Int × Unit)) (f127 : (List Int × Int × Int × Unit) × Int × Int × Unit → Option ((List Int × Int × Int × Unit) × Int × Unit)) (a : (List Int × Int × Int × Unit) × Unit) : Option ((List Int × Int × Int × Unit) × Jet × Unit) :=
  (f171 ((a.1.1, a.1.2.1, a.1.2.2.1, ()), ())).bind fun x1 => (f77 ((x1.1.1, x1.1.2.1, x1.1.2.2.1, ()), 4, ())).bind fun x2 => (f77 ((x2.1.1, x2.1.2.1, x2.1.2.2.1, ()), 17, ())).bind fun x3 => (f127 ((x3.1.1, x3.1.2.1, x3.1.2.2.1, ()), 1, 32, ())).bind fun x4 => some ((x4.1.1, x4.1.2.1, x4.1.2.2.1, ()), (⟨⟨x1.2.1.X, x1.2.1.Y⟩, x2.2.1, x3.2.1, x4.2.1⟩ : Jet), ())
def E126 (f171 : (List Int × Int × Int × Unit) × Unit → Option ((List Int × Int × Int × Unit) × Place × Unit)) (f77 : (List Int × Int × Int × Unit) × Int × Unit → Option ((List Int × Int × Int × Unit) × Int × Unit)) (f127 : (List Int × Int × Int × Unit) × Int × Int × Unit → Option ((List Int × Int × Int × Unit) × Int × Unit)) : Env := envL [(171, mkE p171 r171 true f171), (77, mkE p77 r77 true f77), (127, mkE p127 r127 true f127)]
noncomputable def L126 (f171 : (List Int × Int × Int × Unit) × Unit → Option ((List Int × Int × Int × Unit) × Place × Unit)) (f77 : (List Int × Int × Int × Unit) × Int × Unit → Option ((List Int × Int × Int × Unit) × Int × Unit)) (f127 : (List Int × Int × Int × Unit) × Int × Int × Unit → Option ((List Int × Int × Int × Unit) × Int × Unit)) : LEnv (densS (muts p126 ++ r126)) := lenv []
theorem e126 (f171 : (List Int × Int × Int × Unit) × Unit → Option ((List Int × Int × Int × Unit) × Place × Unit)) (f77 : (List Int × Int × Int × Unit) × Int × Unit → Option ((List Int × Int × Int × Unit) × Int × Unit)) (f127 : (List Int × Int × Int × Unit) × Int × Int × Unit → Option ((List Int × Int × Int × Unit) × Int × Unit)) (a : densS p126) : runF (E126 f171 f77 f127) tab (fun _ => false) p126 r126 Proofs.Try.f126 (L126 f171 f77 f127) a = F126 f171 f77 f127 a := by kernel_rfl
theorem ok126 {f171 : (List Int × Int × Int × Unit) × Unit → Option ((List Int × Int × Int × Unit) × Place × Unit)} {f77 : (List Int × Int × Int × Unit) × Int × Unit → Option ((List Int × Int × Int × Unit) × Int × Unit)} {f127 : (List Int × Int × Int × Unit) × Int × Int × Unit → Option ((List Int × Int × Int × Unit) × Int × Unit)} (h171 : OK Proofs.Try.prog 171 (mkE p171 r171 true f171)) (h77 : OK Proofs.Try.prog 77 (mkE p77 r77 true f77)) (h127 : OK Proofs.Try.prog 127 (mkE p127 r127 true f127)) : OK Proofs.Try.prog 126 (mkE p126 r126 true (F126 f171 f77 f127)) :=
  fn_ok tab_ok (envL_ok (l := [(171, mkE p171 r171 true f171), (77, mkE p77 r77 true f77), (127, mkE p127 r127 true f127)]) (OKs.cons h171 (OKs.cons h77 (OKs.cons h127 OKs.nil)))) mixed (ann := (fun _ => false)) (L := L126 f171 f77 f127) (fn := Proofs.Try.f126) (c := bodyC Proofs.Try.f126) (ls := []) Proofs.Try.func126 (by kernel_rfl) (by kernel_rfl) (by kernel_rfl) (by kernel_rfl)
    LoopsP.nil (e126 f171 f77 f127)
/-! spec.l6Nozzle -/
def p60 : List SP := [.box 0 [.r .u8, .int .i64, .int .i64], .one (.str), .one (.str)]
def r60 : List SP := [.t .device]
noncomputable def F60 (f126 : (List Int × Int × Int × Unit) × Unit → Option ((List Int × Int × Int × Unit) × Jet × Unit)) (f127 : (List Int × Int × Int × Unit) × Int × Int × Unit → Option ((List Int × Int × Int × Unit) × Int × Unit)) (a : (List Int × Int × Int × Unit) × Str × Str × Unit) : Option ((List Int × Int × Int × Unit) × Device × Unit) :=
  (f126 ((a.1.1, a.1.2.1, a.1.2.2.1, ()), ())).bind fun x1 => (f127 ((x1.1.1, x1.1.2.1, x1.1.2.2.1, ()), 0, 32, ())).bind fun x2 => some ((x2.1.1, x2.1.2.1, x2.1.2.2.1, ()), (⟨a.2.1, 2, a.2.2.1, ⟨x1.2.1.At.X, x1.2.1.At.Y⟩, x1.2.1.Heading, x1.2.1.Tilt, x2.2.1⟩ : Device), ())
def E60 (f126 : (List Int × Int × Int × Unit) × Unit → Option ((List Int × Int × Int × Unit) × Jet × Unit)) (f127 : (List Int × Int × Int × Unit) × Int × Int × Unit → Option ((List Int × Int × Int × Unit) × Int × Unit)) : Env := envL [(126, mkE p126 r126 true f126), (127, mkE p127 r127 true f127)]
noncomputable def L60 (f126 : (List Int × Int × Int × Unit) × Unit → Option ((List Int × Int × Int × Unit) × Jet × Unit)) (f127 : (List Int × Int × Int × Unit) × Int × Int × Unit → Option ((List Int × Int × Int × Unit) × Int × Unit)) : LEnv (densS (muts p60 ++ r60)) := lenv []
theorem e60 (f126 : (List Int × Int × Int × Unit) × Unit → Option ((List Int × Int × Int × Unit) × Jet × Unit)) (f127 : (List Int × Int × Int × Unit) × Int × Int × Unit → Option ((List Int × Int × Int × Unit) × Int × Unit)) (a : densS p60) : runF (E60 f126 f127) tab (fun n => Nat.beq n 1200000 || Nat.beq n 1299999) p60 r60 Proofs.Try.f60 (L60 f126 f127) a = F60 f126 f127 a := by kernel_rfl
theorem ok60 {f126 : (List Int × Int × Int × Unit) × Unit → Option ((List Int × Int × Int × Unit) × Jet × Unit)} {f127 : (List Int × Int × Int × Unit) × Int × Int × Unit → Option ((List Int × Int × Int × Unit) × Int × Unit)} (h126 : OK Proofs.Try.prog 126 (mkE p126 r126 true f126)) (h127 : OK Proofs.Try.prog 127 (mkE p127 r127 true f127)) : OK Proofs.Try.prog 60 (mkE p60 r60 true (F60 f126 f127)) :=
  fn_ok tab_ok (envL_ok (l := [(126, mkE p126 r126 true f126), (127, mkE p127 r127 true f127)]) (OKs.cons h126 (OKs.cons h127 OKs.nil))) mixed (ann := (fun n => Nat.beq n 1200000 || Nat.beq n 1299999)) (L := L60 f126 f127) (fn := Proofs.Try.f60) (c := bodyC Proofs.Try.f60) (ls := []) Proofs.Try.func60 (by kernel_rfl) (by kernel_rfl) (by kernel_rfl) (by kernel_rfl)
    LoopsP.nil (e60 f126 f127)
/-! spec.l1Once -/
def p56 : List SP := [.box 0 [.r .u8, .int .i64, .int .i64], .one (.int .i64)]
def r56 : List SP := [.one (.bool)]
noncomputable def F56 (f77 : (List Int × Int × Int × Unit) × Int × Unit → Option ((List Int × Int × Int × Unit) × Int × Unit)) (a : (List Int × Int × Int × Unit) × Int × Unit) : Option ((List Int × Int × Int × Unit) × Bool × Unit) :=
  (f77 ((a.1.1, a.1.2.1, a.1.2.2.1, ()), a.2.1, ())).bind fun x1 => some ((x1.1.1, x1.1.2.1, x1.1.2.2.1, ()), (decide (x1.2.1 = 0)), ())
def E56 (f77 : (List Int × Int × Int × Unit) × Int × Unit → Option ((List Int × Int × Int × Unit) × Int × Unit)) : Env := envL [(77, mkE p77 r77 true f77)]
noncomputable def L56 (f77 : (List Int × Int × Int × Unit) × Int × Unit → Option ((List Int × Int × Int × Unit) × Int × Unit)) : LEnv (densS (muts p56 ++ r56)) := lenv []
theorem e56 (f77 : (List Int × Int × Int × Unit) × Int × Unit → Option ((List Int × Int × Int × Unit) × Int × Unit)) (a : densS p56) : runF (E56 f77) tab (fun _ => false) p56 r56 Proofs.Try.f56 (L56 f77) a = F56 f77 a := by kernel_rfl
theorem ok56 {f77 : (List Int × Int × Int × Unit) × Int × Unit → Option ((List Int × Int × Int × Unit) × Int × Unit)} (h77 : OK Proofs.Try.prog 77 (mkE p77 r77 true f77)) : OK Proofs.Try.prog 56 (mkE p56 r56 true (F56 f77)) :=
  fn_ok tab_ok (envL_ok (l := [(77, mkE p77 r77 true f77)]) (OKs.cons h77 OKs.nil)) mixed (ann := (fun _ => false)) (L := L56 f77) (fn := Proofs.Try.f56) (c := bodyC Proofs.Try.f56) (ls := []) Proofs.Try.func56 (by kernel_rfl) (by kernel_rfl) (by kernel_rfl) (by kernel_rfl)
    LoopsP.nil (e56 f77)
/-! spec.l6Draw -/
def p135 : List SP := [.box 0 [.r .u8, .int .i64, .int .i64]]
def r135 : List SP := [.one (.o 1 .device)]
def q135_0 : List SP := pat 76 0 [(0, .box 0 [.r .u8, .int .i64, .int .i64]), (3, .one (.o 5000001 .device)), (4, .one (.r .str)), (16, .one (.r .str)), (17, .one (.int .i64)), (18, .one (.int .i64))]
noncomputable def s135_0 (f77 : (List Int × Int × Int × Unit) × Int × Unit → Option ((List Int × Int × Int × Unit) × Int × Unit)) (f177 : List Device × Device × Unit → Option (List Device × Bool × Unit)) (f112 : (List Int × Int × Int × Unit) × List Str × Unit → Option ((List Int × Int × Int × Unit) × Str × Unit)) (f60 : (List Int × Int × Int × Unit) × Str × Str × Unit → Option ((List Int × Int × Int × Unit) × Device × Unit)) (f56 : (List Int × Int × Int × Unit) × Int × Unit → Option ((List Int × Int × Int × Unit) × Bool × Unit)) (f171 : (List Int × Int × Int × Unit) × Unit → Option ((List Int × Int × Int × Unit) × Place × Unit)) (t2 : (List Int × Int × Int × Unit) × List Device × List Str × List Str × Int × Int × Unit) (rec K : (List Int × Int × Int × Unit) × List Device × List Str × List Str × Int × Int × Unit → Option ((List Int × Int × Int × Unit) × List Device × Unit)) : Option ((List Int × Int × Int × Unit) × List Device × Unit) :=
  cond (decide (t2.2.2.2.2.2.1 < t2.2.2.2.2.1)) (rdL t2.2.2.2.1 t2.2.2.2.2.2.1 fun d3 => (f77 ((t2.1.1, t2.1.2.1, t2.1.2.2.1, ()), 80, ())).bind fun x4 => (f177 (t2.2.1, (⟨d3, 1, [], ⟨0, 0⟩, 0, 0, x4.2.1⟩ : Device), ())).bind fun x5 => rec ((x4.1.1, x4.1.2.1, x4.1.2.2.1, ()), x5.1, t2.2.2.1, t2.2.2.2.1, t2.2.2.2.2.1, (w64 (t2.2.2.2.2.2.1 + 1)), ())) (K ((t2.1.1, t2.1.2.1, t2.1.2.2.1, ()), t2.2.1, t2.2.2.1, t2.2.2.2.1, t2.2.2.2.2.1, t2.2.2.2.2.2.1, ()))
def q135_2 : List SP := pat 76 0 [(0, .box 0 [.r .u8, .int .i64, .int .i64]), (3, .one (.o 5002001 .device)), (4, .one (.r .str)), (7, .one (.r .str)), (36, .one (.r .str)), (37, .one (.int .i64)), (38, .one (.int .i64))]
noncomputable def s135_2 (f77 : (List Int × Int × Int × Unit) × Int × Unit → Option ((List Int × Int × Int × Unit) × Int × Unit)) (f177 : List Device × Device × Unit → Option (List Device × Bool × Unit)) (f112 : (List Int × Int × Int × Unit) × List Str × Unit → Option ((List Int × Int × Int × Unit) × Str × Unit)) (f60 : (List Int × Int × Int × Unit) × Str × Str × Unit → Option ((List Int × Int × Int × Unit) × Device × Unit)) (f56 : (List Int × Int × Int × Unit) × Int × Unit → Option ((List Int × Int × Int × Unit) × Bool × Unit)) (f171 : (List Int × Int × Int × Unit) × Unit → Option ((List Int × Int × Int × Unit) × Place × Unit)) (t8 : (List Int × Int × Int × Unit) × List Device × List Str × List Str × List Str × Int × Int × Unit) (rec K : (List Int × Int × Int × Unit) × List Device × List Str × List Str × List Str × Int × Int × Unit → Option ((List Int × Int × Int × Unit) × List Device × Unit)) : Option ((List Int × Int × Int × Unit) × List Device × Unit) :=
  cond (decide (t8.2.2.2.2.2.2.1 < t8.2.2.2.2.2.1)) (rdL t8.2.2.2.2.1 t8.2.2.2.2.2.2.1 fun d9 => (f112 ((t8.1.1, t8.1.2.1, t8.1.2.2.1, ()), t8.2.2.1, ())).bind fun x10 => (f60 ((x10.1.1, x10.1.2.1, x10.1.2.2.1, ()), d9, x10.2.1, ())).bind fun x11 => (f177 (t8.2.1, x11.2.1, ())).bind fun x12 => rec ((x11.1.1, x11.1.2.1, x11.1.2.2.1, ()), x12.1, t8.2.2.1, t8.2.2.2.1, t8.2.2.2.2.1, t8.2.2.2.2.2.1, (w64 (t8.2.2.2.2.2.2.1 + 1)), ())) (K ((t8.1.1, t8.1.2.1, t8.1.2.2.1, ()), t8.2.1, t8.2.2.1, t8.2.2.2.1, t8.2.2.2.2.1, t8.2.2.2.2.2.1, t8.2.2.2.2.2.2.1, ()))
noncomputable def F135 (f77 : (List Int × Int × Int × Unit) × Int × Unit → Option ((List Int × Int × Int × Unit) × Int × Unit)) (f177 : List Device × Device × Unit → Option (List Device × Bool × Unit)) (f112 : (List Int × Int × Int × Unit) × List Str × Unit → Option ((List Int × Int × Int × Unit) × Str × Unit)) (f60 : (List Int × Int × Int × Unit) × Str × Str × Unit → Option ((List Int × Int × Int × Unit) × Device × Unit)) (f56 : (List Int × Int × Int × Unit) × Int × Unit → Option ((List Int × Int × Int × Unit) × Bool × Unit)) (f171 : (List Int × Int × Int × Unit) × Unit → Option ((List Int × Int × Int × Unit) × Place × Unit)) (a : (List Int × Int × Int × Unit) × Unit) : Option ((List Int × Int × Int × Unit) × List Device × Unit) :=
  (f77 ((a.1.1, a.1.2.1, a.1.2.2.1, ()), 2, ())).bind fun x1 => okIf (0 ≤ (w64 (1 + x1.2.1)) ∧ (w64 (1 + x1.2.1)) ≤ List.length ([[112], [113]] : List Str)) (iterF (s135_0 f77 f177 f112 f60 f56 f171) fuel ((x1.1.1, x1.1.2.1, x1.1.2.2.1, ()), ([] : List Device), (List.drop 0 (List.take (Int.toNat (w64 (1 + x1.2.1))) ([[112], [113]] : List Str))), (List.drop 0 (List.take (Int.toNat (w64 (1 + x1.2.1))) ([[112], [113]] : List Str))), (Int.ofNat ((Int.toNat (w64 (1 + x1.2.1))) - 0)), 0, ()) fun t6 => (f77 ((t6.1.1, t6.1.2.1, t6.1.2.2.1, ()), 5, ())).bind fun x7 => okIf (0 ≤ x7.2.1 ∧ x7.2.1 ≤ List.length ([[97], [98], [99], [114]] : List Str)) (iterF (s135_2 f77 f177 f112 f60 f56 f171) fuel ((x7.1.1, x7.1.2.1, x7.1.2.2.1, ()), t6.2.1, t6.2.2.1, (List.drop 0 (List.take (Int.toNat x7.2.1) ([[97], [98], [99], [114]] : List Str))), (List.drop 0 (List.take (Int.toNat x7.2.1) ([[97], [98], [99], [114]] : List Str))), (Int.ofNat ((Int.toNat x7.2.1) - 0)), 0, ()) fun t13 => cond (decide ((Int.ofNat (List.length t13.2.2.2.1)) > 0)) ((f56 ((t13.1.1, t13.1.2.1, t13.1.2.2.1, ()), 2, ())).bind fun x14 => cond x14.2.1 ((f112 ((x14.1.1, x14.1.2.1, x14.1.2.2.1, ()), ([[108, 97, 109, 112], [122]] : List Str), ())).bind fun x15 => (f112 ((x15.1.1, x15.1.2.1, x15.1.2.2.1, ()), t13.2.2.2.1, ())).bind fun x16 => (f171 ((x16.1.1, x16.1.2.1, x16.1.2.2.1, ()), ())).bind fun x17 => (f177 (t13.2.1, (⟨x15.2.1, 3, x16.2.1, ⟨x17.2.1.X, x17.2.1.Y⟩, 0, 0, 0⟩ : Device), ())).bind fun x18 => some ((x17.1.1, x17.1.2.1, x17.1.2.2.1, ()), x18.1, ())) (some ((x14.1.1, x14.1.2.1, x14.1.2.2.1, ()), t13.2.1, ()))) (some ((t13.1.1, t13.1.2.1, t13.1.2.2.1, ()), t13.2.1, ()))))
def E135 (f77 : (List Int × Int × Int × Unit) × Int × Unit → Option ((List Int × Int × Int × Unit) × Int × Unit)) (f177 : List Device × Device × Unit → Option (List Device × Bool × Unit)) (f112 : (List Int × Int × Int × Unit) × List Str × Unit → Option ((List Int × Int × Int × Unit) × Str × Unit)) (f60 : (List Int × Int × Int × Unit) × Str × Str × Unit → Option ((List Int × Int × Int × Unit) × Device × Unit)) (f56 : (List Int × Int × Int × Unit) × Int × Unit → Option ((List Int × Int × Int × Unit) × Bool × Unit)) (f171 : (List Int × Int × Int × Unit) × Unit → Option ((List Int × Int × Int × Unit) × Place × Unit)) : Env := envL [(77, mkE p77 r77 true f77), (177, mkE p177 r177 false f177), (112, mkE p112 r112 true f112), (60, mkE p60 r60 true f60), (56, mkE p56 r56 true f56), (171, mkE p171 r171 true f171)]
noncomputable def L135 (f77 : (List Int × Int × Int × Unit) × Int × Unit → Option ((List Int × Int × Int × Unit) × Int × Unit)) (f177 : List Device × Device × Unit → Option (List Device × Bool × Unit)) (f112 : (List Int × Int × Int × Unit) × List Str × Unit → Option ((List Int × Int × Int × Unit) × Str × Unit)) (f60 : (List Int × Int × Int × Unit) × Str × Str × Unit → Option ((List Int × Int × Int × Unit) × Device × Unit)) (f56 : (List Int × Int × Int × Unit) × Int × Unit → Option ((List Int × Int × Int × Unit) × Bool × Unit)) (f171 : (List Int × Int × Int × Unit) × Unit → Option ((List Int × Int × Int × Unit) × Place × Unit)) : LEnv (densS (muts p135 ++ r135)) := lenv [(0, loopL (R := densS (muts p135 ++ r135)) q135_0 (s135_0 f77 f177 f112 f60 f56 f171)), (2, loopL (R := densS (muts p135 ++ r135)) q135_2 (s135_2 f77 f177 f112 f60 f56 f171))]
theorem e135_0 (f77 : (List Int × Int × Int × Unit) × Int × Unit → Option ((List Int × Int × Int × Unit) × Int × Unit)) (f177 : List Device × Device × Unit → Option (List Device × Bool × Unit)) (f112 : (List Int × Int × Int × Unit) × List Str × Unit → Option ((List Int × Int × Int × Unit) × Str × Unit)) (f60 : (List Int × Int × Int × Unit) × Str × Str × Unit → Option ((List Int × Int × Int × Unit) × Device × Unit)) (f56 : (List Int × Int × Int × Unit) × Int × Unit → Option ((List Int × Int × Int × Unit) × Bool × Unit)) (f171 : (List Int × Int × Int × Unit) × Unit → Option ((List Int × Int × Int × Unit) × Place × Unit)) (X : Nat → St → Option (densS (muts p135 ++ r135))) (rec K : densS q135_0 → Option (densS (muts p135 ++ r135))) (t : densS q135_0) :
    ev (E135 f77 f177 f112 f60 f56 f171) tab (fun _ => false) (L135 f77 f177 f112 f60 f56 f171) (retK tab p135 r135 Proofs.Try.f135.results.toList) (loopC Proofs.Try.f135 0) (fun i s => cond (Nat.beq i 0) (decK 100 q135_0 s K) (X i s)) (fun s => decK 100 q135_0 s rec) (enc q135_0 t) = s135_0 f77 f177 f112 f60 f56 f171 t rec K := by kernel_rfl
theorem e135_2 (f77 : (List Int × Int × Int × Unit) × Int × Unit → Option ((List Int × Int × Int × Unit) × Int × Unit)) (f177 : List Device × Device × Unit → Option (List Device × Bool × Unit)) (f112 : (List Int × Int × Int × Unit) × List Str × Unit → Option ((List Int × Int × Int × Unit) × Str × Unit)) (f60 : (List Int × Int × Int × Unit) × Str × Str × Unit → Option ((List Int × Int × Int × Unit) × Device × Unit)) (f56 : (List Int × Int × Int × Unit) × Int × Unit → Option ((List Int × Int × Int × Unit) × Bool × Unit)) (f171 : (List Int × Int × Int × Unit) × Unit → Option ((List Int × Int × Int × Unit) × Place × Unit)) (X : Nat → St → Option (densS (muts p135 ++ r135))) (rec K : densS q135_2 → Option (densS (muts p135 ++ r135))) (t : densS q135_2) :
    ev (E135 f77 f177 f112 f60 f56 f171) tab (fun _ => false) (L135 f77 f177 f112 f60 f56 f171) (retK tab p135 r135 Proofs.Try.f135.results.toList) (loopC Proofs.Try.f135 1) (fun i s => cond (Nat.beq i 2) (decK 100 q135_2 s K) (X i s)) (fun s => decK 100 q135_2 s rec) (enc q135_2 t) = s135_2 f77 f177 f112 f60 f56 f171 t rec K := by kernel_rfl
theorem e135 (f77 : (List Int × Int × Int × Unit) × Int × Unit → Option ((List Int × Int × Int × Unit) × Int × Unit)) (f177 : List Device × Device × Unit → Option (List Device × Bool × Unit)) (f112 : (List Int × Int × Int × Unit) × List Str × Unit → Option ((List Int × Int × Int × Unit) × Str × Unit)) (f60 : (List Int × Int × Int × Unit) × Str × Str × Unit → Option ((List Int × Int × Int × Unit) × Device × Unit)) (f56 : (List Int × Int × Int × Unit) × Int × Unit → Option ((List Int × Int × Int × Unit) × Bool × Unit)) (f171 : (List Int × Int × Int × Unit) × Unit → Option ((List Int × Int × Int × Unit) × Place × Unit)) (a : densS p135) : runF (E135 f77 f177 f112 f60 f56 f171) tab (fun _ => false) p135 r135 Proofs.Try.f135 (L135 f77 f177 f112 f60 f56 f171) a = F135 f77 f177 f112 f60 f56 f171 a := by kernel_rfl
theorem ok135 {f77 : (List Int × Int × Int × Unit) × Int × Unit → Option ((List Int × Int × Int × Unit) × Int × Unit)} {f177 : List Device × Device × Unit → Option (List Device × Bool × Unit)} {f112 : (List Int × Int × Int × Unit) × List Str × Unit → Option ((List Int × Int × Int × Unit) × Str × Unit)} {f60 : (List Int × Int × Int × Unit) × Str × Str × Unit → Option ((List Int × Int × Int × Unit) × Device × Unit)} {f56 : (List Int × Int × Int × Unit) × Int × Unit → Option ((List Int × Int × Int × Unit) × Bool × Unit)} {f171 : (List Int × Int × Int × Unit) × Unit → Option ((List Int × Int × Int × Unit) × Place × Unit)} (h77 : OK Proofs.Try.prog 77 (mkE p77 r77 true f77)) (h177 : OK Proofs.Try.prog 177 (mkE p177 r177 false f177)) (h112 : OK Proofs.Try.prog 112 (mkE p112 r112 true f112)) (h60 : OK Proofs.Try.prog 60 (mkE p60 r60 true f60)) (h56 : OK Proofs.Try.prog 56 (mkE p56 r56 true f56)) (h171 : OK Proofs.Try.prog 171 (mkE p171 r171 true f171)) : OK Proofs.Try.prog 135 (mkE p135 r135 true (F135 f77 f177 f112 f60 f56 f171)) :=
  fn_ok tab_ok (envL_ok (l := [(77, mkE p77 r77 true f77), (177, mkE p177 r177 false f177), (112, mkE p112 r112 true f112), (60, mkE p60 r60 true f60), (56, mkE p56 r56 true f56), (171, mkE p171 r171 true f171)]) (OKs.cons h77 (OKs.cons h177 (OKs.cons h112 (OKs.cons h60 (OKs.cons h56 (OKs.cons h171 OKs.nil))))))) mixed (ann := (fun _ => false)) (L := L135 f77 f177 f112 f60 f56 f171) (fn := Proofs.Try.f135) (c := bodyC Proofs.Try.f135) (ls := [(0, loopC Proofs.Try.f135 0), (2, loopC Proofs.Try.f135 1)]) Proofs.Try.func135 (by kernel_rfl) (by kernel_rfl) (by kernel_rfl) (by kernel_rfl)
    (LoopsP.cons q135_0 (s135_0 f77 f177 f112 f60 f56 f171) rfl (e135_0 f77 f177 f112 f60 f56 f171) (LoopsP.cons q135_2 (s135_2 f77 f177 f112 f60 f56 f171) rfl (e135_2 f77 f177 f112 f60 f56 f171) LoopsP.nil)) (e135 f77 f177 f112 f60 f56 f171)
/-! spec.l4DriftDraw -/
def p123 : List SP := [.box 0 [.r .u8, .int .i64, .int .i64]]
def r123 : List SP := [.t .place]
noncomputable def F123 (f127 : (List Int × Int × Int × Unit) × Int × Int × Unit → Option ((List Int × Int × Int × Unit) × Int × Unit)) (a : (List Int × Int × Int × Unit) × Unit) : Option ((List Int × Int × Int × Unit) × Place × Unit) :=
  (f127 ((a.1.1, a.1.2.1, a.1.2.2.1, ()), (-3), 3, ())).bind fun x1 => (f127 ((x1.1.1, x1.1.2.1, x1.1.2.2.1, ()), (-3), 3, ())).bind fun x2 => some ((x2.1.1, x2.1.2.1, x2.1.2.2.1, ()), (⟨x1.2.1, x2.2.1⟩ : Place), ())
def E123 (f127 : (List Int × Int × Int × Unit) × Int × Int × Unit → Option ((List Int × Int × Int × Unit) × Int × Unit)) : Env := envL [(127, mkE p127 r127 true f127)]
noncomputable def L123 (f127 : (List Int × Int × Int × Unit) × Int × Int × Unit → Option ((List Int × Int × Int × Unit) × Int × Unit)) : LEnv (densS (muts p123 ++ r123)) := lenv []
theorem e123 (f127 : (List Int × Int × Int × Unit) × Int × Int × Unit → Option ((List Int × Int × Int × Unit) × Int × Unit)) (a : densS p123) : runF (E123 f127) tab (fun _ => false) p123 r123 Proofs.Try.f123 (L123 f127) a = F123 f127 a := by kernel_rfl
theorem ok123 {f127 : (List Int × Int × Int × Unit) × Int × Int × Unit → Option ((List Int × Int × Int × Unit) × Int × Unit)} (h127 : OK Proofs.Try.prog 127 (mkE p127 r127 true f127)) : OK Proofs.Try.prog 123 (mkE p123 r123 true (F123 f127)) :=
  fn_ok tab_ok (envL_ok (l := [(127, mkE p127 r127 true f127)]) (OKs.cons h127 OKs.nil)) mixed (ann := (fun _ => false)) (L := L123 f127) (fn := Proofs.Try.f123) (c := bodyC Proofs.Try.f123) (ls := []) Proofs.Try.func123 (by kernel_rfl) (by kernel_rfl) (by kernel_rfl) (by kernel_rfl)
    LoopsP.nil (e123 f127)
/-! spec.l4Draw -/
def p136 : List SP := [.box 0 [.r .u8, .int .i64, .int .i64]]
def r136 : List SP := [.one (.o 1 .gust)]
def q136_0 : List SP := pat 29 0 [(0, .box 0 [.r .u8, .int .i64, .int .i64]), (3, .one (.o 5000001 .gust)), (4, .one (.int .i64)), (5, .one (.int .i64))]
noncomputable def s136_0 (f124 : (List Int × Int × Int × Unit) × List Int × Unit → Option ((List Int × Int × Int × Unit) × Int × Unit)) (f77 : (List Int × Int × Int × Unit) × Int × Unit → Option ((List Int × Int × Int × Unit) × Int × Unit)) (f123 : (List Int × Int × Int × Unit) × Unit → Option ((List Int × Int × Int × Unit) × Place × Unit)) (t3 : (List Int × Int × Int × Unit) × List Gust × Int × Int × Unit) (rec K : (List Int × Int × Int × Unit) × List Gust × Int × Int × Unit → Option ((List Int × Int × Int × Unit) × List Gust × Unit)) : Option ((List Int × Int × Int × Unit) × List Gust × Unit) :=
  cond (decide (t3.2.2.2.1 > 0)) ((f123 ((t3.1.1, t3.1.2.1, t3.1.2.2.1, ()), ())).bind fun x4 => capK (List.length t3.2.1 + List.length ([(⟨t3.2.2.1, ⟨x4.2.1.X, x4.2.1.Y⟩⟩ : Gust)] : List Gust)) ((f77 ((x4.1.1, x4.1.2.1, x4.1.2.2.1, ()), 9, ())).bind fun x5 => rec ((x5.1.1, x5.1.2.1, x5.1.2.2.1, ()), (t3.2.1 ++ ([(⟨t3.2.2.1, ⟨x4.2.1.X, x4.2.1.Y⟩⟩ : Gust)] : List Gust)), (w64 ((w64 (t3.2.2.1 + 1)) + x5.2.1)), (w64 (t3.2.2.2.1 - 1)), ()))) (K ((t3.1.1, t3.1.2.1, t3.1.2.2.1, ()), t3.2.1, t3.2.2.1, t3.2.2.2.1, ()))
noncomputable def F136 (f124 : (List Int × Int × Int × Unit) × List Int × Unit → Option ((List Int × Int × Int × Unit) × Int × Unit)) (f77 : (List Int × Int × Int × Unit) × Int × Unit → Option ((List Int × Int × Int × Unit) × Int × Unit)) (f123 : (List Int × Int × Int × Unit) × Unit → Option ((List Int × Int × Int × Unit) × Place × Unit)) (a : (List Int × Int × Int × Unit) × Unit) : Option ((List Int × Int × Int × Unit) × List Gust × Unit) :=
  (f124 ((a.1.1, a.1.2.1, a.1.2.2.1, ()), ([0, 0, 1, 5] : List Int), ())).bind fun x1 => (f77 ((x1.1.1, x1.1.2.1, x1.1.2.2.1, ()), 6, ())).bind fun x2 => iterF (s136_0 f124 f77 f123) fuel ((x2.1.1, x2.1.2.1, x2.1.2.2.1, ()), ([] : List Gust), x1.2.1, x2.2.1, ()) fun t6 => some ((t6.1.1, t6.1.2.1, t6.1.2.2.1, ()), t6.2.1, ())
def E136 (f124 : (List Int × Int × Int × Unit) × List Int × Unit → Option ((List Int × Int × Int × Unit) × Int × Unit)) (f77 : (List Int × Int × Int × Unit) × Int × Unit → Option ((List Int × Int × Int × Unit) × Int × Unit)) (f123 : (List Int × Int × Int × Unit) × Unit → Option ((List Int × Int × Int × Unit) × Place × Unit)) : Env := envL [(124, mkE p124 r124 true f124), (77, mkE p77 r77 true f77), (123, mkE p123 r123 true f123)]
noncomputable def L136 (f124 : (List Int × Int × Int × Unit) × List Int × Unit → Option ((List Int × Int × Int × Unit) × Int × Unit)) (f77 : (List Int × Int × Int × Unit) × Int × Unit → Option ((List Int × Int × Int × Unit) × Int × Unit)) (f123 : (List Int × Int × Int × Unit) × Unit → Option ((List Int × Int × Int × Unit) × Place × Unit)) : LEnv (densS (muts p136 ++ r136)) := lenv [(0, loopL (R := densS (muts p136 ++ r136)) q136_0 (s136_0 f124 f77 f123))]
theorem e136_0 (f124 : (List Int × Int × Int × Unit) × List Int × Unit → Option ((List Int × Int × Int × Unit) × Int × Unit)) (f77 : (List Int × Int × Int × Unit) × Int × Unit → Option ((List Int × Int × Int × Unit) × Int × Unit)) (f123 : (List Int × Int × Int × Unit) × Unit → Option ((List Int × Int × Int × Unit) × Place × Unit)) (X : Nat → St → Option (densS (muts p136 ++ r136))) (rec K : densS q136_0 → Option (densS (muts p136 ++ r136))) (t : densS q136_0) :
    ev (E136 f124 f77 f123) tab (fun _ => false) (L136 f124 f77 f123) (retK tab p136 r136 Proofs.Try.f136.results.toList) (loopC Proofs.Try.f136 0) (fun i s => cond (Nat.beq i 0) (decK 100 q136_0 s K) (X i s)) (fun s => decK 100 q136_0 s rec) (enc q136_0 t) = s136_0 f124 f77 f123 t rec K := by kernel_rfl
theorem e136 (f124 : (List Int × Int × Int × Unit) × List Int × Unit → Option ((List Int × Int × Int × Unit) × Int × Unit)) (f77 : (List Int × Int × Int × Unit) × Int × Unit → Option ((List Int × Int × Int × Unit) × Int × Unit)) (f123 : (List Int × Int × Int × Unit) × Unit → Option ((List Int × Int × Int × Unit) × Place × Unit)) (a : densS p136) : runF (E136 f124 f77 f123) tab (fun _ => false) p136 r136 Proofs.Try.f136 (L136 f124 f77 f123) a = F136 f124 f77 f123 a := by kernel_rfl
theorem ok136 {f124 : (List Int × Int × Int × Unit) × List Int × Unit → Option ((List Int × Int × Int × Unit) × Int × Unit)} {f77 : (List Int × Int × Int × Unit) × Int × Unit → Option ((List Int × Int × Int × Unit) × Int × Unit)} {f123 : (List Int × Int × Int × Unit) × Unit → Option ((List Int × Int × Int × Unit) × Place × Unit)} (h124 : OK Proofs.Try.prog 124 (mkE p124 r124 true f124)) (h77 : OK Proofs.Try.prog 77 (mkE p77 r77 true f77)) (h123 : OK Proofs.Try.prog 123 (mkE p123 r123 true f123)) : OK Proofs.Try.prog 136 (mkE p136 r136 true (F136 f124 f77 f123)) :=
  fn_ok tab_ok (envL_ok (l := [(124, mkE p124 r124 true f124), (77, mkE p77 r77 true f77), (123, mkE p123 r123 true f123)]) (OKs.cons h124 (OKs.cons h77 (OKs.cons h123 OKs.nil)))) mixed (ann := (fun _ => false)) (L := L136 f124 f77 f123) (fn := Proofs.Try.f136) (c := bodyC Proofs.Try.f136) (ls := [(0, loopC Proofs.Try.f136 0)]) Proofs.Try.func136 (by kernel_rfl) (by kernel_rfl) (by kernel_rfl) (by kernel_rfl)
    (LoopsP.cons q136_0 (s136_0 f124 f77 f123) rfl (e136_0 f124 f77 f123) LoopsP.nil) (e136 f124 f77 f123)
/-! spec.l9Draw -/
def p76 : List SP := [.box 0 [.r .u8, .int .i64, .int .i64]]
def r76 : List SP := [.agg [.o 1 .device, .o 2 .cue, .o 3 .gust, .int .i64]]
def q76_0 : List SP := pat 33 0 [(0, .box 0 [.r .u8, .int .i64, .int .i64]), (2, .box 5000001 [.o 5000002 .device, .o 5000003 .cue, .o 5000004 .gust, .int .i64]), (3, .box 5000005 [.o 5000006 .device, .o 5000007 .cue, .o 5000008 .gust, .int .i64]), (4, .one (.int .i64))]
noncomputable def s76_0 (f135 : (List Int × Int × Int × Unit) × Unit → Option ((List Int × Int × Int × Unit) × List Device × Unit)) (f136 : (List Int × Int × Int × Unit) × Unit → Option ((List Int × Int × Int × Unit) × List Gust × Unit)) (f77 : (List Int × Int × Int × Unit) × Int × Unit → Option ((List Int × Int × Int × Unit) × Int × Unit)) (f111 : (List Int × Int × Int × Unit) × Unit → Option ((List Int × Int × Int × Unit) × Cue × Unit)) (f110 : List Cue × Cue × Unit → Option (List Cue × Bool × Unit)) (t5 : (List Int × Int × Int × Unit) × (List Device × List Cue × List Gust × Int × Unit) × (List Device × List Cue × List Gust × Int × Unit) × Int × Unit) (rec K : (List Int × Int × Int × Unit) × (List Device × List Cue × List Gust × Int × Unit) × (List Device × List Cue × List Gust × Int × Unit) × Int × Unit → Option ((List Int × Int × Int × Unit) × (List Device × List Cue × List Gust × Int × Unit) × Unit)) : Option ((List Int × Int × Int × Unit) × (List Device × List Cue × List Gust × Int × Unit) × Unit) :=
  cond (decide (t5.2.2.2.1 > 0)) ((f111 ((t5.1.1, t5.1.2.1, t5.1.2.2.1, ()), ())).bind fun x6 => (f77 ((x6.1.1, x6.1.2.1, x6.1.2.2.1, ()), 8, ())).bind fun x7 => (f110 (t5.2.2.1.2.1, (⟨x7.2.1, x6.2.1.Name, x6.2.1.Level, x6.2.1.Ramp⟩ : Cue), ())).bind fun x8 => rec ((x7.1.1, x7.1.2.1, x7.1.2.2.1, ()), (t5.2.1.1, t5.2.1.2.1, t5.2.1.2.2.1, t5.2.1.2.2.2.1, ()), (t5.2.2.1.1, x8.1, t5.2.2.1.2.2.1, t5.2.2.1.2.2.2.1, ()), (w64 (t5.2.2.2.1 - 1)), ())) (K ((t5.1.1, t5.1.2.1, t5.1.2.2.1, ()), (t5.2.1.1, t5.2.1.2.1, t5.2.1.2.2.1, t5.2.1.2.2.2.1, ()), (t5.2.2.1.1, t5.2.2.1.2.1, t5.2.2.1.2.2.1, t5.2.2.1.2.2.2.1, ()), t5.2.2.2.1, ()))
noncomputable def F76 (f135 : (List Int × Int × Int × Unit) × Unit → Option ((List Int × Int × Int × Unit) × List Device × Unit)) (f136 : (List Int × Int × Int × Unit) × Unit → Option ((List Int × Int × Int × Unit) × List Gust × Unit)) (f77 : (List Int × Int × Int × Unit) × Int × Unit → Option ((List Int × Int × Int × Unit) × Int × Unit)) (f111 : (List Int × Int × Int × Unit) × Unit → Option ((List Int × Int × Int × Unit) × Cue × Unit)) (f110 : List Cue × Cue × Unit → Option (List Cue × Bool × Unit)) (a : (List Int × Int × Int × Unit) × Unit) : Option ((List Int × Int × Int × Unit) × (List Device × List Cue × List Gust × Int × Unit) × Unit) :=
  (f135 ((a.1.1, a.1.2.1, a.1.2.2.1, ()), ())).bind fun x1 => (f136 ((x1.1.1, x1.1.2.1, x1.1.2.2.1, ()), ())).bind fun x2 => (f77 ((x2.1.1, x2.1.2.1, x2.1.2.2.1, ()), 14, ())).bind fun x3 => (f77 ((x3.1.1, x3.1.2.1, x3.1.2.2.1, ()), 6, ())).bind fun x4 => iterF (s76_0 f135 f136 f77 f111 f110) fuel ((x4.1.1, x4.1.2.1, x4.1.2.2.1, ()), ([], [], [], 0, ()), (x1.2.1, [], x2.2.1, x3.2.1, ()), x4.2.1, ()) fun t9 => some ((t9.1.1, t9.1.2.1, t9.1.2.2.1, ()), (t9.2.2.1.1, t9.2.2.1.2.1, t9.2.2.1.2.2.1, t9.2.2.1.2.2.2.1, ()), ())
def E76 (f135 : (List Int × Int × Int × Unit) × Unit → Option ((List Int × Int × Int × Unit) × List Device × Unit)) (f136 : (List Int × Int × Int × Unit) × Unit → Option ((List Int × Int × Int × Unit) × List Gust × Unit)) (f77 : (List Int × Int × Int × Unit) × Int × Unit → Option ((List Int × Int × Int × Unit) × Int × Unit)) (f111 : (List Int × Int × Int × Unit) × Unit → Option ((List Int × Int × Int × Unit) × Cue × Unit)) (f110 : List Cue × Cue × Unit → Option (List Cue × Bool × Unit)) : Env := envL [(135, mkE p135 r135 true f135), (136, mkE p136 r136 true f136), (77, mkE p77 r77 true f77), (111, mkE p111 r111 true f111), (110, mkE p110 r110 false f110)]
noncomputable def L76 (f135 : (List Int × Int × Int × Unit) × Unit → Option ((List Int × Int × Int × Unit) × List Device × Unit)) (f136 : (List Int × Int × Int × Unit) × Unit → Option ((List Int × Int × Int × Unit) × List Gust × Unit)) (f77 : (List Int × Int × Int × Unit) × Int × Unit → Option ((List Int × Int × Int × Unit) × Int × Unit)) (f111 : (List Int × Int × Int × Unit) × Unit → Option ((List Int × Int × Int × Unit) × Cue × Unit)) (f110 : List Cue × Cue × Unit → Option (List Cue × Bool × Unit)) : LEnv (densS (muts p76 ++ r76)) := lenv [(0, loopL (R := densS (muts p76 ++ r76)) q76_0 (s76_0 f135 f136 f77 f111 f110))]
theorem e76_0 (f135 : (List Int × Int × Int × Unit) × Unit → Option ((List Int × Int × Int × Unit) × List Device × Unit)) (f136 : (List Int × Int × Int × Unit) × Unit → Option ((List Int × Int × Int × Unit) × List Gust × Unit)) (f77 : (List Int × Int × Int × Unit) × Int × Unit → Option ((List Int × Int × Int × Unit) × Int × Unit)) (f111 : (List Int × Int × Int × Unit) × Unit → Option ((List Int × Int × Int × Unit) × Cue × Unit)) (f110 : List Cue × Cue × Unit → Option (List Cue × Bool × Unit)) (X : Nat → St → Option (densS (muts p76 ++ r76))) (rec K : densS q76_0 → Option (densS (muts p76 ++ r76))) (t : densS q76_0) :
    ev (E76 f135 f136 f77 f111 f110) tab (fun _ => false) (L76 f135 f136 f77 f111 f110) (retK tab p76 r76 Proofs.Try.f76.results.toList) (loopC Proofs.Try.f76 0) (fun i s => cond (Nat.beq i 0) (decK 100 q76_0 s K) (X i s)) (fun s => decK 100 q76_0 s rec) (enc q76_0 t) = s76_0 f135 f136 f77 f111 f110 t rec K := by kernel_rfl
theorem e76 (f135 : (List Int × Int × Int × Unit) × Unit → Option ((List Int × Int × Int × Unit) × List Device × Unit)) (f136 : (List Int × Int × Int × Unit) × Unit → Option ((List Int × Int × Int × Unit) × List Gust × Unit)) (f77 : (List Int × Int × Int × Unit) × Int × Unit → Option ((List Int × Int × Int × Unit) × Int × Unit)) (f111 : (List Int × Int × Int × Unit) × Unit → Option ((List Int × Int × Int × Unit) × Cue × Unit)) (f110 : List Cue × Cue × Unit → Option (List Cue × Bool × Unit)) (a : densS p76) : runF (E76 f135 f136 f77 f111 f110) tab (fun _ => false) p76 r76 Proofs.Try.f76 (L76 f135 f136 f77 f111 f110) a = F76 f135 f136 f77 f111 f110 a := by kernel_rfl
theorem ok76 {f135 : (List Int × Int × Int × Unit) × Unit → Option ((List Int × Int × Int × Unit) × List Device × Unit)} {f136 : (List Int × Int × Int × Unit) × Unit → Option ((List Int × Int × Int × Unit) × List Gust × Unit)} {f77 : (List Int × Int × Int × Unit) × Int × Unit → Option ((List Int × Int × Int × Unit) × Int × Unit)} {f111 : (List Int × Int × Int × Unit) × Unit → Option ((List Int × Int × Int × Unit) × Cue × Unit)} {f110 : List Cue × Cue × Unit → Option (List Cue × Bool × Unit)} (h135 : OK Proofs.Try.prog 135 (mkE p135 r135 true f135)) (h136 : OK Proofs.Try.prog 136 (mkE p136 r136 true f136)) (h77 : OK Proofs.Try.prog 77 (mkE p77 r77 true f77)) (h111 : OK Proofs.Try.prog 111 (mkE p111 r111 true f111)) (h110 : OK Proofs.Try.prog 110 (mkE p110 r110 false f110)) : OK Proofs.Try.prog 76 (mkE p76 r76 true (F76 f135 f136 f77 f111 f110)) :=
  fn_ok tab_ok (envL_ok (l := [(135, mkE p135 r135 true f135), (136, mkE p136 r136 true f136), (77, mkE p77 r77 true f77), (111, mkE p111 r111 true f111), (110, mkE p110 r110 false f110)]) (OKs.cons h135 (OKs.cons h136 (OKs.cons h77 (OKs.cons h111 (OKs.cons h110 OKs.nil)))))) mixed (ann := (fun _ => false)) (L := L76 f135 f136 f77 f111 f110) (fn := Proofs.Try.f76) (c := bodyC Proofs.Try.f76) (ls := [(0, loopC Proofs.Try.f76 0)]) Proofs.Try.func76 (by kernel_rfl) (by kernel_rfl) (by kernel_rfl) (by kernel_rfl)
    (LoopsP.cons q76_0 (s76_0 f135 f136 f77 f111 f110) rfl (e76_0 f135 f136 f77 f111 f110) LoopsP.nil) (e76 f135 f136 f77 f111 f110)
/-! spec.DrawShow -/
def p26 : List SP := [.one (.r .u8)]
def r26 : List SP := [.agg [.o 0 .device, .o 1 .cue, .o 2 .gust, .int .i64], .one (.int .i64)]
noncomputable def F26 (f48 : List Int × Unit → Option ((List Int × Int × Int × Unit) × Unit)) (f76 : (List Int × Int × Int × Unit) × Unit → Option ((List Int × Int × Int × Unit) × (List Device × List Cue × List Gust × Int × Unit) × Unit)) (f77 : (List Int × Int × Int × Unit) × Int × Unit → Option ((List Int × Int × Int × Unit) × Int × Unit)) (a : List Int × Unit) : Option ((List Device × List Cue × List Gust × Int × Unit) × Int × Unit) :=
  (f48 (a.1, ())).bind fun x1 => (f76 ((x1.1.1, x1.1.2.1, x1.1.2.2.1, ()), ())).bind fun x2 => (f77 ((x2.1.1, x2.1.2.1, x2.1.2.2.1, ()), 30, ())).bind fun x3 => some ((x2.2.1.1, x2.2.1.2.1, x2.2.1.2.2.1, x2.2.1.2.2.2.1, ()), x3.2.1, ())
def E26 (f48 : List Int × Unit → Option ((List Int × Int × Int × Unit) × Unit)) (f76 : (List Int × Int × Int × Unit) × Unit → Option ((List Int × Int × Int × Unit) × (List Device × List Cue × List Gust × Int × Unit) × Unit)) (f77 : (List Int × Int × Int × Unit) × Int × Unit → Option ((List Int × Int × Int × Unit) × Int × Unit)) : Env := envL [(48, mkE p48 r48 true f48), (76, mkE p76 r76 true f76), (77, mkE p77 r77 true f77)]
noncomputable def L26 (f48 : List Int × Unit → Option ((List Int × Int × Int × Unit) × Unit)) (f76 : (List Int × Int × Int × Unit) × Unit → Option ((List Int × Int × Int × Unit) × (List Device × List Cue × List Gust × Int × Unit) × Unit)) (f77 : (List Int × Int × Int × Unit) × Int × Unit → Option ((List Int × Int × Int × Unit) × Int × Unit)) : LEnv (densS (muts p26 ++ r26)) := lenv []
theorem e26 (f48 : List Int × Unit → Option ((List Int × Int × Int × Unit) × Unit)) (f76 : (List Int × Int × Int × Unit) × Unit → Option ((List Int × Int × Int × Unit) × (List Device × List Cue × List Gust × Int × Unit) × Unit)) (f77 : (List Int × Int × Int × Unit) × Int × Unit → Option ((List Int × Int × Int × Unit) × Int × Unit)) (a : densS p26) : runF (E26 f48 f76 f77) tab (fun _ => false) p26 r26 Proofs.Try.f26 (L26 f48 f76 f77) a = F26 f48 f76 f77 a := by kernel_rfl
theorem ok26 {f48 : List Int × Unit → Option ((List Int × Int × Int × Unit) × Unit)} {f76 : (List Int × Int × Int × Unit) × Unit → Option ((List Int × Int × Int × Unit) × (List Device × List Cue × List Gust × Int × Unit) × Unit)} {f77 : (List Int × Int × Int × Unit) × Int × Unit → Option ((List Int × Int × Int × Unit) × Int × Unit)} (h48 : OK Proofs.Try.prog 48 (mkE p48 r48 true f48)) (h76 : OK Proofs.Try.prog 76 (mkE p76 r76 true f76)) (h77 : OK Proofs.Try.prog 77 (mkE p77 r77 true f77)) : OK Proofs.Try.prog 26 (mkE p26 r26 false (F26 f48 f76 f77)) :=
  fn_ok tab_ok (envL_ok (l := [(48, mkE p48 r48 true f48), (76, mkE p76 r76 true f76), (77, mkE p77 r77 true f77)]) (OKs.cons h48 (OKs.cons h76 (OKs.cons h77 OKs.nil)))) mixed (ann := (fun _ => false)) (L := L26 f48 f76 f77) (fn := Proofs.Try.f26) (c := bodyC Proofs.Try.f26) (ls := []) Proofs.Try.func26 (by kernel_rfl) (by kernel_rfl) (by kernel_rfl) (by kernel_rfl)
    LoopsP.nil (e26 f48 f76 f77)
end Ev
