/- Functions of the program, as the evaluator sees them. -/
import Derived.Test.YtnoodoiehlcblaaFlat
set_option linter.unusedVariables false
set_option maxRecDepth 100000
namespace Ev
open Go
def tab : Tab := [(3, ⟨1, false, 8, [.int .i64 0], [], .int .i64, false⟩),
  (4, ⟨1, false, 1, [.bool false], [], .bool, false⟩),
  (5, ⟨1, false, 1, [.int .u8 0], [], .int .u8, false⟩),
  (9, ⟨1, false, 16, [.str []], [], .str, false⟩),
  (22, ⟨1, false, 24, [.nils], [], .sl .device, false⟩),
  (23, ⟨1, false, 24, [.nils], [], .sl .cue, false⟩),
  (24, ⟨1, false, 24, [.nils], [], .sl .gust, false⟩),
  (26, ⟨4, true, 80, [.nils, .nils, .nils, .int .i64 0], [(0, 1, false), (1, 1, false), (2, 1, false), (3, 1, false)], .struct, false⟩),
  (28, ⟨1, false, 24, [.nils], [], .sl .int, false⟩),
  (30, ⟨1, false, 24, [.nils], [], .sl .device, false⟩),
  (31, ⟨1, false, 24, [.nils], [], .sl .cue, false⟩),
  (32, ⟨1, false, 24, [.nils], [], .sl .gust, false⟩),
  (34, ⟨4, true, 80, [.nils, .nils, .nils, .int .i64 0], [(0, 1, false), (1, 1, false), (2, 1, false), (3, 1, false)], .struct, false⟩),
  (42, ⟨2, true, 16, [.int .i64 0, .int .i64 0], [(0, 1, false), (1, 1, false)], .struct, false⟩),
  (44, ⟨5, true, 40, [.int .i64 0, .int .i64 0, .int .i64 0, .int .i64 0, .int .i64 0], [(0, 2, true), (2, 1, false), (3, 1, false), (4, 1, false)], .struct, false⟩),
  (64, ⟨8, true, 80, [.str [], .int .i64 0, .str [], .int .i64 0, .int .i64 0, .int .i64 0, .int .i64 0, .int .i64 0], [(0, 1, false), (1, 1, false), (2, 1, false), (3, 2, true), (5, 1, false), (6, 1, false), (7, 1, false)], .struct, true⟩),
  (76, ⟨1, false, 24, [.nils], [], .sl .throw, false⟩),
  (79, ⟨7, true, 64, [.str [], .int .i64 0, .int .i64 0, .int .i64 0, .int .i64 0, .int .i64 0, .int .i64 0], [(0, 1, false), (1, 1, false), (2, 5, true)], .struct, false⟩),
  (80, ⟨1, false, 24, [.nils], [], .sl .throw, false⟩),
  (83, ⟨7, true, 64, [.str [], .int .i64 0, .int .i64 0, .int .i64 0, .int .i64 0, .int .i64 0, .int .i64 0], [(0, 1, false), (1, 1, false), (2, 5, true)], .struct, false⟩),
  (91, ⟨2, true, 16, [.int .i64 0, .int .i64 0], [(0, 1, false), (1, 1, false)], .struct, false⟩),
  (93, ⟨8, true, 80, [.str [], .int .i64 0, .str [], .int .i64 0, .int .i64 0, .int .i64 0, .int .i64 0, .int .i64 0], [(0, 1, false), (1, 1, false), (2, 1, false), (3, 2, true), (5, 1, false), (6, 1, false), (7, 1, false)], .struct, false⟩),
  (96, ⟨4, true, 40, [.int .i64 0, .str [], .int .i64 0, .int .i64 0], [(0, 1, false), (1, 1, false), (2, 1, false), (3, 1, false)], .struct, false⟩),
  (101, ⟨4, true, 40, [.int .i64 0, .str [], .int .i64 0, .int .i64 0], [(0, 1, false), (1, 1, false), (2, 1, false), (3, 1, false)], .struct, false⟩),
  (104, ⟨3, true, 24, [.int .i64 0, .int .i64 0, .int .i64 0], [(0, 1, false), (1, 2, true)], .struct, false⟩),
  (107, ⟨3, true, 24, [.int .i64 0, .int .i64 0, .int .i64 0], [(0, 1, false), (1, 2, true)], .struct, false⟩),
  (121, ⟨1, false, 24, [.nils], [], .sl .u8, false⟩)]
theorem tab_ok : TabOK Proofs.Try.prog tab := tab_of2 (by kernel_rfl) (by kernel_rfl)
theorem mixed : Proofs.Try.prog.follows .mixedOrders = true := by kernel_rfl
/-! laws.szDevice -/
def p65 : List SP := [.t .device, .one (.int .i64)]
def r65 : List SP := [.one (.int .i64)]
noncomputable def F65 (a : Device × Int × Unit) : Option (Int × Unit) :=
  cond (decide ((w64 (a.2.1 - (Int.ofNat (List.length a.1.Name)))) < 0)) (some ((-1), ())) (cond (decide ((w64 ((w64 (a.2.1 - (Int.ofNat (List.length a.1.Name)))) - (Int.ofNat (List.length a.1.Line)))) < 0)) (some ((-1), ())) (some ((w64 ((w64 (a.2.1 - (Int.ofNat (List.length a.1.Name)))) - (Int.ofNat (List.length a.1.Line)))), ())))
def E65 : Env := envL []
noncomputable def L65 : LEnv (densS (muts p65 ++ r65)) := lenv []
theorem e65 (a : densS p65) : runF (E65) tab (fun _ => false) p65 r65 Proofs.Try.f65 (L65) a = F65 a := by kernel_rfl
theorem ok65 : OK Proofs.Try.prog 65 (mkE p65 r65 false (F65)) :=
  fn_ok tab_ok (envL_ok (l := []) OKs.nil) mixed (ann := (fun _ => false)) (L := L65) (fn := Proofs.Try.f65) (c := bodyC Proofs.Try.f65) (ls := []) Proofs.Try.func65 (by kernel_rfl) (by kernel_rfl) (by kernel_rfl) (by kernel_rfl)
    LoopsP.nil (e65)
/-! laws.szDeviceS -/
def p35 : List SP := [.one (.r .device), .one (.int .i64)]
def r35 : List SP := [.one (.int .i64)]
def q35_0 : List SP := pat 27 0 [(0, .one (.r .device)), (1, .one (.int .i64)), (5, .one (.int .i64))]
noncomputable def s35_0 (f65 : Device × Int × Unit → Option (Int × Unit)) (t1 : List Device × Int × Int × Unit) (rec K : List Device × Int × Int × Unit → Option (Int × Unit)) : Option (Int × Unit) :=
  cond (decide (t1.2.2.1 < (Int.ofNat (List.length t1.1)))) (rdL t1.1 t1.2.2.1 fun d2 => (f65 (d2, t1.2.1, ())).bind fun x3 => cond (decide (x3.1 < 0)) (some ((-1), ())) (rec (t1.1, x3.1, (w64 (t1.2.2.1 + 1)), ()))) (K (t1.1, t1.2.1, t1.2.2.1, ()))
noncomputable def F35 (f65 : Device × Int × Unit → Option (Int × Unit)) (a : List Device × Int × Unit) : Option (Int × Unit) :=
  cond (decide ((w64 (a.2.1 - (Int.ofNat (List.length a.1)))) < 0)) (some ((-1), ())) (iterF (s35_0 f65) fuel (a.1, (w64 (a.2.1 - (Int.ofNat (List.length a.1)))), 0, ()) fun t4 => some (t4.2.1, ()))
def E35 (f65 : Device × Int × Unit → Option (Int × Unit)) : Env := envL [(65, mkE p65 r65 false f65)]
noncomputable def L35 (f65 : Device × Int × Unit → Option (Int × Unit)) : LEnv (densS (muts p35 ++ r35)) := lenv [(0, loopL (R := densS (muts p35 ++ r35)) q35_0 (s35_0 f65))]
theorem e35_0 (f65 : Device × Int × Unit → Option (Int × Unit)) (X : Nat → St → Option (densS (muts p35 ++ r35))) (rec K : densS q35_0 → Option (densS (muts p35 ++ r35))) (t : densS q35_0) :
    ev (E35 f65) tab (fun _ => false) (L35 f65) (retK tab p35 r35 Proofs.Try.f35.results.toList) (loopC Proofs.Try.f35 0) (fun i s => cond (Nat.beq i 0) (decK 100 q35_0 s K) (X i s)) (fun s => decK 100 q35_0 s rec) (enc q35_0 t) = s35_0 f65 t rec K := by kernel_rfl
theorem e35 (f65 : Device × Int × Unit → Option (Int × Unit)) (a : densS p35) : runF (E35 f65) tab (fun _ => false) p35 r35 Proofs.Try.f35 (L35 f65) a = F35 f65 a := by kernel_rfl
theorem ok35 {f65 : Device × Int × Unit → Option (Int × Unit)} (h65 : OK Proofs.Try.prog 65 (mkE p65 r65 false f65)) : OK Proofs.Try.prog 35 (mkE p35 r35 false (F35 f65)) :=
  fn_ok tab_ok (envL_ok (l := [(65, mkE p65 r65 false f65)]) (OKs.cons h65 OKs.nil)) mixed (ann := (fun _ => false)) (L := L35 f65) (fn := Proofs.Try.f35) (c := bodyC Proofs.Try.f35) (ls := [(0, loopC Proofs.Try.f35 0)]) Proofs.Try.func35 (by kernel_rfl) (by kernel_rfl) (by kernel_rfl) (by kernel_rfl)
    (LoopsP.cons q35_0 (s35_0 f65) rfl (e35_0 f65) LoopsP.nil) (e35 f65)
/-! laws.szCue -/
def p66 : List SP := [.t .cue, .one (.int .i64)]
def r66 : List SP := [.one (.int .i64)]
noncomputable def F66 (a : Cue × Int × Unit) : Option (Int × Unit) :=
  cond (decide ((w64 (a.2.1 - (Int.ofNat (List.length a.1.Name)))) < 0)) (some ((-1), ())) (some ((w64 (a.2.1 - (Int.ofNat (List.length a.1.Name)))), ()))
def E66 : Env := envL []
noncomputable def L66 : LEnv (densS (muts p66 ++ r66)) := lenv []
theorem e66 (a : densS p66) : runF (E66) tab (fun _ => false) p66 r66 Proofs.Try.f66 (L66) a = F66 a := by kernel_rfl
theorem ok66 : OK Proofs.Try.prog 66 (mkE p66 r66 false (F66)) :=
  fn_ok tab_ok (envL_ok (l := []) OKs.nil) mixed (ann := (fun _ => false)) (L := L66) (fn := Proofs.Try.f66) (c := bodyC Proofs.Try.f66) (ls := []) Proofs.Try.func66 (by kernel_rfl) (by kernel_rfl) (by kernel_rfl) (by kernel_rfl)
    LoopsP.nil (e66)
/-! laws.szCueS -/
def p36 : List SP := [.one (.r .cue), .one (.int .i64)]
def r36 : List SP := [.one (.int .i64)]
def q36_0 : List SP := pat 27 0 [(0, .one (.r .cue)), (1, .one (.int .i64)), (5, .one (.int .i64))]
noncomputable def s36_0 (f66 : Cue × Int × Unit → Option (Int × Unit)) (t1 : List Cue × Int × Int × Unit) (rec K : List Cue × Int × Int × Unit → Option (Int × Unit)) : Option (Int × Unit) :=
  cond (decide (t1.2.2.1 < (Int.ofNat (List.length t1.1)))) (rdL t1.1 t1.2.2.1 fun d2 => (f66 (d2, t1.2.1, ())).bind fun x3 => cond (decide (x3.1 < 0)) (some ((-1), ())) (rec (t1.1, x3.1, (w64 (t1.2.2.1 + 1)), ()))) (K (t1.1, t1.2.1, t1.2.2.1, ()))
noncomputable def F36 (f66 : Cue × Int × Unit → Option (Int × Unit)) (a : List Cue × Int × Unit) : Option (Int × Unit) :=
  cond (decide ((w64 (a.2.1 - (Int.ofNat (List.length a.1)))) < 0)) (some ((-1), ())) (iterF (s36_0 f66) fuel (a.1, (w64 (a.2.1 - (Int.ofNat (List.length a.1)))), 0, ()) fun t4 => some (t4.2.1, ()))
def E36 (f66 : Cue × Int × Unit → Option (Int × Unit)) : Env := envL [(66, mkE p66 r66 false f66)]
noncomputable def L36 (f66 : Cue × Int × Unit → Option (Int × Unit)) : LEnv (densS (muts p36 ++ r36)) := lenv [(0, loopL (R := densS (muts p36 ++ r36)) q36_0 (s36_0 f66))]
theorem e36_0 (f66 : Cue × Int × Unit → Option (Int × Unit)) (X : Nat → St → Option (densS (muts p36 ++ r36))) (rec K : densS q36_0 → Option (densS (muts p36 ++ r36))) (t : densS q36_0) :
    ev (E36 f66) tab (fun _ => false) (L36 f66) (retK tab p36 r36 Proofs.Try.f36.results.toList) (loopC Proofs.Try.f36 0) (fun i s => cond (Nat.beq i 0) (decK 100 q36_0 s K) (X i s)) (fun s => decK 100 q36_0 s rec) (enc q36_0 t) = s36_0 f66 t rec K := by kernel_rfl
theorem e36 (f66 : Cue × Int × Unit → Option (Int × Unit)) (a : densS p36) : runF (E36 f66) tab (fun _ => false) p36 r36 Proofs.Try.f36 (L36 f66) a = F36 f66 a := by kernel_rfl
theorem ok36 {f66 : Cue × Int × Unit → Option (Int × Unit)} (h66 : OK Proofs.Try.prog 66 (mkE p66 r66 false f66)) : OK Proofs.Try.prog 36 (mkE p36 r36 false (F36 f66)) :=
  fn_ok tab_ok (envL_ok (l := [(66, mkE p66 r66 false f66)]) (OKs.cons h66 OKs.nil)) mixed (ann := (fun _ => false)) (L := L36 f66) (fn := Proofs.Try.f36) (c := bodyC Proofs.Try.f36) (ls := [(0, loopC Proofs.Try.f36 0)]) Proofs.Try.func36 (by kernel_rfl) (by kernel_rfl) (by kernel_rfl) (by kernel_rfl)
    (LoopsP.cons q36_0 (s36_0 f66) rfl (e36_0 f66) LoopsP.nil) (e36 f66)
/-! laws.szGustS -/
def p37 : List SP := [.one (.r .gust), .one (.int .i64)]
def r37 : List SP := [.one (.int .i64)]
noncomputable def F37 (a : List Gust × Int × Unit) : Option (Int × Unit) :=
  cond (decide ((w64 (a.2.1 - (Int.ofNat (List.length a.1)))) < 0)) (some ((-1), ())) (some ((w64 (a.2.1 - (Int.ofNat (List.length a.1)))), ()))
def E37 : Env := envL []
noncomputable def L37 : LEnv (densS (muts p37 ++ r37)) := lenv []
theorem e37 (a : densS p37) : runF (E37) tab (fun _ => false) p37 r37 Proofs.Try.f37 (L37) a = F37 a := by kernel_rfl
theorem ok37 : OK Proofs.Try.prog 37 (mkE p37 r37 false (F37)) :=
  fn_ok tab_ok (envL_ok (l := []) OKs.nil) mixed (ann := (fun _ => false)) (L := L37) (fn := Proofs.Try.f37) (c := bodyC Proofs.Try.f37) (ls := []) Proofs.Try.func37 (by kernel_rfl) (by kernel_rfl) (by kernel_rfl) (by kernel_rfl)
    LoopsP.nil (e37)
/-! laws.szShow -/
def p10 : List SP := [.agg [.r .device, .r .cue, .r .gust, .int .i64], .one (.int .i64)]
def r10 : List SP := [.one (.int .i64)]
noncomputable def F10 (f35 : List Device × Int × Unit → Option (Int × Unit)) (f36 : List Cue × Int × Unit → Option (Int × Unit)) (f37 : List Gust × Int × Unit → Option (Int × Unit)) (a : (List Device × List Cue × List Gust × Int × Unit) × Int × Unit) : Option (Int × Unit) :=
  (f35 (a.1.1, a.2.1, ())).bind fun x1 => cond (decide (x1.1 < 0)) (some ((-1), ())) ((f36 (a.1.2.1, x1.1, ())).bind fun x2 => cond (decide (x2.1 < 0)) (some ((-1), ())) ((f37 (a.1.2.2.1, x2.1, ())).bind fun x3 => cond (decide (x3.1 < 0)) (some ((-1), ())) (some (x3.1, ()))))
def E10 (f35 : List Device × Int × Unit → Option (Int × Unit)) (f36 : List Cue × Int × Unit → Option (Int × Unit)) (f37 : List Gust × Int × Unit → Option (Int × Unit)) : Env := envL [(35, mkE p35 r35 false f35), (36, mkE p36 r36 false f36), (37, mkE p37 r37 false f37)]
noncomputable def L10 (f35 : List Device × Int × Unit → Option (Int × Unit)) (f36 : List Cue × Int × Unit → Option (Int × Unit)) (f37 : List Gust × Int × Unit → Option (Int × Unit)) : LEnv (densS (muts p10 ++ r10)) := lenv []
theorem e10 (f35 : List Device × Int × Unit → Option (Int × Unit)) (f36 : List Cue × Int × Unit → Option (Int × Unit)) (f37 : List Gust × Int × Unit → Option (Int × Unit)) (a : densS p10) : runF (E10 f35 f36 f37) tab (fun _ => false) p10 r10 Proofs.Try.f10 (L10 f35 f36 f37) a = F10 f35 f36 f37 a := by kernel_rfl
theorem ok10 {f35 : List Device × Int × Unit → Option (Int × Unit)} {f36 : List Cue × Int × Unit → Option (Int × Unit)} {f37 : List Gust × Int × Unit → Option (Int × Unit)} (h35 : OK Proofs.Try.prog 35 (mkE p35 r35 false f35)) (h36 : OK Proofs.Try.prog 36 (mkE p36 r36 false f36)) (h37 : OK Proofs.Try.prog 37 (mkE p37 r37 false f37)) : OK Proofs.Try.prog 10 (mkE p10 r10 false (F10 f35 f36 f37)) :=
  fn_ok tab_ok (envL_ok (l := [(35, mkE p35 r35 false f35), (36, mkE p36 r36 false f36), (37, mkE p37 r37 false f37)]) (OKs.cons h35 (OKs.cons h36 (OKs.cons h37 OKs.nil)))) mixed (ann := (fun _ => false)) (L := L10 f35 f36 f37) (fn := Proofs.Try.f10) (c := bodyC Proofs.Try.f10) (ls := []) Proofs.Try.func10 (by kernel_rfl) (by kernel_rfl) (by kernel_rfl) (by kernel_rfl)
    LoopsP.nil (e10 f35 f36 f37)
/-! laws.toPlace -/
def p106 : List SP := [.t .place]
def r106 : List SP := [.t .place]
noncomputable def F106 (a : Place × Unit) : Option (Place × Unit) :=
  some (a.1, ())
def E106 : Env := envL []
noncomputable def L106 : LEnv (densS (muts p106 ++ r106)) := lenv []
theorem e106 (a : densS p106) : runF (E106) tab (fun _ => false) p106 r106 Proofs.Try.f106 (L106) a = F106 a := by kernel_rfl
theorem ok106 : OK Proofs.Try.prog 106 (mkE p106 r106 false (F106)) :=
  fn_ok tab_ok (envL_ok (l := []) OKs.nil) mixed (ann := (fun _ => false)) (L := L106) (fn := Proofs.Try.f106) (c := bodyC Proofs.Try.f106) (ls := []) Proofs.Try.func106 (by kernel_rfl) (by kernel_rfl) (by kernel_rfl) (by kernel_rfl)
    LoopsP.nil (e106)
/-! laws.toDevice -/
def p74 : List SP := [.t .device]
def r74 : List SP := [.t .device]
noncomputable def F74 (f106 : Place × Unit → Option (Place × Unit)) (a : Device × Unit) : Option (Device × Unit) :=
  (f106 (a.1.At, ())).bind fun x1 => some ((⟨a.1.Name, a.1.Kind, a.1.Line, ⟨x1.1.X, x1.1.Y⟩, a.1.Heading, a.1.Tilt, a.1.Most⟩ : Device), ())
def E74 (f106 : Place × Unit → Option (Place × Unit)) : Env := envL [(106, mkE p106 r106 false f106)]
noncomputable def L74 (f106 : Place × Unit → Option (Place × Unit)) : LEnv (densS (muts p74 ++ r74)) := lenv []
theorem e74 (f106 : Place × Unit → Option (Place × Unit)) (a : densS p74) : runF (E74 f106) tab (fun _ => false) p74 r74 Proofs.Try.f74 (L74 f106) a = F74 f106 a := by kernel_rfl
theorem ok74 {f106 : Place × Unit → Option (Place × Unit)} (h106 : OK Proofs.Try.prog 106 (mkE p106 r106 false f106)) : OK Proofs.Try.prog 74 (mkE p74 r74 false (F74 f106)) :=
  fn_ok tab_ok (envL_ok (l := [(106, mkE p106 r106 false f106)]) (OKs.cons h106 OKs.nil)) mixed (ann := (fun _ => false)) (L := L74 f106) (fn := Proofs.Try.f74) (c := bodyC Proofs.Try.f74) (ls := []) Proofs.Try.func74 (by kernel_rfl) (by kernel_rfl) (by kernel_rfl) (by kernel_rfl)
    LoopsP.nil (e74 f106)
/-! laws.toDeviceS -/
def p40 : List SP := [.one (.r .device)]
def r40 : List SP := [.one (.o 0 .device)]
def q40_0 : List SP := pat 23 0 [(0, .one (.r .device)), (3, .one (.o 5000001 .device)), (4, .one (.int .i64))]
noncomputable def s40_0 (f74 : Device × Unit → Option (Device × Unit)) (t1 : List Device × List Device × Int × Unit) (rec K : List Device × List Device × Int × Unit → Option (List Device × Unit)) : Option (List Device × Unit) :=
  cond (decide (t1.2.2.1 < (Int.ofNat (List.length t1.1)))) (rdL t1.1 t1.2.2.1 fun d2 => (f74 (d2, ())).bind fun x3 => rdL t1.2.1 t1.2.2.1 fun _ => (t1.2.1[(Int.toNat t1.2.2.1)]?).bind fun d4 => rec (t1.1, (List.set t1.2.1 (Int.toNat t1.2.2.1) x3.1), (w64 (t1.2.2.1 + 1)), ())) (K (t1.1, t1.2.1, t1.2.2.1, ()))
noncomputable def F40 (f74 : Device × Unit → Option (Device × Unit)) (a : List Device × Unit) : Option (List Device × Unit) :=
  okIf (0 ≤ (Int.ofNat (List.length a.1))) (capK (Int.toNat (Int.ofNat (List.length a.1))) (iterF (s40_0 f74) fuel (a.1, (List.replicate (Int.toNat (Int.ofNat (List.length a.1))) (Ty.zero .device)), 0, ()) fun t5 => some (t5.2.1, ())))
def E40 (f74 : Device × Unit → Option (Device × Unit)) : Env := envL [(74, mkE p74 r74 false f74)]
noncomputable def L40 (f74 : Device × Unit → Option (Device × Unit)) : LEnv (densS (muts p40 ++ r40)) := lenv [(0, loopL (R := densS (muts p40 ++ r40)) q40_0 (s40_0 f74))]
theorem e40_0 (f74 : Device × Unit → Option (Device × Unit)) (X : Nat → St → Option (densS (muts p40 ++ r40))) (rec K : densS q40_0 → Option (densS (muts p40 ++ r40))) (t : densS q40_0) :
    ev (E40 f74) tab (fun _ => false) (L40 f74) (retK tab p40 r40 Proofs.Try.f40.results.toList) (loopC Proofs.Try.f40 0) (fun i s => cond (Nat.beq i 0) (decK 100 q40_0 s K) (X i s)) (fun s => decK 100 q40_0 s rec) (enc q40_0 t) = s40_0 f74 t rec K := by kernel_rfl
theorem e40 (f74 : Device × Unit → Option (Device × Unit)) (a : densS p40) : runF (E40 f74) tab (fun _ => false) p40 r40 Proofs.Try.f40 (L40 f74) a = F40 f74 a := by kernel_rfl
theorem ok40 {f74 : Device × Unit → Option (Device × Unit)} (h74 : OK Proofs.Try.prog 74 (mkE p74 r74 false f74)) : OK Proofs.Try.prog 40 (mkE p40 r40 false (F40 f74)) :=
  fn_ok tab_ok (envL_ok (l := [(74, mkE p74 r74 false f74)]) (OKs.cons h74 OKs.nil)) mixed (ann := (fun _ => false)) (L := L40 f74) (fn := Proofs.Try.f40) (c := bodyC Proofs.Try.f40) (ls := [(0, loopC Proofs.Try.f40 0)]) Proofs.Try.func40 (by kernel_rfl) (by kernel_rfl) (by kernel_rfl) (by kernel_rfl)
    (LoopsP.cons q40_0 (s40_0 f74) rfl (e40_0 f74) LoopsP.nil) (e40 f74)
/-! laws.toCue -/
def p75 : List SP := [.t .cue]
def r75 : List SP := [.t .cue]
noncomputable def F75 (a : Cue × Unit) : Option (Cue × Unit) :=
  some (a.1, ())
def E75 : Env := envL []
noncomputable def L75 : LEnv (densS (muts p75 ++ r75)) := lenv []
theorem e75 (a : densS p75) : runF (E75) tab (fun _ => false) p75 r75 Proofs.Try.f75 (L75) a = F75 a := by kernel_rfl
theorem ok75 : OK Proofs.Try.prog 75 (mkE p75 r75 false (F75)) :=
  fn_ok tab_ok (envL_ok (l := []) OKs.nil) mixed (ann := (fun _ => false)) (L := L75) (fn := Proofs.Try.f75) (c := bodyC Proofs.Try.f75) (ls := []) Proofs.Try.func75 (by kernel_rfl) (by kernel_rfl) (by kernel_rfl) (by kernel_rfl)
    LoopsP.nil (e75)
/-! laws.toCueS -/
def p41 : List SP := [.one (.r .cue)]
def r41 : List SP := [.one (.o 0 .cue)]
def q41_0 : List SP := pat 23 0 [(0, .one (.r .cue)), (3, .one (.o 5000001 .cue)), (4, .one (.int .i64))]
noncomputable def s41_0 (f75 : Cue × Unit → Option (Cue × Unit)) (t1 : List Cue × List Cue × Int × Unit) (rec K : List Cue × List Cue × Int × Unit → Option (List Cue × Unit)) : Option (List Cue × Unit) :=
  cond (decide (t1.2.2.1 < (Int.ofNat (List.length t1.1)))) (rdL t1.1 t1.2.2.1 fun d2 => (f75 (d2, ())).bind fun x3 => rdL t1.2.1 t1.2.2.1 fun _ => (t1.2.1[(Int.toNat t1.2.2.1)]?).bind fun d4 => rec (t1.1, (List.set t1.2.1 (Int.toNat t1.2.2.1) x3.1), (w64 (t1.2.2.1 + 1)), ())) (K (t1.1, t1.2.1, t1.2.2.1, ()))
noncomputable def F41 (f75 : Cue × Unit → Option (Cue × Unit)) (a : List Cue × Unit) : Option (List Cue × Unit) :=
  okIf (0 ≤ (Int.ofNat (List.length a.1))) (capK (Int.toNat (Int.ofNat (List.length a.1))) (iterF (s41_0 f75) fuel (a.1, (List.replicate (Int.toNat (Int.ofNat (List.length a.1))) (Ty.zero .cue)), 0, ()) fun t5 => some (t5.2.1, ())))
def E41 (f75 : Cue × Unit → Option (Cue × Unit)) : Env := envL [(75, mkE p75 r75 false f75)]
noncomputable def L41 (f75 : Cue × Unit → Option (Cue × Unit)) : LEnv (densS (muts p41 ++ r41)) := lenv [(0, loopL (R := densS (muts p41 ++ r41)) q41_0 (s41_0 f75))]
theorem e41_0 (f75 : Cue × Unit → Option (Cue × Unit)) (X : Nat → St → Option (densS (muts p41 ++ r41))) (rec K : densS q41_0 → Option (densS (muts p41 ++ r41))) (t : densS q41_0) :
    ev (E41 f75) tab (fun _ => false) (L41 f75) (retK tab p41 r41 Proofs.Try.f41.results.toList) (loopC Proofs.Try.f41 0) (fun i s => cond (Nat.beq i 0) (decK 100 q41_0 s K) (X i s)) (fun s => decK 100 q41_0 s rec) (enc q41_0 t) = s41_0 f75 t rec K := by kernel_rfl
theorem e41 (f75 : Cue × Unit → Option (Cue × Unit)) (a : densS p41) : runF (E41 f75) tab (fun _ => false) p41 r41 Proofs.Try.f41 (L41 f75) a = F41 f75 a := by kernel_rfl
theorem ok41 {f75 : Cue × Unit → Option (Cue × Unit)} (h75 : OK Proofs.Try.prog 75 (mkE p75 r75 false f75)) : OK Proofs.Try.prog 41 (mkE p41 r41 false (F41 f75)) :=
  fn_ok tab_ok (envL_ok (l := [(75, mkE p75 r75 false f75)]) (OKs.cons h75 OKs.nil)) mixed (ann := (fun _ => false)) (L := L41 f75) (fn := Proofs.Try.f41) (c := bodyC Proofs.Try.f41) (ls := [(0, loopC Proofs.Try.f41 0)]) Proofs.Try.func41 (by kernel_rfl) (by kernel_rfl) (by kernel_rfl) (by kernel_rfl)
    (LoopsP.cons q41_0 (s41_0 f75) rfl (e41_0 f75) LoopsP.nil) (e41 f75)
/-! laws.toGust -/
def p76 : List SP := [.t .gust]
def r76 : List SP := [.t .gust]
noncomputable def F76 (f106 : Place × Unit → Option (Place × Unit)) (a : Gust × Unit) : Option (Gust × Unit) :=
  (f106 (a.1.Drift, ())).bind fun x1 => some ((⟨a.1.From, ⟨x1.1.X, x1.1.Y⟩⟩ : Gust), ())
def E76 (f106 : Place × Unit → Option (Place × Unit)) : Env := envL [(106, mkE p106 r106 false f106)]
noncomputable def L76 (f106 : Place × Unit → Option (Place × Unit)) : LEnv (densS (muts p76 ++ r76)) := lenv []
theorem e76 (f106 : Place × Unit → Option (Place × Unit)) (a : densS p76) : runF (E76 f106) tab (fun _ => false) p76 r76 Proofs.Try.f76 (L76 f106) a = F76 f106 a := by kernel_rfl
theorem ok76 {f106 : Place × Unit → Option (Place × Unit)} (h106 : OK Proofs.Try.prog 106 (mkE p106 r106 false f106)) : OK Proofs.Try.prog 76 (mkE p76 r76 false (F76 f106)) :=
  fn_ok tab_ok (envL_ok (l := [(106, mkE p106 r106 false f106)]) (OKs.cons h106 OKs.nil)) mixed (ann := (fun _ => false)) (L := L76 f106) (fn := Proofs.Try.f76) (c := bodyC Proofs.Try.f76) (ls := []) Proofs.Try.func76 (by kernel_rfl) (by kernel_rfl) (by kernel_rfl) (by kernel_rfl)
    LoopsP.nil (e76 f106)
/-! laws.toGustS -/
def p42 : List SP := [.one (.r .gust)]
def r42 : List SP := [.one (.o 0 .gust)]
def q42_0 : List SP := pat 23 0 [(0, .one (.r .gust)), (3, .one (.o 5000001 .gust)), (4, .one (.int .i64))]
noncomputable def s42_0 (f76 : Gust × Unit → Option (Gust × Unit)) (t1 : List Gust × List Gust × Int × Unit) (rec K : List Gust × List Gust × Int × Unit → Option (List Gust × Unit)) : Option (List Gust × Unit) :=
  cond (decide (t1.2.2.1 < (Int.ofNat (List.length t1.1)))) (rdL t1.1 t1.2.2.1 fun d2 => (f76 (d2, ())).bind fun x3 => rdL t1.2.1 t1.2.2.1 fun _ => (t1.2.1[(Int.toNat t1.2.2.1)]?).bind fun d4 => rec (t1.1, (List.set t1.2.1 (Int.toNat t1.2.2.1) x3.1), (w64 (t1.2.2.1 + 1)), ())) (K (t1.1, t1.2.1, t1.2.2.1, ()))
noncomputable def F42 (f76 : Gust × Unit → Option (Gust × Unit)) (a : List Gust × Unit) : Option (List Gust × Unit) :=
  okIf (0 ≤ (Int.ofNat (List.length a.1))) (capK (Int.toNat (Int.ofNat (List.length a.1))) (iterF (s42_0 f76) fuel (a.1, (List.replicate (Int.toNat (Int.ofNat (List.length a.1))) (Ty.zero .gust)), 0, ()) fun t5 => some (t5.2.1, ())))
def E42 (f76 : Gust × Unit → Option (Gust × Unit)) : Env := envL [(76, mkE p76 r76 false f76)]
noncomputable def L42 (f76 : Gust × Unit → Option (Gust × Unit)) : LEnv (densS (muts p42 ++ r42)) := lenv [(0, loopL (R := densS (muts p42 ++ r42)) q42_0 (s42_0 f76))]
theorem e42_0 (f76 : Gust × Unit → Option (Gust × Unit)) (X : Nat → St → Option (densS (muts p42 ++ r42))) (rec K : densS q42_0 → Option (densS (muts p42 ++ r42))) (t : densS q42_0) :
    ev (E42 f76) tab (fun _ => false) (L42 f76) (retK tab p42 r42 Proofs.Try.f42.results.toList) (loopC Proofs.Try.f42 0) (fun i s => cond (Nat.beq i 0) (decK 100 q42_0 s K) (X i s)) (fun s => decK 100 q42_0 s rec) (enc q42_0 t) = s42_0 f76 t rec K := by kernel_rfl
theorem e42 (f76 : Gust × Unit → Option (Gust × Unit)) (a : densS p42) : runF (E42 f76) tab (fun _ => false) p42 r42 Proofs.Try.f42 (L42 f76) a = F42 f76 a := by kernel_rfl
theorem ok42 {f76 : Gust × Unit → Option (Gust × Unit)} (h76 : OK Proofs.Try.prog 76 (mkE p76 r76 false f76)) : OK Proofs.Try.prog 42 (mkE p42 r42 false (F42 f76)) :=
  fn_ok tab_ok (envL_ok (l := [(76, mkE p76 r76 false f76)]) (OKs.cons h76 OKs.nil)) mixed (ann := (fun _ => false)) (L := L42 f76) (fn := Proofs.Try.f42) (c := bodyC Proofs.Try.f42) (ls := [(0, loopC Proofs.Try.f42 0)]) Proofs.Try.func42 (by kernel_rfl) (by kernel_rfl) (by kernel_rfl) (by kernel_rfl)
    (LoopsP.cons q42_0 (s42_0 f76) rfl (e42_0 f76) LoopsP.nil) (e42 f76)
/-! laws.toShow -/
def p12 : List SP := [.agg [.r .device, .r .cue, .r .gust, .int .i64]]
def r12 : List SP := [.agg [.o 0 .device, .o 1 .cue, .o 2 .gust, .int .i64]]
noncomputable def F12 (f40 : List Device × Unit → Option (List Device × Unit)) (f41 : List Cue × Unit → Option (List Cue × Unit)) (f42 : List Gust × Unit → Option (List Gust × Unit)) (a : (List Device × List Cue × List Gust × Int × Unit) × Unit) : Option ((List Device × List Cue × List Gust × Int × Unit) × Unit) :=
  (f40 (a.1.1, ())).bind fun x1 => (f41 (a.1.2.1, ())).bind fun x2 => (f42 (a.1.2.2.1, ())).bind fun x3 => some ((x1.1, x2.1, x3.1, a.1.2.2.2.1, ()), ())
def E12 (f40 : List Device × Unit → Option (List Device × Unit)) (f41 : List Cue × Unit → Option (List Cue × Unit)) (f42 : List Gust × Unit → Option (List Gust × Unit)) : Env := envL [(40, mkE p40 r40 false f40), (41, mkE p41 r41 false f41), (42, mkE p42 r42 false f42)]
noncomputable def L12 (f40 : List Device × Unit → Option (List Device × Unit)) (f41 : List Cue × Unit → Option (List Cue × Unit)) (f42 : List Gust × Unit → Option (List Gust × Unit)) : LEnv (densS (muts p12 ++ r12)) := lenv []
theorem e12 (f40 : List Device × Unit → Option (List Device × Unit)) (f41 : List Cue × Unit → Option (List Cue × Unit)) (f42 : List Gust × Unit → Option (List Gust × Unit)) (a : densS p12) : runF (E12 f40 f41 f42) tab (fun _ => false) p12 r12 Proofs.Try.f12 (L12 f40 f41 f42) a = F12 f40 f41 f42 a := by kernel_rfl
theorem ok12 {f40 : List Device × Unit → Option (List Device × Unit)} {f41 : List Cue × Unit → Option (List Cue × Unit)} {f42 : List Gust × Unit → Option (List Gust × Unit)} (h40 : OK Proofs.Try.prog 40 (mkE p40 r40 false f40)) (h41 : OK Proofs.Try.prog 41 (mkE p41 r41 false f41)) (h42 : OK Proofs.Try.prog 42 (mkE p42 r42 false f42)) : OK Proofs.Try.prog 12 (mkE p12 r12 false (F12 f40 f41 f42)) :=
  fn_ok tab_ok (envL_ok (l := [(40, mkE p40 r40 false f40), (41, mkE p41 r41 false f41), (42, mkE p42 r42 false f42)]) (OKs.cons h40 (OKs.cons h41 (OKs.cons h42 OKs.nil)))) mixed (ann := (fun _ => false)) (L := L12 f40 f41 f42) (fn := Proofs.Try.f12) (c := bodyC Proofs.Try.f12) (ls := []) Proofs.Try.func12 (by kernel_rfl) (by kernel_rfl) (by kernel_rfl) (by kernel_rfl)
    LoopsP.nil (e12 f40 f41 f42)
/-! spec.IsName -/
def p117 : List SP := [.one (.str)]
def r117 : List SP := [.one (.bool)]
def q117_0 : List SP := pat 50 0 [(0, .one (.str)), (3, .one (.int .i64))]
noncomputable def s117_0 (t1 : Str × Int × Unit) (rec K : Str × Int × Unit → Option (Bool × Unit)) : Option (Bool × Unit) :=
  cond (decide (t1.2.1 < (Int.ofNat (List.length t1.1)))) (rdL t1.1 t1.2.1 fun d2 => cond (decide ((Int.ofNat (UInt8.toNat d2)) ≥ 97)) (rdL t1.1 t1.2.1 fun d3 => rdL t1.1 t1.2.1 fun d4 => cond (decide ((Int.ofNat (UInt8.toNat d4)) ≥ 48)) (rdL t1.1 t1.2.1 fun d5 => cond (!(decide ((Int.ofNat (UInt8.toNat d3)) ≤ 122))) (cond (!(!(decide ((Int.ofNat (UInt8.toNat d5)) ≤ 57)))) (cond (decide (t1.2.1 = 0)) (some (false, ())) (rec (t1.1, (w64 (t1.2.1 + 1)), ()))) (some (false, ()))) (rec (t1.1, (w64 (t1.2.1 + 1)), ()))) (cond (!(decide ((Int.ofNat (UInt8.toNat d3)) ≤ 122))) (some (false, ())) (rec (t1.1, (w64 (t1.2.1 + 1)), ())))) (rdL t1.1 t1.2.1 fun d6 => cond (decide ((Int.ofNat (UInt8.toNat d6)) ≥ 48)) (rdL t1.1 t1.2.1 fun d7 => cond (!(!(decide ((Int.ofNat (UInt8.toNat d7)) ≤ 57)))) (cond (decide (t1.2.1 = 0)) (some (false, ())) (rec (t1.1, (w64 (t1.2.1 + 1)), ()))) (some (false, ()))) (some (false, ())))) (K (t1.1, t1.2.1, ()))
noncomputable def F117 (a : Str × Unit) : Option (Bool × Unit) :=
  iterF (s117_0) fuel (a.1, 0, ()) fun t8 => cond (decide ((Int.ofNat (List.length t8.1)) > 0)) (some ((decide ((Int.ofNat (List.length t8.1)) ≤ 8)), ())) (some (false, ()))
def E117 : Env := envL []
noncomputable def L117 : LEnv (densS (muts p117 ++ r117)) := lenv [(0, loopL (R := densS (muts p117 ++ r117)) q117_0 (s117_0))]
theorem e117_0 (X : Nat → St → Option (densS (muts p117 ++ r117))) (rec K : densS q117_0 → Option (densS (muts p117 ++ r117))) (t : densS q117_0) :
    ev (E117) tab (fun _ => false) (L117) (retK tab p117 r117 Proofs.Try.f117.results.toList) (loopC Proofs.Try.f117 0) (fun i s => cond (Nat.beq i 0) (decK 100 q117_0 s K) (X i s)) (fun s => decK 100 q117_0 s rec) (enc q117_0 t) = s117_0 t rec K := by kernel_rfl
theorem e117 (a : densS p117) : runF (E117) tab (fun _ => false) p117 r117 Proofs.Try.f117 (L117) a = F117 a := by kernel_rfl
theorem ok117 : OK Proofs.Try.prog 117 (mkE p117 r117 false (F117)) :=
  fn_ok tab_ok (envL_ok (l := []) OKs.nil) mixed (ann := (fun _ => false)) (L := L117) (fn := Proofs.Try.f117) (c := bodyC Proofs.Try.f117) (ls := [(0, loopC Proofs.Try.f117 0)]) Proofs.Try.func117 (by kernel_rfl) (by kernel_rfl) (by kernel_rfl) (by kernel_rfl)
    (LoopsP.cons q117_0 (s117_0) rfl (e117_0) LoopsP.nil) (e117)
/-! spec.l1In -/
def p70 : List SP := [.one (.int .i64), .one (.int .i64), .one (.int .i64)]
def r70 : List SP := [.one (.bool)]
noncomputable def F70 (a : Int × Int × Int × Unit) : Option (Bool × Unit) :=
  cond (decide (a.1 ≥ a.2.1)) (some ((decide (a.1 ≤ a.2.2.1)), ())) (some (false, ()))
def E70 : Env := envL []
noncomputable def L70 : LEnv (densS (muts p70 ++ r70)) := lenv []
theorem e70 (a : densS p70) : runF (E70) tab (fun _ => false) p70 r70 Proofs.Try.f70 (L70) a = F70 a := by kernel_rfl
theorem ok70 : OK Proofs.Try.prog 70 (mkE p70 r70 false (F70)) :=
  fn_ok tab_ok (envL_ok (l := []) OKs.nil) mixed (ann := (fun _ => false)) (L := L70) (fn := Proofs.Try.f70) (c := bodyC Proofs.Try.f70) (ls := []) Proofs.Try.func70 (by kernel_rfl) (by kernel_rfl) (by kernel_rfl) (by kernel_rfl)
    LoopsP.nil (e70)
/-! spec.l5Supply -/
def p102 : List SP := [.one (.int .i64)]
def r102 : List SP := [.one (.bool)]
noncomputable def F102 (f70 : Int × Int × Int × Unit → Option (Bool × Unit)) (a : Int × Unit) : Option (Bool × Unit) :=
  (f70 (a.1, 0, 512, ())).bind fun x1 => some (x1.1, ())
def E102 (f70 : Int × Int × Int × Unit → Option (Bool × Unit)) : Env := envL [(70, mkE p70 r70 false f70)]
noncomputable def L102 (f70 : Int × Int × Int × Unit → Option (Bool × Unit)) : LEnv (densS (muts p102 ++ r102)) := lenv []
theorem e102 (f70 : Int × Int × Int × Unit → Option (Bool × Unit)) (a : densS p102) : runF (E102 f70) tab (fun _ => false) p102 r102 Proofs.Try.f102 (L102 f70) a = F102 f70 a := by kernel_rfl
theorem ok102 {f70 : Int × Int × Int × Unit → Option (Bool × Unit)} (h70 : OK Proofs.Try.prog 70 (mkE p70 r70 false f70)) : OK Proofs.Try.prog 102 (mkE p102 r102 false (F102 f70)) :=
  fn_ok tab_ok (envL_ok (l := [(70, mkE p70 r70 false f70)]) (OKs.cons h70 OKs.nil)) mixed (ann := (fun _ => false)) (L := L102 f70) (fn := Proofs.Try.f102) (c := bodyC Proofs.Try.f102) (ls := []) Proofs.Try.func102 (by kernel_rfl) (by kernel_rfl) (by kernel_rfl) (by kernel_rfl)
    LoopsP.nil (e102 f70)
/-! spec.IsHeading -/
def p114 : List SP := [.one (.int .i64)]
def r114 : List SP := [.one (.bool)]
noncomputable def F114 (a : Int × Unit) : Option (Bool × Unit) :=
  cond (decide (a.1 ≥ 0)) (some ((decide (a.1 ≤ 3)), ())) (some (false, ()))
def E114 : Env := envL []
noncomputable def L114 : LEnv (densS (muts p114 ++ r114)) := lenv []
theorem e114 (a : densS p114) : runF (E114) tab (fun _ => false) p114 r114 Proofs.Try.f114 (L114) a = F114 a := by kernel_rfl
theorem ok114 : OK Proofs.Try.prog 114 (mkE p114 r114 false (F114)) :=
  fn_ok tab_ok (envL_ok (l := []) OKs.nil) mixed (ann := (fun _ => false)) (L := L114) (fn := Proofs.Try.f114) (c := bodyC Proofs.Try.f114) (ls := []) Proofs.Try.func114 (by kernel_rfl) (by kernel_rfl) (by kernel_rfl) (by kernel_rfl)
    LoopsP.nil (e114)
/-! spec.IsJet -/
def p91 : List SP := [.t .jet]
def r91 : List SP := [.one (.bool)]
noncomputable def F91 (f70 : Int × Int × Int × Unit → Option (Bool × Unit)) (f114 : Int × Unit → Option (Bool × Unit)) (a : Jet × Unit) : Option (Bool × Unit) :=
  (f70 (a.1.At.X, (-1024), 1024, ())).bind fun x1 => cond x1.1 ((f70 (a.1.At.Y, (-1024), 1024, ())).bind fun x2 => cond x2.1 ((f114 (a.1.Heading, ())).bind fun x3 => cond x3.1 ((f70 (a.1.Tilt, 0, 16, ())).bind fun x4 => cond x4.1 ((f70 (a.1.Lift, 1, 32, ())).bind fun x5 => some (x5.1, ())) (some (false, ()))) (some (false, ()))) (some (false, ()))) (some (false, ()))
def E91 (f70 : Int × Int × Int × Unit → Option (Bool × Unit)) (f114 : Int × Unit → Option (Bool × Unit)) : Env := envL [(70, mkE p70 r70 false f70), (114, mkE p114 r114 false f114)]
noncomputable def L91 (f70 : Int × Int × Int × Unit → Option (Bool × Unit)) (f114 : Int × Unit → Option (Bool × Unit)) : LEnv (densS (muts p91 ++ r91)) := lenv []
theorem e91 (f70 : Int × Int × Int × Unit → Option (Bool × Unit)) (f114 : Int × Unit → Option (Bool × Unit)) (a : densS p91) : runF (E91 f70 f114) tab (fun _ => false) p91 r91 Proofs.Try.f91 (L91 f70 f114) a = F91 f70 f114 a := by kernel_rfl
theorem ok91 {f70 : Int × Int × Int × Unit → Option (Bool × Unit)} {f114 : Int × Unit → Option (Bool × Unit)} (h70 : OK Proofs.Try.prog 70 (mkE p70 r70 false f70)) (h114 : OK Proofs.Try.prog 114 (mkE p114 r114 false f114)) : OK Proofs.Try.prog 91 (mkE p91 r91 false (F91 f70 f114)) :=
  fn_ok tab_ok (envL_ok (l := [(70, mkE p70 r70 false f70), (114, mkE p114 r114 false f114)]) (OKs.cons h70 (OKs.cons h114 OKs.nil))) mixed (ann := (fun _ => false)) (L := L91 f70 f114) (fn := Proofs.Try.f91) (c := bodyC Proofs.Try.f91) (ls := []) Proofs.Try.func91 (by kernel_rfl) (by kernel_rfl) (by kernel_rfl) (by kernel_rfl)
    LoopsP.nil (e91 f70 f114)
/-! spec.l6Jet -/
def p118 : List SP := [.t .device]
def r118 : List SP := [.one (.bool)]
noncomputable def F118 (f91 : Jet × Unit → Option (Bool × Unit)) (a : Device × Unit) : Option (Bool × Unit) :=
  (f91 ((⟨⟨a.1.At.X, a.1.At.Y⟩, a.1.Heading, a.1.Tilt, 1⟩ : Jet), ())).bind fun x1 => some (x1.1, ())
def E118 (f91 : Jet × Unit → Option (Bool × Unit)) : Env := envL [(91, mkE p91 r91 false f91)]
noncomputable def L118 (f91 : Jet × Unit → Option (Bool × Unit)) : LEnv (densS (muts p118 ++ r118)) := lenv []
theorem e118 (f91 : Jet × Unit → Option (Bool × Unit)) (a : densS p118) : runF (E118 f91) tab (fun _ => false) p118 r118 Proofs.Try.f118 (L118 f91) a = F118 f91 a := by kernel_rfl
theorem ok118 {f91 : Jet × Unit → Option (Bool × Unit)} (h91 : OK Proofs.Try.prog 91 (mkE p91 r91 false f91)) : OK Proofs.Try.prog 118 (mkE p118 r118 false (F118 f91)) :=
  fn_ok tab_ok (envL_ok (l := [(91, mkE p91 r91 false f91)]) (OKs.cons h91 OKs.nil)) mixed (ann := (fun _ => false)) (L := L118 f91) (fn := Proofs.Try.f118) (c := bodyC Proofs.Try.f118) (ls := []) Proofs.Try.func118 (by kernel_rfl) (by kernel_rfl) (by kernel_rfl) (by kernel_rfl)
    LoopsP.nil (e118 f91)
/-! spec.IsMeasure -/
def p120 : List SP := [.one (.int .i64)]
def r120 : List SP := [.one (.bool)]
noncomputable def F120 (a : Int × Unit) : Option (Bool × Unit) :=
  cond (decide (a.1 ≥ (-4096))) (some ((decide (a.1 ≤ 4096)), ())) (some (false, ()))
def E120 : Env := envL []
noncomputable def L120 : LEnv (densS (muts p120 ++ r120)) := lenv []
theorem e120 (a : densS p120) : runF (E120) tab (fun _ => false) p120 r120 Proofs.Try.f120 (L120) a = F120 a := by kernel_rfl
theorem ok120 : OK Proofs.Try.prog 120 (mkE p120 r120 false (F120)) :=
  fn_ok tab_ok (envL_ok (l := []) OKs.nil) mixed (ann := (fun _ => false)) (L := L120) (fn := Proofs.Try.f120) (c := bodyC Proofs.Try.f120) (ls := []) Proofs.Try.func120 (by kernel_rfl) (by kernel_rfl) (by kernel_rfl) (by kernel_rfl)
    LoopsP.nil (e120)
/-! spec.IsPlace -/
def p119 : List SP := [.t .place]
def r119 : List SP := [.one (.bool)]
noncomputable def F119 (f120 : Int × Unit → Option (Bool × Unit)) (a : Place × Unit) : Option (Bool × Unit) :=
  (f120 (a.1.X, ())).bind fun x1 => cond x1.1 ((f120 (a.1.Y, ())).bind fun x2 => some (x2.1, ())) (some (false, ()))
def E119 (f120 : Int × Unit → Option (Bool × Unit)) : Env := envL [(120, mkE p120 r120 false f120)]
noncomputable def L119 (f120 : Int × Unit → Option (Bool × Unit)) : LEnv (densS (muts p119 ++ r119)) := lenv []
theorem e119 (f120 : Int × Unit → Option (Bool × Unit)) (a : densS p119) : runF (E119 f120) tab (fun _ => false) p119 r119 Proofs.Try.f119 (L119 f120) a = F119 f120 a := by kernel_rfl
theorem ok119 {f120 : Int × Unit → Option (Bool × Unit)} (h120 : OK Proofs.Try.prog 120 (mkE p120 r120 false f120)) : OK Proofs.Try.prog 119 (mkE p119 r119 false (F119 f120)) :=
  fn_ok tab_ok (envL_ok (l := [(120, mkE p120 r120 false f120)]) (OKs.cons h120 OKs.nil)) mixed (ann := (fun _ => false)) (L := L119 f120) (fn := Proofs.Try.f119) (c := bodyC Proofs.Try.f119) (ls := []) Proofs.Try.func119 (by kernel_rfl) (by kernel_rfl) (by kernel_rfl) (by kernel_rfl)
    LoopsP.nil (e119 f120)
/-! spec.IsDevice -/
def p95 : List SP := [.t .device]
def r95 : List SP := [.one (.bool)]
noncomputable def F95 (f117 : Str × Unit → Option (Bool × Unit)) (f102 : Int × Unit → Option (Bool × Unit)) (f118 : Device × Unit → Option (Bool × Unit)) (f70 : Int × Int × Int × Unit → Option (Bool × Unit)) (f119 : Place × Unit → Option (Bool × Unit)) (a : Device × Unit) : Option (Bool × Unit) :=
  (f117 (a.1.Line, ())).bind fun x1 => cond x1.1 ((f117 (a.1.Name, ())).bind fun x2 => cond (!x2.1) (some (false, ())) (cond (decide (a.1.Kind = 1)) ((f102 (a.1.Most, ())).bind fun x3 => cond x3.1 (some ((decide (a.1.Name = a.1.Name) && (decide (a.1.Kind = a.1.Kind) && (decide (a.1.Line = []) && (decide (a.1.At.X = 0) && (decide (a.1.At.Y = 0) && (decide (a.1.Heading = 0) && (decide (a.1.Tilt = 0) && (decide (a.1.Most = a.1.Most) && true)))))))), ())) (some (false, ()))) (cond (decide (a.1.Kind = 2)) (cond (!decide (a.1.Line = a.1.Name)) ((f118 (a.1, ())).bind fun x4 => cond x4.1 ((f70 (a.1.Most, 0, 32, ())).bind fun x5 => some (x5.1, ())) (some (false, ()))) (some (false, ()))) (cond (decide (a.1.Kind = 3)) (cond (!decide (a.1.Line = a.1.Name)) ((f119 (a.1.At, ())).bind fun x6 => cond x6.1 (some ((decide (a.1.Name = a.1.Name) && (decide (a.1.Kind = a.1.Kind) && (decide (a.1.Line = a.1.Line) && (decide (a.1.At.X = a.1.At.X) && (decide (a.1.At.Y = a.1.At.Y) && (decide (a.1.Heading = 0) && (decide (a.1.Tilt = 0) && (decide (a.1.Most = 0) && true)))))))), ())) (some (false, ()))) (some (false, ()))) (some (false, ())))))) ((f117 (a.1.Name, ())).bind fun x7 => cond (!x7.1) (some (false, ())) (cond (decide (a.1.Kind = 1)) ((f102 (a.1.Most, ())).bind fun x8 => cond x8.1 (some ((decide (a.1.Name = a.1.Name) && (decide (a.1.Kind = a.1.Kind) && (decide (a.1.Line = []) && (decide (a.1.At.X = 0) && (decide (a.1.At.Y = 0) && (decide (a.1.Heading = 0) && (decide (a.1.Tilt = 0) && (decide (a.1.Most = a.1.Most) && true)))))))), ())) (some (false, ()))) (cond (decide (a.1.Kind = 2)) (some (false, ())) (cond (decide (a.1.Kind = 3)) (some (false, ())) (some (false, ()))))))
def E95 (f117 : Str × Unit → Option (Bool × Unit)) (f102 : Int × Unit → Option (Bool × Unit)) (f118 : Device × Unit → Option (Bool × Unit)) (f70 : Int × Int × Int × Unit → Option (Bool × Unit)) (f119 : Place × Unit → Option (Bool × Unit)) : Env := envL [(117, mkE p117 r117 false f117), (102, mkE p102 r102 false f102), (118, mkE p118 r118 false f118), (70, mkE p70 r70 false f70), (119, mkE p119 r119 false f119)]
noncomputable def L95 (f117 : Str × Unit → Option (Bool × Unit)) (f102 : Int × Unit → Option (Bool × Unit)) (f118 : Device × Unit → Option (Bool × Unit)) (f70 : Int × Int × Int × Unit → Option (Bool × Unit)) (f119 : Place × Unit → Option (Bool × Unit)) : LEnv (densS (muts p95 ++ r95)) := lenv []
theorem e95 (f117 : Str × Unit → Option (Bool × Unit)) (f102 : Int × Unit → Option (Bool × Unit)) (f118 : Device × Unit → Option (Bool × Unit)) (f70 : Int × Int × Int × Unit → Option (Bool × Unit)) (f119 : Place × Unit → Option (Bool × Unit)) (a : densS p95) : runF (E95 f117 f102 f118 f70 f119) tab (fun _ => false) p95 r95 Proofs.Try.f95 (L95 f117 f102 f118 f70 f119) a = F95 f117 f102 f118 f70 f119 a := by kernel_rfl
theorem ok95 {f117 : Str × Unit → Option (Bool × Unit)} {f102 : Int × Unit → Option (Bool × Unit)} {f118 : Device × Unit → Option (Bool × Unit)} {f70 : Int × Int × Int × Unit → Option (Bool × Unit)} {f119 : Place × Unit → Option (Bool × Unit)} (h117 : OK Proofs.Try.prog 117 (mkE p117 r117 false f117)) (h102 : OK Proofs.Try.prog 102 (mkE p102 r102 false f102)) (h118 : OK Proofs.Try.prog 118 (mkE p118 r118 false f118)) (h70 : OK Proofs.Try.prog 70 (mkE p70 r70 false f70)) (h119 : OK Proofs.Try.prog 119 (mkE p119 r119 false f119)) : OK Proofs.Try.prog 95 (mkE p95 r95 false (F95 f117 f102 f118 f70 f119)) :=
  fn_ok tab_ok (envL_ok (l := [(117, mkE p117 r117 false f117), (102, mkE p102 r102 false f102), (118, mkE p118 r118 false f118), (70, mkE p70 r70 false f70), (119, mkE p119 r119 false f119)]) (OKs.cons h117 (OKs.cons h102 (OKs.cons h118 (OKs.cons h70 (OKs.cons h119 OKs.nil)))))) mixed (ann := (fun _ => false)) (L := L95 f117 f102 f118 f70 f119) (fn := Proofs.Try.f95) (c := bodyC Proofs.Try.f95) (ls := []) Proofs.Try.func95 (by kernel_rfl) (by kernel_rfl) (by kernel_rfl) (by kernel_rfl)
    LoopsP.nil (e95 f117 f102 f118 f70 f119)
/-! spec.FindDevice -/
def p53 : List SP := [.one (.r .device), .one (.str)]
def r53 : List SP := [.one (.int .i64)]
def q53_0 : List SP := pat 20 0 [(1, .one (.str)), (7, .one (.r .device)), (8, .one (.int .i64)), (9, .one (.int .i64))]
noncomputable def s53_0 (t1 : Str × List Device × Int × Int × Unit) (rec K : Str × List Device × Int × Int × Unit → Option (Int × Unit)) : Option (Int × Unit) :=
  cond (decide (t1.2.2.2.1 < t1.2.2.1)) (rdL t1.2.1 t1.2.2.2.1 fun d2 => cond (decide (d2.Name = t1.1)) (some (t1.2.2.2.1, ())) (rec (t1.1, t1.2.1, t1.2.2.1, (w64 (t1.2.2.2.1 + 1)), ()))) (K (t1.1, t1.2.1, t1.2.2.1, t1.2.2.2.1, ()))
noncomputable def F53 (a : List Device × Str × Unit) : Option (Int × Unit) :=
  iterF (s53_0) fuel (a.2.1, a.1, (Int.ofNat (List.length a.1)), 0, ()) fun t3 => some ((-1), ())
def E53 : Env := envL []
noncomputable def L53 : LEnv (densS (muts p53 ++ r53)) := lenv [(0, loopL (R := densS (muts p53 ++ r53)) q53_0 (s53_0))]
theorem e53_0 (X : Nat → St → Option (densS (muts p53 ++ r53))) (rec K : densS q53_0 → Option (densS (muts p53 ++ r53))) (t : densS q53_0) :
    ev (E53) tab (fun _ => false) (L53) (retK tab p53 r53 Proofs.Try.f53.results.toList) (loopC Proofs.Try.f53 0) (fun i s => cond (Nat.beq i 0) (decK 100 q53_0 s K) (X i s)) (fun s => decK 100 q53_0 s rec) (enc q53_0 t) = s53_0 t rec K := by kernel_rfl
theorem e53 (a : densS p53) : runF (E53) tab (fun _ => false) p53 r53 Proofs.Try.f53 (L53) a = F53 a := by kernel_rfl
theorem ok53 : OK Proofs.Try.prog 53 (mkE p53 r53 false (F53)) :=
  fn_ok tab_ok (envL_ok (l := []) OKs.nil) mixed (ann := (fun _ => false)) (L := L53) (fn := Proofs.Try.f53) (c := bodyC Proofs.Try.f53) (ls := [(0, loopC Proofs.Try.f53 0)]) Proofs.Try.func53 (by kernel_rfl) (by kernel_rfl) (by kernel_rfl) (by kernel_rfl)
    (LoopsP.cons q53_0 (s53_0) rfl (e53_0) LoopsP.nil) (e53)
/-! spec.l6Hangs -/
def p96 : List SP := [.one (.r .device), .t .device]
def r96 : List SP := [.one (.bool)]
noncomputable def F96 (f53 : List Device × Str × Unit → Option (Int × Unit)) (a : List Device × Device × Unit) : Option (Bool × Unit) :=
  (f53 (a.1, a.2.1.Line, ())).bind fun x1 => cond (decide (a.2.1.Kind = 2)) (cond (decide (x1.1 ≥ 0)) (rdL a.1 x1.1 fun d2 => some ((decide (d2.Kind = 1)), ())) (some (false, ()))) (cond (decide (a.2.1.Kind = 3)) (cond (decide (x1.1 ≥ 0)) (rdL a.1 x1.1 fun d3 => some ((decide (d3.Kind = 2)), ())) (some (false, ()))) (some (true, ())))
def E96 (f53 : List Device × Str × Unit → Option (Int × Unit)) : Env := envL [(53, mkE p53 r53 false f53)]
noncomputable def L96 (f53 : List Device × Str × Unit → Option (Int × Unit)) : LEnv (densS (muts p96 ++ r96)) := lenv []
theorem e96 (f53 : List Device × Str × Unit → Option (Int × Unit)) (a : densS p96) : runF (E96 f53) tab (fun _ => false) p96 r96 Proofs.Try.f96 (L96 f53) a = F96 f53 a := by kernel_rfl
theorem ok96 {f53 : List Device × Str × Unit → Option (Int × Unit)} (h53 : OK Proofs.Try.prog 53 (mkE p53 r53 false f53)) : OK Proofs.Try.prog 96 (mkE p96 r96 false (F96 f53)) :=
  fn_ok tab_ok (envL_ok (l := [(53, mkE p53 r53 false f53)]) (OKs.cons h53 OKs.nil)) mixed (ann := (fun _ => false)) (L := L96 f53) (fn := Proofs.Try.f96) (c := bodyC Proofs.Try.f96) (ls := []) Proofs.Try.func96 (by kernel_rfl) (by kernel_rfl) (by kernel_rfl) (by kernel_rfl)
    LoopsP.nil (e96 f53)
/-! spec.IsRig -/
def p67 : List SP := [.one (.r .device)]
def r67 : List SP := [.one (.bool)]
def q67_0 : List SP := pat 40 0 [(0, .one (.r .device)), (5, .one (.r .device)), (6, .one (.int .i64)), (7, .one (.int .i64))]
noncomputable def s67_0 (f95 : Device × Unit → Option (Bool × Unit)) (f96 : List Device × Device × Unit → Option (Bool × Unit)) (t1 : List Device × List Device × Int × Int × Unit) (rec K : List Device × List Device × Int × Int × Unit → Option (Bool × Unit)) : Option (Bool × Unit) :=
  cond (decide (t1.2.2.2.1 < t1.2.2.1)) (rdL t1.2.1 t1.2.2.2.1 fun d2 => (f95 (d2, ())).bind fun x3 => cond (!(!x3.1)) (cond (decide (t1.2.2.2.1 > 0)) (rdL t1.1 (w64 (t1.2.2.2.1 - 1)) fun d4 => cond (!(!Op.bytesLess d4.Name d2.Name)) ((f96 (t1.1, d2, ())).bind fun x5 => cond (!x5.1) (some (false, ())) (rec (t1.1, t1.2.1, t1.2.2.1, (w64 (t1.2.2.2.1 + 1)), ()))) (some (false, ()))) ((f96 (t1.1, d2, ())).bind fun x6 => cond (!x6.1) (some (false, ())) (rec (t1.1, t1.2.1, t1.2.2.1, (w64 (t1.2.2.2.1 + 1)), ())))) (some (false, ()))) (K (t1.1, t1.2.1, t1.2.2.1, t1.2.2.2.1, ()))
noncomputable def F67 (f95 : Device × Unit → Option (Bool × Unit)) (f96 : List Device × Device × Unit → Option (Bool × Unit)) (a : List Device × Unit) : Option (Bool × Unit) :=
  iterF (s67_0 f95 f96) fuel (a.1, a.1, (Int.ofNat (List.length a.1)), 0, ()) fun t7 => some ((decide ((Int.ofNat (List.length t7.1)) ≤ 8)), ())
def E67 (f95 : Device × Unit → Option (Bool × Unit)) (f96 : List Device × Device × Unit → Option (Bool × Unit)) : Env := envL [(95, mkE p95 r95 false f95), (96, mkE p96 r96 false f96)]
noncomputable def L67 (f95 : Device × Unit → Option (Bool × Unit)) (f96 : List Device × Device × Unit → Option (Bool × Unit)) : LEnv (densS (muts p67 ++ r67)) := lenv [(0, loopL (R := densS (muts p67 ++ r67)) q67_0 (s67_0 f95 f96))]
theorem e67_0 (f95 : Device × Unit → Option (Bool × Unit)) (f96 : List Device × Device × Unit → Option (Bool × Unit)) (X : Nat → St → Option (densS (muts p67 ++ r67))) (rec K : densS q67_0 → Option (densS (muts p67 ++ r67))) (t : densS q67_0) :
    ev (E67 f95 f96) tab (fun _ => false) (L67 f95 f96) (retK tab p67 r67 Proofs.Try.f67.results.toList) (loopC Proofs.Try.f67 0) (fun i s => cond (Nat.beq i 0) (decK 100 q67_0 s K) (X i s)) (fun s => decK 100 q67_0 s rec) (enc q67_0 t) = s67_0 f95 f96 t rec K := by kernel_rfl
theorem e67 (f95 : Device × Unit → Option (Bool × Unit)) (f96 : List Device × Device × Unit → Option (Bool × Unit)) (a : densS p67) : runF (E67 f95 f96) tab (fun _ => false) p67 r67 Proofs.Try.f67 (L67 f95 f96) a = F67 f95 f96 a := by kernel_rfl
theorem ok67 {f95 : Device × Unit → Option (Bool × Unit)} {f96 : List Device × Device × Unit → Option (Bool × Unit)} (h95 : OK Proofs.Try.prog 95 (mkE p95 r95 false f95)) (h96 : OK Proofs.Try.prog 96 (mkE p96 r96 false f96)) : OK Proofs.Try.prog 67 (mkE p67 r67 false (F67 f95 f96)) :=
  fn_ok tab_ok (envL_ok (l := [(95, mkE p95 r95 false f95), (96, mkE p96 r96 false f96)]) (OKs.cons h95 (OKs.cons h96 OKs.nil))) mixed (ann := (fun _ => false)) (L := L67 f95 f96) (fn := Proofs.Try.f67) (c := bodyC Proofs.Try.f67) (ls := [(0, loopC Proofs.Try.f67 0)]) Proofs.Try.func67 (by kernel_rfl) (by kernel_rfl) (by kernel_rfl) (by kernel_rfl)
    (LoopsP.cons q67_0 (s67_0 f95 f96) rfl (e67_0 f95 f96) LoopsP.nil) (e67 f95 f96)
/-! spec.IsCue -/
def p97 : List SP := [.t .cue]
def r97 : List SP := [.one (.bool)]
noncomputable def F97 (f70 : Int × Int × Int × Unit → Option (Bool × Unit)) (f117 : Str × Unit → Option (Bool × Unit)) (a : Cue × Unit) : Option (Bool × Unit) :=
  (f70 (a.1.Tick, 0, 64, ())).bind fun x1 => cond x1.1 ((f117 (a.1.Name, ())).bind fun x2 => cond x2.1 ((f70 (a.1.Level, 0, 32, ())).bind fun x3 => cond x3.1 ((f70 (a.1.Ramp, 0, 16, ())).bind fun x4 => some (x4.1, ())) (some (false, ()))) (some (false, ()))) (some (false, ()))
def E97 (f70 : Int × Int × Int × Unit → Option (Bool × Unit)) (f117 : Str × Unit → Option (Bool × Unit)) : Env := envL [(70, mkE p70 r70 false f70), (117, mkE p117 r117 false f117)]
noncomputable def L97 (f70 : Int × Int × Int × Unit → Option (Bool × Unit)) (f117 : Str × Unit → Option (Bool × Unit)) : LEnv (densS (muts p97 ++ r97)) := lenv []
theorem e97 (f70 : Int × Int × Int × Unit → Option (Bool × Unit)) (f117 : Str × Unit → Option (Bool × Unit)) (a : densS p97) : runF (E97 f70 f117) tab (fun _ => false) p97 r97 Proofs.Try.f97 (L97 f70 f117) a = F97 f70 f117 a := by kernel_rfl
theorem ok97 {f70 : Int × Int × Int × Unit → Option (Bool × Unit)} {f117 : Str × Unit → Option (Bool × Unit)} (h70 : OK Proofs.Try.prog 70 (mkE p70 r70 false f70)) (h117 : OK Proofs.Try.prog 117 (mkE p117 r117 false f117)) : OK Proofs.Try.prog 97 (mkE p97 r97 false (F97 f70 f117)) :=
  fn_ok tab_ok (envL_ok (l := [(70, mkE p70 r70 false f70), (117, mkE p117 r117 false f117)]) (OKs.cons h70 (OKs.cons h117 OKs.nil))) mixed (ann := (fun _ => false)) (L := L97 f70 f117) (fn := Proofs.Try.f97) (c := bodyC Proofs.Try.f97) (ls := []) Proofs.Try.func97 (by kernel_rfl) (by kernel_rfl) (by kernel_rfl) (by kernel_rfl)
    LoopsP.nil (e97 f70 f117)
/-! spec.CompareCues -/
def p98 : List SP := [.t .cue, .t .cue]
def r98 : List SP := [.one (.int .i64)]
noncomputable def F98 (a : Cue × Cue × Unit) : Option (Int × Unit) :=
  cond (decide (a.1.Tick < a.2.1.Tick)) (cond (decide (a.1.Tick < a.2.1.Tick)) (some ((-1), ())) (cond (decide (a.1.Tick = a.2.1.Tick)) (cond (decide (a.1.Name = a.2.1.Name)) (some (0, ())) (some (1, ()))) (some (1, ())))) (cond (decide (a.1.Tick = a.2.1.Tick)) (cond (Op.bytesLess a.1.Name a.2.1.Name) (some ((-1), ())) (cond (decide (a.1.Tick = a.2.1.Tick)) (cond (decide (a.1.Name = a.2.1.Name)) (some (0, ())) (some (1, ()))) (some (1, ())))) (cond (decide (a.1.Tick = a.2.1.Tick)) (cond (decide (a.1.Name = a.2.1.Name)) (some (0, ())) (some (1, ()))) (some (1, ()))))
def E98 : Env := envL []
noncomputable def L98 : LEnv (densS (muts p98 ++ r98)) := lenv []
theorem e98 (a : densS p98) : runF (E98) tab (fun _ => false) p98 r98 Proofs.Try.f98 (L98) a = F98 a := by kernel_rfl
theorem ok98 : OK Proofs.Try.prog 98 (mkE p98 r98 false (F98)) :=
  fn_ok tab_ok (envL_ok (l := []) OKs.nil) mixed (ann := (fun _ => false)) (L := L98) (fn := Proofs.Try.f98) (c := bodyC Proofs.Try.f98) (ls := []) Proofs.Try.func98 (by kernel_rfl) (by kernel_rfl) (by kernel_rfl) (by kernel_rfl)
    LoopsP.nil (e98)
/-! spec.IsScore -/
def p68 : List SP := [.one (.r .cue)]
def r68 : List SP := [.one (.bool)]
def q68_0 : List SP := pat 33 0 [(0, .one (.r .cue)), (5, .one (.r .cue)), (6, .one (.int .i64)), (7, .one (.int .i64))]
noncomputable def s68_0 (f97 : Cue × Unit → Option (Bool × Unit)) (f98 : Cue × Cue × Unit → Option (Int × Unit)) (t1 : List Cue × List Cue × Int × Int × Unit) (rec K : List Cue × List Cue × Int × Int × Unit → Option (Bool × Unit)) : Option (Bool × Unit) :=
  cond (decide (t1.2.2.2.1 < t1.2.2.1)) (rdL t1.2.1 t1.2.2.2.1 fun d2 => (f97 (d2, ())).bind fun x3 => cond (!(!x3.1)) (cond (decide (t1.2.2.2.1 > 0)) (rdL t1.1 (w64 (t1.2.2.2.1 - 1)) fun d4 => (f98 (d4, d2, ())).bind fun x5 => cond (decide (x5.1 ≥ 0)) (some (false, ())) (rec (t1.1, t1.2.1, t1.2.2.1, (w64 (t1.2.2.2.1 + 1)), ()))) (rec (t1.1, t1.2.1, t1.2.2.1, (w64 (t1.2.2.2.1 + 1)), ()))) (some (false, ()))) (K (t1.1, t1.2.1, t1.2.2.1, t1.2.2.2.1, ()))
noncomputable def F68 (f97 : Cue × Unit → Option (Bool × Unit)) (f98 : Cue × Cue × Unit → Option (Int × Unit)) (a : List Cue × Unit) : Option (Bool × Unit) :=
  iterF (s68_0 f97 f98) fuel (a.1, a.1, (Int.ofNat (List.length a.1)), 0, ()) fun t6 => some ((decide ((Int.ofNat (List.length t6.1)) ≤ 12)), ())
def E68 (f97 : Cue × Unit → Option (Bool × Unit)) (f98 : Cue × Cue × Unit → Option (Int × Unit)) : Env := envL [(97, mkE p97 r97 false f97), (98, mkE p98 r98 false f98)]
noncomputable def L68 (f97 : Cue × Unit → Option (Bool × Unit)) (f98 : Cue × Cue × Unit → Option (Int × Unit)) : LEnv (densS (muts p68 ++ r68)) := lenv [(0, loopL (R := densS (muts p68 ++ r68)) q68_0 (s68_0 f97 f98))]
theorem e68_0 (f97 : Cue × Unit → Option (Bool × Unit)) (f98 : Cue × Cue × Unit → Option (Int × Unit)) (X : Nat → St → Option (densS (muts p68 ++ r68))) (rec K : densS q68_0 → Option (densS (muts p68 ++ r68))) (t : densS q68_0) :
    ev (E68 f97 f98) tab (fun _ => false) (L68 f97 f98) (retK tab p68 r68 Proofs.Try.f68.results.toList) (loopC Proofs.Try.f68 0) (fun i s => cond (Nat.beq i 0) (decK 100 q68_0 s K) (X i s)) (fun s => decK 100 q68_0 s rec) (enc q68_0 t) = s68_0 f97 f98 t rec K := by kernel_rfl
theorem e68 (f97 : Cue × Unit → Option (Bool × Unit)) (f98 : Cue × Cue × Unit → Option (Int × Unit)) (a : densS p68) : runF (E68 f97 f98) tab (fun _ => false) p68 r68 Proofs.Try.f68 (L68 f97 f98) a = F68 f97 f98 a := by kernel_rfl
theorem ok68 {f97 : Cue × Unit → Option (Bool × Unit)} {f98 : Cue × Cue × Unit → Option (Int × Unit)} (h97 : OK Proofs.Try.prog 97 (mkE p97 r97 false f97)) (h98 : OK Proofs.Try.prog 98 (mkE p98 r98 false f98)) : OK Proofs.Try.prog 68 (mkE p68 r68 false (F68 f97 f98)) :=
  fn_ok tab_ok (envL_ok (l := [(97, mkE p97 r97 false f97), (98, mkE p98 r98 false f98)]) (OKs.cons h97 (OKs.cons h98 OKs.nil))) mixed (ann := (fun _ => false)) (L := L68 f97 f98) (fn := Proofs.Try.f68) (c := bodyC Proofs.Try.f68) (ls := [(0, loopC Proofs.Try.f68 0)]) Proofs.Try.func68 (by kernel_rfl) (by kernel_rfl) (by kernel_rfl) (by kernel_rfl)
    (LoopsP.cons q68_0 (s68_0 f97 f98) rfl (e68_0 f97 f98) LoopsP.nil) (e68 f97 f98)
/-! spec.l4Drift -/
def p99 : List SP := [.t .place]
def r99 : List SP := [.one (.bool)]
noncomputable def F99 (f70 : Int × Int × Int × Unit → Option (Bool × Unit)) (a : Place × Unit) : Option (Bool × Unit) :=
  (f70 (a.1.X, (-8), 8, ())).bind fun x1 => cond x1.1 ((f70 (a.1.Y, (-8), 8, ())).bind fun x2 => some (x2.1, ())) (some (false, ()))
def E99 (f70 : Int × Int × Int × Unit → Option (Bool × Unit)) : Env := envL [(70, mkE p70 r70 false f70)]
noncomputable def L99 (f70 : Int × Int × Int × Unit → Option (Bool × Unit)) : LEnv (densS (muts p99 ++ r99)) := lenv []
theorem e99 (f70 : Int × Int × Int × Unit → Option (Bool × Unit)) (a : densS p99) : runF (E99 f70) tab (fun _ => false) p99 r99 Proofs.Try.f99 (L99 f70) a = F99 f70 a := by kernel_rfl
theorem ok99 {f70 : Int × Int × Int × Unit → Option (Bool × Unit)} (h70 : OK Proofs.Try.prog 70 (mkE p70 r70 false f70)) : OK Proofs.Try.prog 99 (mkE p99 r99 false (F99 f70)) :=
  fn_ok tab_ok (envL_ok (l := [(70, mkE p70 r70 false f70)]) (OKs.cons h70 OKs.nil)) mixed (ann := (fun _ => false)) (L := L99 f70) (fn := Proofs.Try.f99) (c := bodyC Proofs.Try.f99) (ls := []) Proofs.Try.func99 (by kernel_rfl) (by kernel_rfl) (by kernel_rfl) (by kernel_rfl)
    LoopsP.nil (e99 f70)
/-! spec.IsWind -/
def p69 : List SP := [.one (.r .gust)]
def r69 : List SP := [.one (.bool)]
def q69_0 : List SP := pat 41 0 [(0, .one (.r .gust)), (5, .one (.r .gust)), (6, .one (.int .i64)), (7, .one (.int .i64))]
noncomputable def s69_0 (f70 : Int × Int × Int × Unit → Option (Bool × Unit)) (f99 : Place × Unit → Option (Bool × Unit)) (t1 : List Gust × List Gust × Int × Int × Unit) (rec K : List Gust × List Gust × Int × Int × Unit → Option (Bool × Unit)) : Option (Bool × Unit) :=
  cond (decide (t1.2.2.2.1 < t1.2.2.1)) (rdL t1.2.1 t1.2.2.2.1 fun d2 => (f70 (d2.From, 0, 64, ())).bind fun x3 => cond (!(!x3.1)) ((f99 (d2.Drift, ())).bind fun x4 => cond (!(!x4.1)) (cond (decide (t1.2.2.2.1 > 0)) (rdL t1.1 (w64 (t1.2.2.2.1 - 1)) fun d5 => cond (decide (d5.From ≥ d2.From)) (some (false, ())) (rec (t1.1, t1.2.1, t1.2.2.1, (w64 (t1.2.2.2.1 + 1)), ()))) (rec (t1.1, t1.2.1, t1.2.2.1, (w64 (t1.2.2.2.1 + 1)), ()))) (some (false, ()))) (some (false, ()))) (K (t1.1, t1.2.1, t1.2.2.1, t1.2.2.2.1, ()))
noncomputable def F69 (f70 : Int × Int × Int × Unit → Option (Bool × Unit)) (f99 : Place × Unit → Option (Bool × Unit)) (a : List Gust × Unit) : Option (Bool × Unit) :=
  iterF (s69_0 f70 f99) fuel (a.1, a.1, (Int.ofNat (List.length a.1)), 0, ()) fun t6 => some ((decide ((Int.ofNat (List.length t6.1)) ≤ 8)), ())
def E69 (f70 : Int × Int × Int × Unit → Option (Bool × Unit)) (f99 : Place × Unit → Option (Bool × Unit)) : Env := envL [(70, mkE p70 r70 false f70), (99, mkE p99 r99 false f99)]
noncomputable def L69 (f70 : Int × Int × Int × Unit → Option (Bool × Unit)) (f99 : Place × Unit → Option (Bool × Unit)) : LEnv (densS (muts p69 ++ r69)) := lenv [(0, loopL (R := densS (muts p69 ++ r69)) q69_0 (s69_0 f70 f99))]
theorem e69_0 (f70 : Int × Int × Int × Unit → Option (Bool × Unit)) (f99 : Place × Unit → Option (Bool × Unit)) (X : Nat → St → Option (densS (muts p69 ++ r69))) (rec K : densS q69_0 → Option (densS (muts p69 ++ r69))) (t : densS q69_0) :
    ev (E69 f70 f99) tab (fun _ => false) (L69 f70 f99) (retK tab p69 r69 Proofs.Try.f69.results.toList) (loopC Proofs.Try.f69 0) (fun i s => cond (Nat.beq i 0) (decK 100 q69_0 s K) (X i s)) (fun s => decK 100 q69_0 s rec) (enc q69_0 t) = s69_0 f70 f99 t rec K := by kernel_rfl
theorem e69 (f70 : Int × Int × Int × Unit → Option (Bool × Unit)) (f99 : Place × Unit → Option (Bool × Unit)) (a : densS p69) : runF (E69 f70 f99) tab (fun _ => false) p69 r69 Proofs.Try.f69 (L69 f70 f99) a = F69 f70 f99 a := by kernel_rfl
theorem ok69 {f70 : Int × Int × Int × Unit → Option (Bool × Unit)} {f99 : Place × Unit → Option (Bool × Unit)} (h70 : OK Proofs.Try.prog 70 (mkE p70 r70 false f70)) (h99 : OK Proofs.Try.prog 99 (mkE p99 r99 false f99)) : OK Proofs.Try.prog 69 (mkE p69 r69 false (F69 f70 f99)) :=
  fn_ok tab_ok (envL_ok (l := [(70, mkE p70 r70 false f70), (99, mkE p99 r99 false f99)]) (OKs.cons h70 (OKs.cons h99 OKs.nil))) mixed (ann := (fun _ => false)) (L := L69 f70 f99) (fn := Proofs.Try.f69) (c := bodyC Proofs.Try.f69) (ls := [(0, loopC Proofs.Try.f69 0)]) Proofs.Try.func69 (by kernel_rfl) (by kernel_rfl) (by kernel_rfl) (by kernel_rfl)
    (LoopsP.cons q69_0 (s69_0 f70 f99) rfl (e69_0 f70 f99) LoopsP.nil) (e69 f70 f99)
/-! spec.IsShow -/
def p38 : List SP := [.agg [.r .device, .r .cue, .r .gust, .int .i64]]
def r38 : List SP := [.one (.bool)]
noncomputable def F38 (f67 : List Device × Unit → Option (Bool × Unit)) (f68 : List Cue × Unit → Option (Bool × Unit)) (f69 : List Gust × Unit → Option (Bool × Unit)) (f70 : Int × Int × Int × Unit → Option (Bool × Unit)) (a : (List Device × List Cue × List Gust × Int × Unit) × Unit) : Option (Bool × Unit) :=
  (f67 (a.1.1, ())).bind fun x1 => cond x1.1 ((f68 (a.1.2.1, ())).bind fun x2 => cond x2.1 ((f69 (a.1.2.2.1, ())).bind fun x3 => cond x3.1 ((f70 (a.1.2.2.2.1, 0, 64, ())).bind fun x4 => some (x4.1, ())) (some (false, ()))) (some (false, ()))) (some (false, ()))
def E38 (f67 : List Device × Unit → Option (Bool × Unit)) (f68 : List Cue × Unit → Option (Bool × Unit)) (f69 : List Gust × Unit → Option (Bool × Unit)) (f70 : Int × Int × Int × Unit → Option (Bool × Unit)) : Env := envL [(67, mkE p67 r67 false f67), (68, mkE p68 r68 false f68), (69, mkE p69 r69 false f69), (70, mkE p70 r70 false f70)]
noncomputable def L38 (f67 : List Device × Unit → Option (Bool × Unit)) (f68 : List Cue × Unit → Option (Bool × Unit)) (f69 : List Gust × Unit → Option (Bool × Unit)) (f70 : Int × Int × Int × Unit → Option (Bool × Unit)) : LEnv (densS (muts p38 ++ r38)) := lenv []
theorem e38 (f67 : List Device × Unit → Option (Bool × Unit)) (f68 : List Cue × Unit → Option (Bool × Unit)) (f69 : List Gust × Unit → Option (Bool × Unit)) (f70 : Int × Int × Int × Unit → Option (Bool × Unit)) (a : densS p38) : runF (E38 f67 f68 f69 f70) tab (fun _ => false) p38 r38 Proofs.Try.f38 (L38 f67 f68 f69 f70) a = F38 f67 f68 f69 f70 a := by kernel_rfl
theorem ok38 {f67 : List Device × Unit → Option (Bool × Unit)} {f68 : List Cue × Unit → Option (Bool × Unit)} {f69 : List Gust × Unit → Option (Bool × Unit)} {f70 : Int × Int × Int × Unit → Option (Bool × Unit)} (h67 : OK Proofs.Try.prog 67 (mkE p67 r67 false f67)) (h68 : OK Proofs.Try.prog 68 (mkE p68 r68 false f68)) (h69 : OK Proofs.Try.prog 69 (mkE p69 r69 false f69)) (h70 : OK Proofs.Try.prog 70 (mkE p70 r70 false f70)) : OK Proofs.Try.prog 38 (mkE p38 r38 false (F38 f67 f68 f69 f70)) :=
  fn_ok tab_ok (envL_ok (l := [(67, mkE p67 r67 false f67), (68, mkE p68 r68 false f68), (69, mkE p69 r69 false f69), (70, mkE p70 r70 false f70)]) (OKs.cons h67 (OKs.cons h68 (OKs.cons h69 (OKs.cons h70 OKs.nil))))) mixed (ann := (fun _ => false)) (L := L38 f67 f68 f69 f70) (fn := Proofs.Try.f38) (c := bodyC Proofs.Try.f38) (ls := []) Proofs.Try.func38 (by kernel_rfl) (by kernel_rfl) (by kernel_rfl) (by kernel_rfl)
    LoopsP.nil (e38 f67 f68 f69 f70)
/-! spec.l1Floor -/
def p121 : List SP := [.one (.int .i64), .one (.int .i64)]
def r121 : List SP := [.one (.int .i64)]
noncomputable def F121 (a : Int × Int × Unit) : Option (Int × Unit) :=
  cond (decide (a.2.1 = 0)) none (cond (decide (a.2.1 = 0)) none (cond (decide ((Int.tmod a.1 a.2.1) < 0)) (some ((w64 ((w64 (Int.tdiv a.1 a.2.1)) - 1)), ())) (some ((w64 (Int.tdiv a.1 a.2.1)), ()))))
def E121 : Env := envL []
noncomputable def L121 : LEnv (densS (muts p121 ++ r121)) := lenv []
theorem e121 (a : densS p121) : runF (E121) tab (fun _ => false) p121 r121 Proofs.Try.f121 (L121) a = F121 a := by kernel_rfl
theorem ok121 : OK Proofs.Try.prog 121 (mkE p121 r121 false (F121)) :=
  fn_ok tab_ok (envL_ok (l := []) OKs.nil) mixed (ann := (fun _ => false)) (L := L121) (fn := Proofs.Try.f121) (c := bodyC Proofs.Try.f121) (ls := []) Proofs.Try.func121 (by kernel_rfl) (by kernel_rfl) (by kernel_rfl) (by kernel_rfl)
    LoopsP.nil (e121)
/-! spec.RampAt -/
def p100 : List SP := [.one (.int .i64), .one (.int .i64), .one (.int .i64), .one (.int .i64)]
def r100 : List SP := [.one (.int .i64)]
noncomputable def F100 (f120 : Int × Unit → Option (Bool × Unit)) (f121 : Int × Int × Unit → Option (Int × Unit)) (a : Int × Int × Int × Int × Unit) : Option (Int × Unit) :=
  (f120 (a.1, ())).bind fun x1 => cond (!(!x1.1)) ((f120 (a.2.1, ())).bind fun x2 => cond (!x2.1) (some (0, ())) (cond (decide (a.2.2.1 ≥ a.2.2.2.1)) (some (a.2.1, ())) (cond (!(decide (a.2.2.1 ≤ 0))) (cond (decide (a.2.2.2.1 > 999)) (some (a.1, ())) ((f121 ((w64 ((w64 (a.2.1 - a.1)) * a.2.2.1)), a.2.2.2.1, ())).bind fun x3 => some ((w64 (a.1 + x3.1)), ()))) (some (a.1, ()))))) (some (0, ()))
def E100 (f120 : Int × Unit → Option (Bool × Unit)) (f121 : Int × Int × Unit → Option (Int × Unit)) : Env := envL [(120, mkE p120 r120 false f120), (121, mkE p121 r121 false f121)]
noncomputable def L100 (f120 : Int × Unit → Option (Bool × Unit)) (f121 : Int × Int × Unit → Option (Int × Unit)) : LEnv (densS (muts p100 ++ r100)) := lenv []
theorem e100 (f120 : Int × Unit → Option (Bool × Unit)) (f121 : Int × Int × Unit → Option (Int × Unit)) (a : densS p100) : runF (E100 f120 f121) tab (fun _ => false) p100 r100 Proofs.Try.f100 (L100 f120 f121) a = F100 f120 f121 a := by kernel_rfl
theorem ok100 {f120 : Int × Unit → Option (Bool × Unit)} {f121 : Int × Int × Unit → Option (Int × Unit)} (h120 : OK Proofs.Try.prog 120 (mkE p120 r120 false f120)) (h121 : OK Proofs.Try.prog 121 (mkE p121 r121 false f121)) : OK Proofs.Try.prog 100 (mkE p100 r100 false (F100 f120 f121)) :=
  fn_ok tab_ok (envL_ok (l := [(120, mkE p120 r120 false f120), (121, mkE p121 r121 false f121)]) (OKs.cons h120 (OKs.cons h121 OKs.nil))) mixed (ann := (fun _ => false)) (L := L100 f120 f121) (fn := Proofs.Try.f100) (c := bodyC Proofs.Try.f100) (ls := []) Proofs.Try.func100 (by kernel_rfl) (by kernel_rfl) (by kernel_rfl) (by kernel_rfl)
    LoopsP.nil (e100 f120 f121)
/-! spec.l7Level -/
def p72 : List SP := [.one (.r .cue), .one (.str), .one (.int .i64)]
def r72 : List SP := [.one (.int .i64)]
def q72_0 : List SP := pat 51 0 [(1, .one (.str)), (2, .one (.int .i64)), (7, .one (.int .i64)), (8, .boxt 5000001 .cue), (12, .one (.r .cue)), (13, .one (.int .i64)), (14, .one (.int .i64))]
noncomputable def s72_0 (f100 : Int × Int × Int × Int × Unit → Option (Int × Unit)) (t1 : Str × Int × Int × Cue × List Cue × Int × Int × Unit) (rec K : Str × Int × Int × Cue × List Cue × Int × Int × Unit → Option (Int × Unit)) : Option (Int × Unit) :=
  cond (decide (t1.2.2.2.2.2.2.1 < t1.2.2.2.2.2.1)) (rdL t1.2.2.2.2.1 t1.2.2.2.2.2.2.1 fun d2 => cond (decide (d2.Name = t1.1)) (cond (decide (d2.Tick ≤ t1.2.1)) ((f100 (t1.2.2.1, t1.2.2.2.1.Level, (w64 (d2.Tick - t1.2.2.2.1.Tick)), t1.2.2.2.1.Ramp, ())).bind fun x3 => rec (t1.1, t1.2.1, x3.1, d2, t1.2.2.2.2.1, t1.2.2.2.2.2.1, (w64 (t1.2.2.2.2.2.2.1 + 1)), ())) (rec (t1.1, t1.2.1, t1.2.2.1, t1.2.2.2.1, t1.2.2.2.2.1, t1.2.2.2.2.2.1, (w64 (t1.2.2.2.2.2.2.1 + 1)), ()))) (rec (t1.1, t1.2.1, t1.2.2.1, t1.2.2.2.1, t1.2.2.2.2.1, t1.2.2.2.2.2.1, (w64 (t1.2.2.2.2.2.2.1 + 1)), ()))) (K (t1.1, t1.2.1, t1.2.2.1, t1.2.2.2.1, t1.2.2.2.2.1, t1.2.2.2.2.2.1, t1.2.2.2.2.2.2.1, ()))
noncomputable def F72 (f100 : Int × Int × Int × Int × Unit → Option (Int × Unit)) (a : List Cue × Str × Int × Unit) : Option (Int × Unit) :=
  iterF (s72_0 f100) fuel (a.2.1, a.2.2.1, 0, (⟨0, [], 0, 0⟩ : Cue), a.1, (Int.ofNat (List.length a.1)), 0, ()) fun t4 => (f100 (t4.2.2.1, t4.2.2.2.1.Level, (w64 (t4.2.1 - t4.2.2.2.1.Tick)), t4.2.2.2.1.Ramp, ())).bind fun x5 => some (x5.1, ())
def E72 (f100 : Int × Int × Int × Int × Unit → Option (Int × Unit)) : Env := envL [(100, mkE p100 r100 false f100)]
noncomputable def L72 (f100 : Int × Int × Int × Int × Unit → Option (Int × Unit)) : LEnv (densS (muts p72 ++ r72)) := lenv [(0, loopL (R := densS (muts p72 ++ r72)) q72_0 (s72_0 f100))]
theorem e72_0 (f100 : Int × Int × Int × Int × Unit → Option (Int × Unit)) (X : Nat → St → Option (densS (muts p72 ++ r72))) (rec K : densS q72_0 → Option (densS (muts p72 ++ r72))) (t : densS q72_0) :
    ev (E72 f100) tab (fun _ => false) (L72 f100) (retK tab p72 r72 Proofs.Try.f72.results.toList) (loopC Proofs.Try.f72 0) (fun i s => cond (Nat.beq i 0) (decK 100 q72_0 s K) (X i s)) (fun s => decK 100 q72_0 s rec) (enc q72_0 t) = s72_0 f100 t rec K := by kernel_rfl
theorem e72 (f100 : Int × Int × Int × Int × Unit → Option (Int × Unit)) (a : densS p72) : runF (E72 f100) tab (fun _ => false) p72 r72 Proofs.Try.f72 (L72 f100) a = F72 f100 a := by kernel_rfl
theorem ok72 {f100 : Int × Int × Int × Int × Unit → Option (Int × Unit)} (h100 : OK Proofs.Try.prog 100 (mkE p100 r100 false f100)) : OK Proofs.Try.prog 72 (mkE p72 r72 false (F72 f100)) :=
  fn_ok tab_ok (envL_ok (l := [(100, mkE p100 r100 false f100)]) (OKs.cons h100 OKs.nil)) mixed (ann := (fun _ => false)) (L := L72 f100) (fn := Proofs.Try.f72) (c := bodyC Proofs.Try.f72) (ls := [(0, loopC Proofs.Try.f72 0)]) Proofs.Try.func72 (by kernel_rfl) (by kernel_rfl) (by kernel_rfl) (by kernel_rfl)
    (LoopsP.cons q72_0 (s72_0 f100) rfl (e72_0 f100) LoopsP.nil) (e72 f100)
/-! spec.l1Min -/
def p71 : List SP := [.one (.int .i64), .one (.int .i64)]
def r71 : List SP := [.one (.int .i64)]
noncomputable def F71 (a : Int × Int × Unit) : Option (Int × Unit) :=
  cond (decide (a.1 < a.2.1)) (some (a.1, ())) (some (a.2.1, ()))
def E71 : Env := envL []
noncomputable def L71 : LEnv (densS (muts p71 ++ r71)) := lenv []
theorem e71 (a : densS p71) : runF (E71) tab (fun _ => false) p71 r71 Proofs.Try.f71 (L71) a = F71 a := by kernel_rfl
theorem ok71 : OK Proofs.Try.prog 71 (mkE p71 r71 false (F71)) :=
  fn_ok tab_ok (envL_ok (l := []) OKs.nil) mixed (ann := (fun _ => false)) (L := L71) (fn := Proofs.Try.f71) (c := bodyC Proofs.Try.f71) (ls := []) Proofs.Try.func71 (by kernel_rfl) (by kernel_rfl) (by kernel_rfl) (by kernel_rfl)
    LoopsP.nil (e71)
/-! spec.IsDemands -/
def p101 : List SP := [.one (.r .int)]
def r101 : List SP := [.one (.bool)]
def q101_0 : List SP := pat 18 0 [(0, .one (.r .int)), (5, .one (.r .int)), (6, .one (.int .i64)), (7, .one (.int .i64))]
noncomputable def s101_0 (f70 : Int × Int × Int × Unit → Option (Bool × Unit)) (t1 : List Int × List Int × Int × Int × Unit) (rec K : List Int × List Int × Int × Int × Unit → Option (Bool × Unit)) : Option (Bool × Unit) :=
  cond (decide (t1.2.2.2.1 < t1.2.2.1)) (rdL t1.2.1 t1.2.2.2.1 fun d2 => (f70 (d2, 0, 64, ())).bind fun x3 => cond (!x3.1) (some (false, ())) (rec (t1.1, t1.2.1, t1.2.2.1, (w64 (t1.2.2.2.1 + 1)), ()))) (K (t1.1, t1.2.1, t1.2.2.1, t1.2.2.2.1, ()))
noncomputable def F101 (f70 : Int × Int × Int × Unit → Option (Bool × Unit)) (a : List Int × Unit) : Option (Bool × Unit) :=
  iterF (s101_0 f70) fuel (a.1, a.1, (Int.ofNat (List.length a.1)), 0, ()) fun t4 => some ((decide ((Int.ofNat (List.length t4.1)) ≤ 8)), ())
def E101 (f70 : Int × Int × Int × Unit → Option (Bool × Unit)) : Env := envL [(70, mkE p70 r70 false f70)]
noncomputable def L101 (f70 : Int × Int × Int × Unit → Option (Bool × Unit)) : LEnv (densS (muts p101 ++ r101)) := lenv [(0, loopL (R := densS (muts p101 ++ r101)) q101_0 (s101_0 f70))]
theorem e101_0 (f70 : Int × Int × Int × Unit → Option (Bool × Unit)) (X : Nat → St → Option (densS (muts p101 ++ r101))) (rec K : densS q101_0 → Option (densS (muts p101 ++ r101))) (t : densS q101_0) :
    ev (E101 f70) tab (fun _ => false) (L101 f70) (retK tab p101 r101 Proofs.Try.f101.results.toList) (loopC Proofs.Try.f101 0) (fun i s => cond (Nat.beq i 0) (decK 100 q101_0 s K) (X i s)) (fun s => decK 100 q101_0 s rec) (enc q101_0 t) = s101_0 f70 t rec K := by kernel_rfl
theorem e101 (f70 : Int × Int × Int × Unit → Option (Bool × Unit)) (a : densS p101) : runF (E101 f70) tab (fun _ => false) p101 r101 Proofs.Try.f101 (L101 f70) a = F101 f70 a := by kernel_rfl
theorem ok101 {f70 : Int × Int × Int × Unit → Option (Bool × Unit)} (h70 : OK Proofs.Try.prog 70 (mkE p70 r70 false f70)) : OK Proofs.Try.prog 101 (mkE p101 r101 false (F101 f70)) :=
  fn_ok tab_ok (envL_ok (l := [(70, mkE p70 r70 false f70)]) (OKs.cons h70 OKs.nil)) mixed (ann := (fun _ => false)) (L := L101 f70) (fn := Proofs.Try.f101) (c := bodyC Proofs.Try.f101) (ls := [(0, loopC Proofs.Try.f101 0)]) Proofs.Try.func101 (by kernel_rfl) (by kernel_rfl) (by kernel_rfl) (by kernel_rfl)
    (LoopsP.cons q101_0 (s101_0 f70) rfl (e101_0 f70) LoopsP.nil) (e101 f70)
/-! spec.l5Cut -/
def p104 : List SP := [.one (.r .int), .one (.int .i64)]
def r104 : List SP := [.one (.o 0 .int)]
def q104_0 : List SP := pat 23 0 [(1, .one (.int .i64)), (5, .one (.o 5000001 .int)), (9, .one (.r .int)), (10, .one (.int .i64)), (11, .one (.int .i64))]
noncomputable def s104_0 (f71 : Int × Int × Unit → Option (Int × Unit)) (t1 : Int × List Int × List Int × Int × Int × Unit) (rec K : Int × List Int × List Int × Int × Int × Unit → Option (List Int × Unit)) : Option (List Int × Unit) :=
  cond (decide (t1.2.2.2.2.1 < t1.2.2.2.1)) (rdL t1.2.2.1 t1.2.2.2.2.1 fun d2 => (f71 (d2, t1.1, ())).bind fun x3 => capK (List.length t1.2.1 + List.length ([x3.1] : List Int)) (rec (t1.1, (t1.2.1 ++ ([x3.1] : List Int)), t1.2.2.1, t1.2.2.2.1, (w64 (t1.2.2.2.2.1 + 1)), ()))) (K (t1.1, t1.2.1, t1.2.2.1, t1.2.2.2.1, t1.2.2.2.2.1, ()))
noncomputable def F104 (f71 : Int × Int × Unit → Option (Int × Unit)) (a : List Int × Int × Unit) : Option (List Int × Unit) :=
  iterF (s104_0 f71) fuel (a.2.1, ([] : List Int), a.1, (Int.ofNat (List.length a.1)), 0, ()) fun t4 => some (t4.2.1, ())
def E104 (f71 : Int × Int × Unit → Option (Int × Unit)) : Env := envL [(71, mkE p71 r71 false f71)]
noncomputable def L104 (f71 : Int × Int × Unit → Option (Int × Unit)) : LEnv (densS (muts p104 ++ r104)) := lenv [(0, loopL (R := densS (muts p104 ++ r104)) q104_0 (s104_0 f71))]
theorem e104_0 (f71 : Int × Int × Unit → Option (Int × Unit)) (X : Nat → St → Option (densS (muts p104 ++ r104))) (rec K : densS q104_0 → Option (densS (muts p104 ++ r104))) (t : densS q104_0) :
    ev (E104 f71) tab (fun _ => false) (L104 f71) (retK tab p104 r104 Proofs.Try.f104.results.toList) (loopC Proofs.Try.f104 0) (fun i s => cond (Nat.beq i 0) (decK 100 q104_0 s K) (X i s)) (fun s => decK 100 q104_0 s rec) (enc q104_0 t) = s104_0 f71 t rec K := by kernel_rfl
theorem e104 (f71 : Int × Int × Unit → Option (Int × Unit)) (a : densS p104) : runF (E104 f71) tab (fun _ => false) p104 r104 Proofs.Try.f104 (L104 f71) a = F104 f71 a := by kernel_rfl
theorem ok104 {f71 : Int × Int × Unit → Option (Int × Unit)} (h71 : OK Proofs.Try.prog 71 (mkE p71 r71 false f71)) : OK Proofs.Try.prog 104 (mkE p104 r104 false (F104 f71)) :=
  fn_ok tab_ok (envL_ok (l := [(71, mkE p71 r71 false f71)]) (OKs.cons h71 OKs.nil)) mixed (ann := (fun _ => false)) (L := L104 f71) (fn := Proofs.Try.f104) (c := bodyC Proofs.Try.f104) (ls := [(0, loopC Proofs.Try.f104 0)]) Proofs.Try.func104 (by kernel_rfl) (by kernel_rfl) (by kernel_rfl) (by kernel_rfl)
    (LoopsP.cons q104_0 (s104_0 f71) rfl (e104_0 f71) LoopsP.nil) (e104 f71)
/-! spec.l5Sum -/
def p105 : List SP := [.one (.r .int)]
def r105 : List SP := [.one (.int .i64)]
def q105_0 : List SP := pat 17 0 [(3, .one (.int .i64)), (6, .one (.r .int)), (7, .one (.int .i64)), (8, .one (.int .i64))]
noncomputable def s105_0 (t1 : Int × List Int × Int × Int × Unit) (rec K : Int × List Int × Int × Int × Unit → Option (Int × Unit)) : Option (Int × Unit) :=
  cond (decide (t1.2.2.2.1 < t1.2.2.1)) (rdL t1.2.1 t1.2.2.2.1 fun d2 => rec ((w64 (t1.1 + d2)), t1.2.1, t1.2.2.1, (w64 (t1.2.2.2.1 + 1)), ())) (K (t1.1, t1.2.1, t1.2.2.1, t1.2.2.2.1, ()))
noncomputable def F105 (a : List Int × Unit) : Option (Int × Unit) :=
  iterF (s105_0) fuel (0, a.1, (Int.ofNat (List.length a.1)), 0, ()) fun t3 => some (t3.1, ())
def E105 : Env := envL []
noncomputable def L105 : LEnv (densS (muts p105 ++ r105)) := lenv [(0, loopL (R := densS (muts p105 ++ r105)) q105_0 (s105_0))]
theorem e105_0 (X : Nat → St → Option (densS (muts p105 ++ r105))) (rec K : densS q105_0 → Option (densS (muts p105 ++ r105))) (t : densS q105_0) :
    ev (E105) tab (fun _ => false) (L105) (retK tab p105 r105 Proofs.Try.f105.results.toList) (loopC Proofs.Try.f105 0) (fun i s => cond (Nat.beq i 0) (decK 100 q105_0 s K) (X i s)) (fun s => decK 100 q105_0 s rec) (enc q105_0 t) = s105_0 t rec K := by kernel_rfl
theorem e105 (a : densS p105) : runF (E105) tab (fun _ => false) p105 r105 Proofs.Try.f105 (L105) a = F105 a := by kernel_rfl
theorem ok105 : OK Proofs.Try.prog 105 (mkE p105 r105 false (F105)) :=
  fn_ok tab_ok (envL_ok (l := []) OKs.nil) mixed (ann := (fun _ => false)) (L := L105) (fn := Proofs.Try.f105) (c := bodyC Proofs.Try.f105) (ls := [(0, loopC Proofs.Try.f105 0)]) Proofs.Try.func105 (by kernel_rfl) (by kernel_rfl) (by kernel_rfl) (by kernel_rfl)
    (LoopsP.cons q105_0 (s105_0) rfl (e105_0) LoopsP.nil) (e105)
/-! spec.LevelFor -/
def p103 : List SP := [.one (.int .i64), .one (.r .int)]
def r103 : List SP := [.one (.int .i64)]
def q103_0 : List SP := pat 27 0 [(0, .one (.int .i64)), (1, .one (.r .int)), (5, .one (.int .i64)), (6, .one (.int .i64))]
noncomputable def s103_0 (f101 : List Int × Unit → Option (Bool × Unit)) (f102 : Int × Unit → Option (Bool × Unit)) (f104 : List Int × Int × Unit → Option (List Int × Unit)) (f105 : List Int × Unit → Option (Int × Unit)) (t1 : Int × List Int × Int × Int × Unit) (rec K : Int × List Int × Int × Int × Unit → Option (Int × Unit)) : Option (Int × Unit) :=
  cond (decide (t1.2.2.2.1 ≤ 64)) ((f101 (t1.2.1, ())).bind fun x2 => cond x2.1 ((f102 (t1.1, ())).bind fun x3 => cond x3.1 ((f104 (t1.2.1, t1.2.2.2.1, ())).bind fun x4 => (f105 (x4.1, ())).bind fun x5 => cond (decide (x5.1 ≤ t1.1)) (rec (t1.1, t1.2.1, t1.2.2.2.1, (w64 (t1.2.2.2.1 + 1)), ())) (rec (t1.1, t1.2.1, t1.2.2.1, (w64 (t1.2.2.2.1 + 1)), ()))) (K (t1.1, t1.2.1, t1.2.2.1, t1.2.2.2.1, ()))) (K (t1.1, t1.2.1, t1.2.2.1, t1.2.2.2.1, ()))) (K (t1.1, t1.2.1, t1.2.2.1, t1.2.2.2.1, ()))
noncomputable def F103 (f101 : List Int × Unit → Option (Bool × Unit)) (f102 : Int × Unit → Option (Bool × Unit)) (f104 : List Int × Int × Unit → Option (List Int × Unit)) (f105 : List Int × Unit → Option (Int × Unit)) (a : Int × List Int × Unit) : Option (Int × Unit) :=
  iterF (s103_0 f101 f102 f104 f105) fuel (a.1, a.2.1, 0, 1, ()) fun t6 => some (t6.2.2.1, ())
def E103 (f101 : List Int × Unit → Option (Bool × Unit)) (f102 : Int × Unit → Option (Bool × Unit)) (f104 : List Int × Int × Unit → Option (List Int × Unit)) (f105 : List Int × Unit → Option (Int × Unit)) : Env := envL [(101, mkE p101 r101 false f101), (102, mkE p102 r102 false f102), (104, mkE p104 r104 false f104), (105, mkE p105 r105 false f105)]
noncomputable def L103 (f101 : List Int × Unit → Option (Bool × Unit)) (f102 : Int × Unit → Option (Bool × Unit)) (f104 : List Int × Int × Unit → Option (List Int × Unit)) (f105 : List Int × Unit → Option (Int × Unit)) : LEnv (densS (muts p103 ++ r103)) := lenv [(0, loopL (R := densS (muts p103 ++ r103)) q103_0 (s103_0 f101 f102 f104 f105))]
theorem e103_0 (f101 : List Int × Unit → Option (Bool × Unit)) (f102 : Int × Unit → Option (Bool × Unit)) (f104 : List Int × Int × Unit → Option (List Int × Unit)) (f105 : List Int × Unit → Option (Int × Unit)) (X : Nat → St → Option (densS (muts p103 ++ r103))) (rec K : densS q103_0 → Option (densS (muts p103 ++ r103))) (t : densS q103_0) :
    ev (E103 f101 f102 f104 f105) tab (fun _ => false) (L103 f101 f102 f104 f105) (retK tab p103 r103 Proofs.Try.f103.results.toList) (loopC Proofs.Try.f103 0) (fun i s => cond (Nat.beq i 0) (decK 100 q103_0 s K) (X i s)) (fun s => decK 100 q103_0 s rec) (enc q103_0 t) = s103_0 f101 f102 f104 f105 t rec K := by kernel_rfl
theorem e103 (f101 : List Int × Unit → Option (Bool × Unit)) (f102 : Int × Unit → Option (Bool × Unit)) (f104 : List Int × Int × Unit → Option (List Int × Unit)) (f105 : List Int × Unit → Option (Int × Unit)) (a : densS p103) : runF (E103 f101 f102 f104 f105) tab (fun _ => false) p103 r103 Proofs.Try.f103 (L103 f101 f102 f104 f105) a = F103 f101 f102 f104 f105 a := by kernel_rfl
theorem ok103 {f101 : List Int × Unit → Option (Bool × Unit)} {f102 : Int × Unit → Option (Bool × Unit)} {f104 : List Int × Int × Unit → Option (List Int × Unit)} {f105 : List Int × Unit → Option (Int × Unit)} (h101 : OK Proofs.Try.prog 101 (mkE p101 r101 false f101)) (h102 : OK Proofs.Try.prog 102 (mkE p102 r102 false f102)) (h104 : OK Proofs.Try.prog 104 (mkE p104 r104 false f104)) (h105 : OK Proofs.Try.prog 105 (mkE p105 r105 false f105)) : OK Proofs.Try.prog 103 (mkE p103 r103 false (F103 f101 f102 f104 f105)) :=
  fn_ok tab_ok (envL_ok (l := [(101, mkE p101 r101 false f101), (102, mkE p102 r102 false f102), (104, mkE p104 r104 false f104), (105, mkE p105 r105 false f105)]) (OKs.cons h101 (OKs.cons h102 (OKs.cons h104 (OKs.cons h105 OKs.nil))))) mixed (ann := (fun _ => false)) (L := L103 f101 f102 f104 f105) (fn := Proofs.Try.f103) (c := bodyC Proofs.Try.f103) (ls := [(0, loopC Proofs.Try.f103 0)]) Proofs.Try.func103 (by kernel_rfl) (by kernel_rfl) (by kernel_rfl) (by kernel_rfl)
    (LoopsP.cons q103_0 (s103_0 f101 f102 f104 f105) rfl (e103_0 f101 f102 f104 f105) LoopsP.nil) (e103 f101 f102 f104 f105)
/-! spec.ShareOut -/
def p73 : List SP := [.one (.int .i64), .one (.r .int)]
def r73 : List SP := [.one (.o 0 .int)]
def q73_0 : List SP := pat 55 0 [(5, .one (.int .i64)), (6, .one (.o 5000001 .int)), (7, .one (.int .i64)), (29, .one (.r .int)), (30, .one (.int .i64)), (31, .one (.int .i64))]
noncomputable def s73_0 (f101 : List Int × Unit → Option (Bool × Unit)) (f102 : Int × Unit → Option (Bool × Unit)) (f103 : Int × List Int × Unit → Option (Int × Unit)) (f104 : List Int × Int × Unit → Option (List Int × Unit)) (f105 : List Int × Unit → Option (Int × Unit)) (t6 : Int × List Int × Int × List Int × Int × Int × Unit) (rec K : Int × List Int × Int × List Int × Int × Int × Unit → Option (List Int × Unit)) : Option (List Int × Unit) :=
  cond (decide (t6.2.2.2.2.2.1 < t6.2.2.2.2.1)) (rdL t6.2.2.2.1 t6.2.2.2.2.2.1 fun d7 => cond (decide (d7 > t6.1)) (cond (decide (t6.2.2.1 > 0)) (rdL t6.2.1 t6.2.2.2.2.2.1 fun _ => (t6.2.1[(Int.toNat t6.2.2.2.2.2.1)]?).bind fun d8 => rdL t6.2.1 t6.2.2.2.2.2.1 fun _ => (t6.2.1[(Int.toNat t6.2.2.2.2.2.1)]?).bind fun d9 => rec (t6.1, (List.set t6.2.1 (Int.toNat t6.2.2.2.2.2.1) (w64 (d8 + 1))), (w64 (t6.2.2.1 - 1)), t6.2.2.2.1, t6.2.2.2.2.1, (w64 (t6.2.2.2.2.2.1 + 1)), ())) (rec (t6.1, t6.2.1, t6.2.2.1, t6.2.2.2.1, t6.2.2.2.2.1, (w64 (t6.2.2.2.2.2.1 + 1)), ()))) (rec (t6.1, t6.2.1, t6.2.2.1, t6.2.2.2.1, t6.2.2.2.2.1, (w64 (t6.2.2.2.2.2.1 + 1)), ()))) (K (t6.1, t6.2.1, t6.2.2.1, t6.2.2.2.1, t6.2.2.2.2.1, t6.2.2.2.2.2.1, ()))
noncomputable def F73 (f101 : List Int × Unit → Option (Bool × Unit)) (f102 : Int × Unit → Option (Bool × Unit)) (f103 : Int × List Int × Unit → Option (Int × Unit)) (f104 : List Int × Int × Unit → Option (List Int × Unit)) (f105 : List Int × Unit → Option (Int × Unit)) (a : Int × List Int × Unit) : Option (List Int × Unit) :=
  (f101 (a.2.1, ())).bind fun x1 => cond (!(!x1.1)) ((f102 (a.1, ())).bind fun x2 => cond (!x2.1) (some (([] : List Int), ())) ((f103 (a.1, a.2.1, ())).bind fun x3 => (f104 (a.2.1, x3.1, ())).bind fun x4 => (f105 (x4.1, ())).bind fun x5 => iterF (s73_0 f101 f102 f103 f104 f105) fuel (x3.1, x4.1, (w64 (a.1 - x5.1)), a.2.1, (Int.ofNat (List.length a.2.1)), 0, ()) fun t10 => some (t10.2.1, ()))) (some (([] : List Int), ()))
def E73 (f101 : List Int × Unit → Option (Bool × Unit)) (f102 : Int × Unit → Option (Bool × Unit)) (f103 : Int × List Int × Unit → Option (Int × Unit)) (f104 : List Int × Int × Unit → Option (List Int × Unit)) (f105 : List Int × Unit → Option (Int × Unit)) : Env := envL [(101, mkE p101 r101 false f101), (102, mkE p102 r102 false f102), (103, mkE p103 r103 false f103), (104, mkE p104 r104 false f104), (105, mkE p105 r105 false f105)]
noncomputable def L73 (f101 : List Int × Unit → Option (Bool × Unit)) (f102 : Int × Unit → Option (Bool × Unit)) (f103 : Int × List Int × Unit → Option (Int × Unit)) (f104 : List Int × Int × Unit → Option (List Int × Unit)) (f105 : List Int × Unit → Option (Int × Unit)) : LEnv (densS (muts p73 ++ r73)) := lenv [(0, loopL (R := densS (muts p73 ++ r73)) q73_0 (s73_0 f101 f102 f103 f104 f105))]
theorem e73_0 (f101 : List Int × Unit → Option (Bool × Unit)) (f102 : Int × Unit → Option (Bool × Unit)) (f103 : Int × List Int × Unit → Option (Int × Unit)) (f104 : List Int × Int × Unit → Option (List Int × Unit)) (f105 : List Int × Unit → Option (Int × Unit)) (X : Nat → St → Option (densS (muts p73 ++ r73))) (rec K : densS q73_0 → Option (densS (muts p73 ++ r73))) (t : densS q73_0) :
    ev (E73 f101 f102 f103 f104 f105) tab (fun _ => false) (L73 f101 f102 f103 f104 f105) (retK tab p73 r73 Proofs.Try.f73.results.toList) (loopC Proofs.Try.f73 0) (fun i s => cond (Nat.beq i 0) (decK 100 q73_0 s K) (X i s)) (fun s => decK 100 q73_0 s rec) (enc q73_0 t) = s73_0 f101 f102 f103 f104 f105 t rec K := by kernel_rfl
theorem e73 (f101 : List Int × Unit → Option (Bool × Unit)) (f102 : Int × Unit → Option (Bool × Unit)) (f103 : Int × List Int × Unit → Option (Int × Unit)) (f104 : List Int × Int × Unit → Option (List Int × Unit)) (f105 : List Int × Unit → Option (Int × Unit)) (a : densS p73) : runF (E73 f101 f102 f103 f104 f105) tab (fun _ => false) p73 r73 Proofs.Try.f73 (L73 f101 f102 f103 f104 f105) a = F73 f101 f102 f103 f104 f105 a := by kernel_rfl
theorem ok73 {f101 : List Int × Unit → Option (Bool × Unit)} {f102 : Int × Unit → Option (Bool × Unit)} {f103 : Int × List Int × Unit → Option (Int × Unit)} {f104 : List Int × Int × Unit → Option (List Int × Unit)} {f105 : List Int × Unit → Option (Int × Unit)} (h101 : OK Proofs.Try.prog 101 (mkE p101 r101 false f101)) (h102 : OK Proofs.Try.prog 102 (mkE p102 r102 false f102)) (h103 : OK Proofs.Try.prog 103 (mkE p103 r103 false f103)) (h104 : OK Proofs.Try.prog 104 (mkE p104 r104 false f104)) (h105 : OK Proofs.Try.prog 105 (mkE p105 r105 false f105)) : OK Proofs.Try.prog 73 (mkE p73 r73 false (F73 f101 f102 f103 f104 f105)) :=
  fn_ok tab_ok (envL_ok (l := [(101, mkE p101 r101 false f101), (102, mkE p102 r102 false f102), (103, mkE p103 r103 false f103), (104, mkE p104 r104 false f104), (105, mkE p105 r105 false f105)]) (OKs.cons h101 (OKs.cons h102 (OKs.cons h103 (OKs.cons h104 (OKs.cons h105 OKs.nil)))))) mixed (ann := (fun _ => false)) (L := L73 f101 f102 f103 f104 f105) (fn := Proofs.Try.f73) (c := bodyC Proofs.Try.f73) (ls := [(0, loopC Proofs.Try.f73 0)]) Proofs.Try.func73 (by kernel_rfl) (by kernel_rfl) (by kernel_rfl) (by kernel_rfl)
    (LoopsP.cons q73_0 (s73_0 f101 f102 f103 f104 f105) rfl (e73_0 f101 f102 f103 f104 f105) LoopsP.nil) (e73 f101 f102 f103 f104 f105)
/-! spec.l9Lifts -/
def p39 : List SP := [.agg [.r .device, .r .cue, .r .gust, .int .i64], .one (.int .i64)]
def r39 : List SP := [.one (.o 0 .int)]
def q39_2 : List SP := pat 92 0 [(1, .one (.int .i64)), (2, .box 5002001 [.r .device, .r .cue, .r .gust, .int .i64]), (5, .one (.o 5002002 .int)), (7, .boxt 5002003 .device), (8, .one (.o 5002004 .int)), (9, .one (.o 5002005 .int)), (19, .one (.r .device)), (20, .one (.int .i64)), (21, .one (.int .i64)), (28, .one (.r .device)), (29, .one (.int .i64)), (30, .one (.int .i64))]
noncomputable def s39_2 (f70 : Int × Int × Int × Unit → Option (Bool × Unit)) (f72 : List Cue × Str × Int × Unit → Option (Int × Unit)) (f71 : Int × Int × Unit → Option (Int × Unit)) (f73 : Int × List Int × Unit → Option (List Int × Unit)) (t3 : Int × (List Device × List Cue × List Gust × Int × Unit) × List Int × Device × List Int × List Int × List Device × Int × Int × List Device × Int × Int × Unit) (rec K : Int × (List Device × List Cue × List Gust × Int × Unit) × List Int × Device × List Int × List Int × List Device × Int × Int × List Device × Int × Int × Unit → Option (List Int × Unit)) : Option (List Int × Unit) :=
  cond (decide (t3.2.2.2.2.2.2.2.2.2.2.2.1 < t3.2.2.2.2.2.2.2.2.2.2.1)) (rdL t3.2.2.2.2.2.2.2.2.2.1 t3.2.2.2.2.2.2.2.2.2.2.2.1 fun d4 => cond (decide (d4.Kind = 2)) (cond (decide (d4.Line = t3.2.2.2.1.Name)) ((f70 (t3.1, 0, (w64 (t3.2.1.2.2.2.1 - 1)), ())).bind fun x5 => cond x5.1 ((f72 (t3.2.1.2.1, d4.Name, t3.1, ())).bind fun x6 => (f71 (x6.1, d4.Most, ())).bind fun x7 => capK (List.length t3.2.2.2.2.1 + List.length ([x7.1] : List Int)) (capK (List.length t3.2.2.2.2.2.1 + List.length ([t3.2.2.2.2.2.2.2.2.2.2.2.1] : List Int)) (rec (t3.1, (t3.2.1.1, t3.2.1.2.1, t3.2.1.2.2.1, t3.2.1.2.2.2.1, ()), t3.2.2.1, t3.2.2.2.1, (t3.2.2.2.2.1 ++ ([x7.1] : List Int)), (t3.2.2.2.2.2.1 ++ ([t3.2.2.2.2.2.2.2.2.2.2.2.1] : List Int)), t3.2.2.2.2.2.2.1, t3.2.2.2.2.2.2.2.1, t3.2.2.2.2.2.2.2.2.1, t3.2.2.2.2.2.2.2.2.2.1, t3.2.2.2.2.2.2.2.2.2.2.1, (w64 (t3.2.2.2.2.2.2.2.2.2.2.2.1 + 1)), ())))) (rec (t3.1, (t3.2.1.1, t3.2.1.2.1, t3.2.1.2.2.1, t3.2.1.2.2.2.1, ()), t3.2.2.1, t3.2.2.2.1, t3.2.2.2.2.1, t3.2.2.2.2.2.1, t3.2.2.2.2.2.2.1, t3.2.2.2.2.2.2.2.1, t3.2.2.2.2.2.2.2.2.1, t3.2.2.2.2.2.2.2.2.2.1, t3.2.2.2.2.2.2.2.2.2.2.1, (w64 (t3.2.2.2.2.2.2.2.2.2.2.2.1 + 1)), ()))) (rec (t3.1, (t3.2.1.1, t3.2.1.2.1, t3.2.1.2.2.1, t3.2.1.2.2.2.1, ()), t3.2.2.1, t3.2.2.2.1, t3.2.2.2.2.1, t3.2.2.2.2.2.1, t3.2.2.2.2.2.2.1, t3.2.2.2.2.2.2.2.1, t3.2.2.2.2.2.2.2.2.1, t3.2.2.2.2.2.2.2.2.2.1, t3.2.2.2.2.2.2.2.2.2.2.1, (w64 (t3.2.2.2.2.2.2.2.2.2.2.2.1 + 1)), ()))) (rec (t3.1, (t3.2.1.1, t3.2.1.2.1, t3.2.1.2.2.1, t3.2.1.2.2.2.1, ()), t3.2.2.1, t3.2.2.2.1, t3.2.2.2.2.1, t3.2.2.2.2.2.1, t3.2.2.2.2.2.2.1, t3.2.2.2.2.2.2.2.1, t3.2.2.2.2.2.2.2.2.1, t3.2.2.2.2.2.2.2.2.2.1, t3.2.2.2.2.2.2.2.2.2.2.1, (w64 (t3.2.2.2.2.2.2.2.2.2.2.2.1 + 1)), ()))) (K (t3.1, (t3.2.1.1, t3.2.1.2.1, t3.2.1.2.2.1, t3.2.1.2.2.2.1, ()), t3.2.2.1, t3.2.2.2.1, t3.2.2.2.2.1, t3.2.2.2.2.2.1, t3.2.2.2.2.2.2.1, t3.2.2.2.2.2.2.2.1, t3.2.2.2.2.2.2.2.2.1, t3.2.2.2.2.2.2.2.2.2.1, t3.2.2.2.2.2.2.2.2.2.2.1, t3.2.2.2.2.2.2.2.2.2.2.2.1, ()))
def q39_4 : List SP := pat 92 0 [(1, .one (.int .i64)), (2, .box 5004001 [.r .device, .r .cue, .r .gust, .int .i64]), (5, .one (.o 5004002 .int)), (9, .one (.o 5004003 .int)), (19, .one (.r .device)), (20, .one (.int .i64)), (21, .one (.int .i64)), (75, .one (.o 5004004 .int)), (76, .one (.int .i64)), (77, .one (.int .i64))]
noncomputable def s39_4 (f70 : Int × Int × Int × Unit → Option (Bool × Unit)) (f72 : List Cue × Str × Int × Unit → Option (Int × Unit)) (f71 : Int × Int × Unit → Option (Int × Unit)) (f73 : Int × List Int × Unit → Option (List Int × Unit)) (t10 : Int × (List Device × List Cue × List Gust × Int × Unit) × List Int × List Int × List Device × Int × Int × List Int × Int × Int × Unit) (rec K : Int × (List Device × List Cue × List Gust × Int × Unit) × List Int × List Int × List Device × Int × Int × List Int × Int × Int × Unit → Option (List Int × Unit)) : Option (List Int × Unit) :=
  cond (decide (t10.2.2.2.2.2.2.2.2.2.1 < t10.2.2.2.2.2.2.2.2.1)) (rdL t10.2.2.2.2.2.2.2.1 t10.2.2.2.2.2.2.2.2.2.1 fun _ => (t10.2.2.2.2.2.2.2.1[(Int.toNat t10.2.2.2.2.2.2.2.2.2.1)]?).bind fun d11 => rdL t10.2.2.2.1 t10.2.2.2.2.2.2.2.2.2.1 fun _ => (t10.2.2.2.1[(Int.toNat t10.2.2.2.2.2.2.2.2.2.1)]?).bind fun d12 => rdL t10.2.2.1 d12 fun _ => (t10.2.2.1[(Int.toNat d12)]?).bind fun d13 => rec (t10.1, (t10.2.1.1, t10.2.1.2.1, t10.2.1.2.2.1, t10.2.1.2.2.2.1, ()), (List.set t10.2.2.1 (Int.toNat d12) d11), t10.2.2.2.1, t10.2.2.2.2.1, t10.2.2.2.2.2.1, t10.2.2.2.2.2.2.1, t10.2.2.2.2.2.2.2.1, t10.2.2.2.2.2.2.2.2.1, (w64 (t10.2.2.2.2.2.2.2.2.2.1 + 1)), ())) (K (t10.1, (t10.2.1.1, t10.2.1.2.1, t10.2.1.2.2.1, t10.2.1.2.2.2.1, ()), t10.2.2.1, t10.2.2.2.1, t10.2.2.2.2.1, t10.2.2.2.2.2.1, t10.2.2.2.2.2.2.1, t10.2.2.2.2.2.2.2.1, t10.2.2.2.2.2.2.2.2.1, t10.2.2.2.2.2.2.2.2.2.1, ()))
def q39_0 : List SP := pat 92 0 [(1, .one (.int .i64)), (2, .box 5000001 [.r .device, .r .cue, .r .gust, .int .i64]), (5, .one (.o 5000002 .int)), (19, .one (.r .device)), (20, .one (.int .i64)), (21, .one (.int .i64))]
noncomputable def s39_0 (f70 : Int × Int × Int × Unit → Option (Bool × Unit)) (f72 : List Cue × Str × Int × Unit → Option (Int × Unit)) (f71 : Int × Int × Unit → Option (Int × Unit)) (f73 : Int × List Int × Unit → Option (List Int × Unit)) (t1 : Int × (List Device × List Cue × List Gust × Int × Unit) × List Int × List Device × Int × Int × Unit) (rec K : Int × (List Device × List Cue × List Gust × Int × Unit) × List Int × List Device × Int × Int × Unit → Option (List Int × Unit)) : Option (List Int × Unit) :=
  cond (decide (t1.2.2.2.2.2.1 < t1.2.2.2.2.1)) (rdL t1.2.2.2.1 t1.2.2.2.2.2.1 fun d2 => iterF (s39_2 f70 f72 f71 f73) fuel (t1.1, (t1.2.1.1, t1.2.1.2.1, t1.2.1.2.2.1, t1.2.1.2.2.2.1, ()), t1.2.2.1, d2, ([] : List Int), ([] : List Int), t1.2.2.2.1, t1.2.2.2.2.1, t1.2.2.2.2.2.1, t1.2.1.1, (Int.ofNat (List.length t1.2.1.1)), 0, ()) fun t8 => cond (decide ((Int.ofNat (List.length t8.2.2.2.2.1)) > 0)) ((f73 (t8.2.2.2.1.Most, t8.2.2.2.2.1, ())).bind fun x9 => iterF (s39_4 f70 f72 f71 f73) fuel (t8.1, (t8.2.1.1, t8.2.1.2.1, t8.2.1.2.2.1, t8.2.1.2.2.2.1, ()), t8.2.2.1, t8.2.2.2.2.2.1, t8.2.2.2.2.2.2.1, t8.2.2.2.2.2.2.2.1, t8.2.2.2.2.2.2.2.2.1, x9.1, (Int.ofNat (List.length x9.1)), 0, ()) fun t14 => rec (t14.1, (t14.2.1.1, t14.2.1.2.1, t14.2.1.2.2.1, t14.2.1.2.2.2.1, ()), t14.2.2.1, t14.2.2.2.2.1, t14.2.2.2.2.2.1, (w64 (t14.2.2.2.2.2.2.1 + 1)), ())) (rec (t8.1, (t8.2.1.1, t8.2.1.2.1, t8.2.1.2.2.1, t8.2.1.2.2.2.1, ()), t8.2.2.1, t8.2.2.2.2.2.2.1, t8.2.2.2.2.2.2.2.1, (w64 (t8.2.2.2.2.2.2.2.2.1 + 1)), ()))) (K (t1.1, (t1.2.1.1, t1.2.1.2.1, t1.2.1.2.2.1, t1.2.1.2.2.2.1, ()), t1.2.2.1, t1.2.2.2.1, t1.2.2.2.2.1, t1.2.2.2.2.2.1, ()))
noncomputable def F39 (f70 : Int × Int × Int × Unit → Option (Bool × Unit)) (f72 : List Cue × Str × Int × Unit → Option (Int × Unit)) (f71 : Int × Int × Unit → Option (Int × Unit)) (f73 : Int × List Int × Unit → Option (List Int × Unit)) (a : (List Device × List Cue × List Gust × Int × Unit) × Int × Unit) : Option (List Int × Unit) :=
  okIf (0 ≤ (Int.ofNat (List.length a.1.1))) (capK (Int.toNat (Int.ofNat (List.length a.1.1))) (iterF (s39_0 f70 f72 f71 f73) fuel (a.2.1, (a.1.1, a.1.2.1, a.1.2.2.1, a.1.2.2.2.1, ()), (List.replicate (Int.toNat (Int.ofNat (List.length a.1.1))) (Ty.zero .int)), a.1.1, (Int.ofNat (List.length a.1.1)), 0, ()) fun t15 => some (t15.2.2.1, ())))
def E39 (f70 : Int × Int × Int × Unit → Option (Bool × Unit)) (f72 : List Cue × Str × Int × Unit → Option (Int × Unit)) (f71 : Int × Int × Unit → Option (Int × Unit)) (f73 : Int × List Int × Unit → Option (List Int × Unit)) : Env := envL [(70, mkE p70 r70 false f70), (72, mkE p72 r72 false f72), (71, mkE p71 r71 false f71), (73, mkE p73 r73 false f73)]
noncomputable def L39 (f70 : Int × Int × Int × Unit → Option (Bool × Unit)) (f72 : List Cue × Str × Int × Unit → Option (Int × Unit)) (f71 : Int × Int × Unit → Option (Int × Unit)) (f73 : Int × List Int × Unit → Option (List Int × Unit)) : LEnv (densS (muts p39 ++ r39)) := lenv [(0, loopL (R := densS (muts p39 ++ r39)) q39_0 (s39_0 f70 f72 f71 f73)), (2, loopL (R := densS (muts p39 ++ r39)) q39_2 (s39_2 f70 f72 f71 f73)), (4, loopL (R := densS (muts p39 ++ r39)) q39_4 (s39_4 f70 f72 f71 f73))]
theorem e39_0 (f70 : Int × Int × Int × Unit → Option (Bool × Unit)) (f72 : List Cue × Str × Int × Unit → Option (Int × Unit)) (f71 : Int × Int × Unit → Option (Int × Unit)) (f73 : Int × List Int × Unit → Option (List Int × Unit)) (X : Nat → St → Option (densS (muts p39 ++ r39))) (rec K : densS q39_0 → Option (densS (muts p39 ++ r39))) (t : densS q39_0) :
    ev (E39 f70 f72 f71 f73) tab (fun _ => false) (L39 f70 f72 f71 f73) (retK tab p39 r39 Proofs.Try.f39.results.toList) (loopC Proofs.Try.f39 0) (fun i s => cond (Nat.beq i 0) (decK 100 q39_0 s K) (X i s)) (fun s => decK 100 q39_0 s rec) (enc q39_0 t) = s39_0 f70 f72 f71 f73 t rec K := by kernel_rfl
theorem e39_2 (f70 : Int × Int × Int × Unit → Option (Bool × Unit)) (f72 : List Cue × Str × Int × Unit → Option (Int × Unit)) (f71 : Int × Int × Unit → Option (Int × Unit)) (f73 : Int × List Int × Unit → Option (List Int × Unit)) (X : Nat → St → Option (densS (muts p39 ++ r39))) (rec K : densS q39_2 → Option (densS (muts p39 ++ r39))) (t : densS q39_2) :
    ev (E39 f70 f72 f71 f73) tab (fun _ => false) (L39 f70 f72 f71 f73) (retK tab p39 r39 Proofs.Try.f39.results.toList) (loopC Proofs.Try.f39 1) (fun i s => cond (Nat.beq i 2) (decK 100 q39_2 s K) (X i s)) (fun s => decK 100 q39_2 s rec) (enc q39_2 t) = s39_2 f70 f72 f71 f73 t rec K := by kernel_rfl
theorem e39_4 (f70 : Int × Int × Int × Unit → Option (Bool × Unit)) (f72 : List Cue × Str × Int × Unit → Option (Int × Unit)) (f71 : Int × Int × Unit → Option (Int × Unit)) (f73 : Int × List Int × Unit → Option (List Int × Unit)) (X : Nat → St → Option (densS (muts p39 ++ r39))) (rec K : densS q39_4 → Option (densS (muts p39 ++ r39))) (t : densS q39_4) :
    ev (E39 f70 f72 f71 f73) tab (fun _ => false) (L39 f70 f72 f71 f73) (retK tab p39 r39 Proofs.Try.f39.results.toList) (loopC Proofs.Try.f39 2) (fun i s => cond (Nat.beq i 4) (decK 100 q39_4 s K) (X i s)) (fun s => decK 100 q39_4 s rec) (enc q39_4 t) = s39_4 f70 f72 f71 f73 t rec K := by kernel_rfl
theorem e39 (f70 : Int × Int × Int × Unit → Option (Bool × Unit)) (f72 : List Cue × Str × Int × Unit → Option (Int × Unit)) (f71 : Int × Int × Unit → Option (Int × Unit)) (f73 : Int × List Int × Unit → Option (List Int × Unit)) (a : densS p39) : runF (E39 f70 f72 f71 f73) tab (fun _ => false) p39 r39 Proofs.Try.f39 (L39 f70 f72 f71 f73) a = F39 f70 f72 f71 f73 a := by kernel_rfl
theorem ok39 {f70 : Int × Int × Int × Unit → Option (Bool × Unit)} {f72 : List Cue × Str × Int × Unit → Option (Int × Unit)} {f71 : Int × Int × Unit → Option (Int × Unit)} {f73 : Int × List Int × Unit → Option (List Int × Unit)} (h70 : OK Proofs.Try.prog 70 (mkE p70 r70 false f70)) (h72 : OK Proofs.Try.prog 72 (mkE p72 r72 false f72)) (h71 : OK Proofs.Try.prog 71 (mkE p71 r71 false f71)) (h73 : OK Proofs.Try.prog 73 (mkE p73 r73 false f73)) : OK Proofs.Try.prog 39 (mkE p39 r39 false (F39 f70 f72 f71 f73)) :=
  fn_ok tab_ok (envL_ok (l := [(70, mkE p70 r70 false f70), (72, mkE p72 r72 false f72), (71, mkE p71 r71 false f71), (73, mkE p73 r73 false f73)]) (OKs.cons h70 (OKs.cons h72 (OKs.cons h71 (OKs.cons h73 OKs.nil))))) mixed (ann := (fun _ => false)) (L := L39 f70 f72 f71 f73) (fn := Proofs.Try.f39) (c := bodyC Proofs.Try.f39) (ls := [(0, loopC Proofs.Try.f39 0), (2, loopC Proofs.Try.f39 1), (4, loopC Proofs.Try.f39 2)]) Proofs.Try.func39 (by kernel_rfl) (by kernel_rfl) (by kernel_rfl) (by kernel_rfl)
    (LoopsP.cons q39_0 (s39_0 f70 f72 f71 f73) rfl (e39_0 f70 f72 f71 f73) (LoopsP.cons q39_2 (s39_2 f70 f72 f71 f73) rfl (e39_2 f70 f72 f71 f73) (LoopsP.cons q39_4 (s39_4 f70 f72 f71 f73) rfl (e39_4 f70 f72 f71 f73) LoopsP.nil))) (e39 f70 f72 f71 f73)
/-! spec.LiftsAt -/
def p11 : List SP := [.agg [.r .device, .r .cue, .r .gust, .int .i64], .one (.int .i64)]
def r11 : List SP := [.one (.o 0 .int)]
noncomputable def F11 (f38 : (List Device × List Cue × List Gust × Int × Unit) × Unit → Option (Bool × Unit)) (f39 : (List Device × List Cue × List Gust × Int × Unit) × Int × Unit → Option (List Int × Unit)) (a : (List Device × List Cue × List Gust × Int × Unit) × Int × Unit) : Option (List Int × Unit) :=
  (f38 ((a.1.1, a.1.2.1, a.1.2.2.1, a.1.2.2.2.1, ()), ())).bind fun x1 => cond (!x1.1) (some (([] : List Int), ())) ((f39 ((a.1.1, a.1.2.1, a.1.2.2.1, a.1.2.2.2.1, ()), a.2.1, ())).bind fun x2 => some (x2.1, ()))
def E11 (f38 : (List Device × List Cue × List Gust × Int × Unit) × Unit → Option (Bool × Unit)) (f39 : (List Device × List Cue × List Gust × Int × Unit) × Int × Unit → Option (List Int × Unit)) : Env := envL [(38, mkE p38 r38 false f38), (39, mkE p39 r39 false f39)]
noncomputable def L11 (f38 : (List Device × List Cue × List Gust × Int × Unit) × Unit → Option (Bool × Unit)) (f39 : (List Device × List Cue × List Gust × Int × Unit) × Int × Unit → Option (List Int × Unit)) : LEnv (densS (muts p11 ++ r11)) := lenv []
theorem e11 (f38 : (List Device × List Cue × List Gust × Int × Unit) × Unit → Option (Bool × Unit)) (f39 : (List Device × List Cue × List Gust × Int × Unit) × Int × Unit → Option (List Int × Unit)) (a : densS p11) : runF (E11 f38 f39) tab (fun _ => false) p11 r11 Proofs.Try.f11 (L11 f38 f39) a = F11 f38 f39 a := by kernel_rfl
theorem ok11 {f38 : (List Device × List Cue × List Gust × Int × Unit) × Unit → Option (Bool × Unit)} {f39 : (List Device × List Cue × List Gust × Int × Unit) × Int × Unit → Option (List Int × Unit)} (h38 : OK Proofs.Try.prog 38 (mkE p38 r38 false f38)) (h39 : OK Proofs.Try.prog 39 (mkE p39 r39 false f39)) : OK Proofs.Try.prog 11 (mkE p11 r11 false (F11 f38 f39)) :=
  fn_ok tab_ok (envL_ok (l := [(38, mkE p38 r38 false f38), (39, mkE p39 r39 false f39)]) (OKs.cons h38 (OKs.cons h39 OKs.nil))) mixed (ann := (fun _ => false)) (L := L11 f38 f39) (fn := Proofs.Try.f11) (c := bodyC Proofs.Try.f11) (ls := []) Proofs.Try.func11 (by kernel_rfl) (by kernel_rfl) (by kernel_rfl) (by kernel_rfl)
    LoopsP.nil (e11 f38 f39)
/-! impl.isWithin -/
def p44 : List SP := [.one (.int .i64), .one (.int .i64), .one (.int .i64)]
def r44 : List SP := [.one (.bool)]
noncomputable def F44 (a : Int × Int × Int × Unit) : Option (Bool × Unit) :=
  cond (decide (a.2.1 ≤ a.1)) (some ((decide (a.1 ≤ a.2.2.1)), ())) (some (false, ()))
def E44 : Env := envL []
noncomputable def L44 : LEnv (densS (muts p44 ++ r44)) := lenv []
theorem e44 (a : densS p44) : runF (E44) tab (fun _ => false) p44 r44 Proofs.Try.f44 (L44) a = F44 a := by kernel_rfl
theorem ok44 : OK Proofs.Try.prog 44 (mkE p44 r44 false (F44)) :=
  fn_ok tab_ok (envL_ok (l := []) OKs.nil) mixed (ann := (fun _ => false)) (L := L44) (fn := Proofs.Try.f44) (c := bodyC Proofs.Try.f44) (ls := []) Proofs.Try.func44 (by kernel_rfl) (by kernel_rfl) (by kernel_rfl) (by kernel_rfl)
    LoopsP.nil (e44)
/-! impl.IsName -/
def p122 : List SP := [.one (.str)]
def r122 : List SP := [.one (.bool)]
def q122_0 : List SP := pat 42 0 [(0, .one (.str)), (6, .one (.int .i64)), (7, .one (.int .i64))]
noncomputable def s122_0 (f44 : Int × Int × Int × Unit → Option (Bool × Unit)) (t1 : Str × Int × Int × Unit) (rec K : Str × Int × Int × Unit → Option (Bool × Unit)) : Option (Bool × Unit) :=
  cond (decide (t1.2.2.1 < t1.2.1)) (rdL t1.1 t1.2.2.1 fun d2 => cond (decide ((Int.ofNat (UInt8.toNat d2)) ≥ 97)) (rdL t1.1 t1.2.2.1 fun d3 => cond (!(decide ((Int.ofNat (UInt8.toNat d3)) ≤ 122))) (cond (!(decide (t1.2.2.1 = 0))) (rdL t1.1 t1.2.2.1 fun d4 => cond (!(decide ((Int.ofNat (UInt8.toNat d4)) < 48))) (rdL t1.1 t1.2.2.1 fun d5 => cond (decide ((Int.ofNat (UInt8.toNat d5)) > 57)) (some (false, ())) (rec (t1.1, t1.2.1, (w64 (t1.2.2.1 + 1)), ()))) (some (false, ()))) (some (false, ()))) (rec (t1.1, t1.2.1, (w64 (t1.2.2.1 + 1)), ()))) (cond (!(decide (t1.2.2.1 = 0))) (rdL t1.1 t1.2.2.1 fun d6 => cond (!(decide ((Int.ofNat (UInt8.toNat d6)) < 48))) (rdL t1.1 t1.2.2.1 fun d7 => cond (decide ((Int.ofNat (UInt8.toNat d7)) > 57)) (some (false, ())) (rec (t1.1, t1.2.1, (w64 (t1.2.2.1 + 1)), ()))) (some (false, ()))) (some (false, ())))) (K (t1.1, t1.2.1, t1.2.2.1, ()))
noncomputable def F122 (f44 : Int × Int × Int × Unit → Option (Bool × Unit)) (a : Str × Unit) : Option (Bool × Unit) :=
  iterF (s122_0 f44) fuel (a.1, (Int.ofNat (List.length a.1)), 0, ()) fun t8 => (f44 ((Int.ofNat (List.length t8.1)), 1, 8, ())).bind fun x9 => some (x9.1, ())
def E122 (f44 : Int × Int × Int × Unit → Option (Bool × Unit)) : Env := envL [(44, mkE p44 r44 false f44)]
noncomputable def L122 (f44 : Int × Int × Int × Unit → Option (Bool × Unit)) : LEnv (densS (muts p122 ++ r122)) := lenv [(0, loopL (R := densS (muts p122 ++ r122)) q122_0 (s122_0 f44))]
theorem e122_0 (f44 : Int × Int × Int × Unit → Option (Bool × Unit)) (X : Nat → St → Option (densS (muts p122 ++ r122))) (rec K : densS q122_0 → Option (densS (muts p122 ++ r122))) (t : densS q122_0) :
    ev (E122 f44) tab (fun _ => false) (L122 f44) (retK tab p122 r122 Proofs.Try.f122.results.toList) (loopC Proofs.Try.f122 0) (fun i s => cond (Nat.beq i 0) (decK 100 q122_0 s K) (X i s)) (fun s => decK 100 q122_0 s rec) (enc q122_0 t) = s122_0 f44 t rec K := by kernel_rfl
theorem e122 (f44 : Int × Int × Int × Unit → Option (Bool × Unit)) (a : densS p122) : runF (E122 f44) tab (fun _ => false) p122 r122 Proofs.Try.f122 (L122 f44) a = F122 f44 a := by kernel_rfl
theorem ok122 {f44 : Int × Int × Int × Unit → Option (Bool × Unit)} (h44 : OK Proofs.Try.prog 44 (mkE p44 r44 false f44)) : OK Proofs.Try.prog 122 (mkE p122 r122 false (F122 f44)) :=
  fn_ok tab_ok (envL_ok (l := [(44, mkE p44 r44 false f44)]) (OKs.cons h44 OKs.nil)) mixed (ann := (fun _ => false)) (L := L122 f44) (fn := Proofs.Try.f122) (c := bodyC Proofs.Try.f122) (ls := [(0, loopC Proofs.Try.f122 0)]) Proofs.Try.func122 (by kernel_rfl) (by kernel_rfl) (by kernel_rfl) (by kernel_rfl)
    (LoopsP.cons q122_0 (s122_0 f44) rfl (e122_0 f44) LoopsP.nil) (e122 f44)
/-! impl.isSupply -/
def p82 : List SP := [.one (.int .i64)]
def r82 : List SP := [.one (.bool)]
noncomputable def F82 (f44 : Int × Int × Int × Unit → Option (Bool × Unit)) (a : Int × Unit) : Option (Bool × Unit) :=
  (f44 (a.1, 0, 512, ())).bind fun x1 => some (x1.1, ())
def E82 (f44 : Int × Int × Int × Unit → Option (Bool × Unit)) : Env := envL [(44, mkE p44 r44 false f44)]
noncomputable def L82 (f44 : Int × Int × Int × Unit → Option (Bool × Unit)) : LEnv (densS (muts p82 ++ r82)) := lenv []
theorem e82 (f44 : Int × Int × Int × Unit → Option (Bool × Unit)) (a : densS p82) : runF (E82 f44) tab (fun _ => false) p82 r82 Proofs.Try.f82 (L82 f44) a = F82 f44 a := by kernel_rfl
theorem ok82 {f44 : Int × Int × Int × Unit → Option (Bool × Unit)} (h44 : OK Proofs.Try.prog 44 (mkE p44 r44 false f44)) : OK Proofs.Try.prog 82 (mkE p82 r82 false (F82 f44)) :=
  fn_ok tab_ok (envL_ok (l := [(44, mkE p44 r44 false f44)]) (OKs.cons h44 OKs.nil)) mixed (ann := (fun _ => false)) (L := L82 f44) (fn := Proofs.Try.f82) (c := bodyC Proofs.Try.f82) (ls := []) Proofs.Try.func82 (by kernel_rfl) (by kernel_rfl) (by kernel_rfl) (by kernel_rfl)
    LoopsP.nil (e82 f44)
/-! impl.IsHeading -/
def p127 : List SP := [.one (.int .i64)]
def r127 : List SP := [.one (.bool)]
noncomputable def F127 (f44 : Int × Int × Int × Unit → Option (Bool × Unit)) (a : Int × Unit) : Option (Bool × Unit) :=
  (f44 (a.1, 0, 3, ())).bind fun x1 => some (x1.1, ())
def E127 (f44 : Int × Int × Int × Unit → Option (Bool × Unit)) : Env := envL [(44, mkE p44 r44 false f44)]
noncomputable def L127 (f44 : Int × Int × Int × Unit → Option (Bool × Unit)) : LEnv (densS (muts p127 ++ r127)) := lenv []
theorem e127 (f44 : Int × Int × Int × Unit → Option (Bool × Unit)) (a : densS p127) : runF (E127 f44) tab (fun _ => false) p127 r127 Proofs.Try.f127 (L127 f44) a = F127 f44 a := by kernel_rfl
theorem ok127 {f44 : Int × Int × Int × Unit → Option (Bool × Unit)} (h44 : OK Proofs.Try.prog 44 (mkE p44 r44 false f44)) : OK Proofs.Try.prog 127 (mkE p127 r127 false (F127 f44)) :=
  fn_ok tab_ok (envL_ok (l := [(44, mkE p44 r44 false f44)]) (OKs.cons h44 OKs.nil)) mixed (ann := (fun _ => false)) (L := L127 f44) (fn := Proofs.Try.f127) (c := bodyC Proofs.Try.f127) (ls := []) Proofs.Try.func127 (by kernel_rfl) (by kernel_rfl) (by kernel_rfl) (by kernel_rfl)
    LoopsP.nil (e127 f44)
/-! impl.IsJet -/
def p115 : List SP := [.t .jet]
def r115 : List SP := [.one (.bool)]
noncomputable def F115 (f44 : Int × Int × Int × Unit → Option (Bool × Unit)) (f127 : Int × Unit → Option (Bool × Unit)) (a : Jet × Unit) : Option (Bool × Unit) :=
  (f44 (a.1.At.X, (-1024), 1024, ())).bind fun x1 => cond x1.1 ((f44 (a.1.At.Y, (-1024), 1024, ())).bind fun x2 => cond x2.1 ((f127 (a.1.Heading, ())).bind fun x3 => cond x3.1 ((f44 (a.1.Tilt, 0, 16, ())).bind fun x4 => cond x4.1 ((f44 (a.1.Lift, 1, 32, ())).bind fun x5 => some (x5.1, ())) (some (false, ()))) (some (false, ()))) (some (false, ()))) (some (false, ()))
def E115 (f44 : Int × Int × Int × Unit → Option (Bool × Unit)) (f127 : Int × Unit → Option (Bool × Unit)) : Env := envL [(44, mkE p44 r44 false f44), (127, mkE p127 r127 false f127)]
noncomputable def L115 (f44 : Int × Int × Int × Unit → Option (Bool × Unit)) (f127 : Int × Unit → Option (Bool × Unit)) : LEnv (densS (muts p115 ++ r115)) := lenv []
theorem e115 (f44 : Int × Int × Int × Unit → Option (Bool × Unit)) (f127 : Int × Unit → Option (Bool × Unit)) (a : densS p115) : runF (E115 f44 f127) tab (fun _ => false) p115 r115 Proofs.Try.f115 (L115 f44 f127) a = F115 f44 f127 a := by kernel_rfl
theorem ok115 {f44 : Int × Int × Int × Unit → Option (Bool × Unit)} {f127 : Int × Unit → Option (Bool × Unit)} (h44 : OK Proofs.Try.prog 44 (mkE p44 r44 false f44)) (h127 : OK Proofs.Try.prog 127 (mkE p127 r127 false f127)) : OK Proofs.Try.prog 115 (mkE p115 r115 false (F115 f44 f127)) :=
  fn_ok tab_ok (envL_ok (l := [(44, mkE p44 r44 false f44), (127, mkE p127 r127 false f127)]) (OKs.cons h44 (OKs.cons h127 OKs.nil))) mixed (ann := (fun _ => false)) (L := L115 f44 f127) (fn := Proofs.Try.f115) (c := bodyC Proofs.Try.f115) (ls := []) Proofs.Try.func115 (by kernel_rfl) (by kernel_rfl) (by kernel_rfl) (by kernel_rfl)
    LoopsP.nil (e115 f44 f127)
/-! impl.IsMeasure -/
def p112 : List SP := [.one (.int .i64)]
def r112 : List SP := [.one (.bool)]
noncomputable def F112 (f44 : Int × Int × Int × Unit → Option (Bool × Unit)) (a : Int × Unit) : Option (Bool × Unit) :=
  (f44 (a.1, (-4096), 4096, ())).bind fun x1 => some (x1.1, ())
def E112 (f44 : Int × Int × Int × Unit → Option (Bool × Unit)) : Env := envL [(44, mkE p44 r44 false f44)]
noncomputable def L112 (f44 : Int × Int × Int × Unit → Option (Bool × Unit)) : LEnv (densS (muts p112 ++ r112)) := lenv []
theorem e112 (f44 : Int × Int × Int × Unit → Option (Bool × Unit)) (a : densS p112) : runF (E112 f44) tab (fun _ => false) p112 r112 Proofs.Try.f112 (L112 f44) a = F112 f44 a := by kernel_rfl
theorem ok112 {f44 : Int × Int × Int × Unit → Option (Bool × Unit)} (h44 : OK Proofs.Try.prog 44 (mkE p44 r44 false f44)) : OK Proofs.Try.prog 112 (mkE p112 r112 false (F112 f44)) :=
  fn_ok tab_ok (envL_ok (l := [(44, mkE p44 r44 false f44)]) (OKs.cons h44 OKs.nil)) mixed (ann := (fun _ => false)) (L := L112 f44) (fn := Proofs.Try.f112) (c := bodyC Proofs.Try.f112) (ls := []) Proofs.Try.func112 (by kernel_rfl) (by kernel_rfl) (by kernel_rfl) (by kernel_rfl)
    LoopsP.nil (e112 f44)
/-! impl.IsPlace -/
def p123 : List SP := [.t .place]
def r123 : List SP := [.one (.bool)]
noncomputable def F123 (f112 : Int × Unit → Option (Bool × Unit)) (a : Place × Unit) : Option (Bool × Unit) :=
  (f112 (a.1.X, ())).bind fun x1 => cond x1.1 ((f112 (a.1.Y, ())).bind fun x2 => some (x2.1, ())) (some (false, ()))
def E123 (f112 : Int × Unit → Option (Bool × Unit)) : Env := envL [(112, mkE p112 r112 false f112)]
noncomputable def L123 (f112 : Int × Unit → Option (Bool × Unit)) : LEnv (densS (muts p123 ++ r123)) := lenv []
theorem e123 (f112 : Int × Unit → Option (Bool × Unit)) (a : densS p123) : runF (E123 f112) tab (fun _ => false) p123 r123 Proofs.Try.f123 (L123 f112) a = F123 f112 a := by kernel_rfl
theorem ok123 {f112 : Int × Unit → Option (Bool × Unit)} (h112 : OK Proofs.Try.prog 112 (mkE p112 r112 false f112)) : OK Proofs.Try.prog 123 (mkE p123 r123 false (F123 f112)) :=
  fn_ok tab_ok (envL_ok (l := [(112, mkE p112 r112 false f112)]) (OKs.cons h112 OKs.nil)) mixed (ann := (fun _ => false)) (L := L123 f112) (fn := Proofs.Try.f123) (c := bodyC Proofs.Try.f123) (ls := []) Proofs.Try.func123 (by kernel_rfl) (by kernel_rfl) (by kernel_rfl) (by kernel_rfl)
    LoopsP.nil (e123 f112)
/-! impl.IsDevice -/
def p107 : List SP := [.t .device]
def r107 : List SP := [.one (.bool)]
noncomputable def F107 (f122 : Str × Unit → Option (Bool × Unit)) (f82 : Int × Unit → Option (Bool × Unit)) (f115 : Jet × Unit → Option (Bool × Unit)) (f44 : Int × Int × Int × Unit → Option (Bool × Unit)) (f123 : Place × Unit → Option (Bool × Unit)) (a : Device × Unit) : Option (Bool × Unit) :=
  (f122 (a.1.Name, ())).bind fun x1 => cond (!x1.1) (some (false, ())) (cond (decide (a.1.Kind = 1)) (cond (decide (a.1.Name = a.1.Name) && (decide (a.1.Kind = a.1.Kind) && (decide (a.1.Line = []) && (decide (a.1.At.X = 0) && (decide (a.1.At.Y = 0) && (decide (a.1.Heading = 0) && (decide (a.1.Tilt = 0) && (decide (a.1.Most = a.1.Most) && true)))))))) ((f82 (a.1.Most, ())).bind fun x2 => some (x2.1, ())) (some (false, ()))) (cond (decide (a.1.Kind = 2)) ((f122 (a.1.Line, ())).bind fun x3 => cond x3.1 (cond (!decide (a.1.Line = a.1.Name)) ((f115 ((⟨⟨a.1.At.X, a.1.At.Y⟩, a.1.Heading, a.1.Tilt, 1⟩ : Jet), ())).bind fun x4 => cond x4.1 ((f44 (a.1.Most, 0, 32, ())).bind fun x5 => some (x5.1, ())) (some (false, ()))) (some (false, ()))) (some (false, ()))) (cond (decide (a.1.Kind = 3)) (cond (decide (a.1.Name = a.1.Name) && (decide (a.1.Kind = a.1.Kind) && (decide (a.1.Line = a.1.Line) && (decide (a.1.At.X = a.1.At.X) && (decide (a.1.At.Y = a.1.At.Y) && (decide (a.1.Heading = 0) && (decide (a.1.Tilt = 0) && (decide (a.1.Most = 0) && true)))))))) ((f122 (a.1.Line, ())).bind fun x6 => cond x6.1 (cond (!decide (a.1.Line = a.1.Name)) ((f123 (a.1.At, ())).bind fun x7 => some (x7.1, ())) (some (false, ()))) (some (false, ()))) (some (false, ()))) (some (false, ())))))
def E107 (f122 : Str × Unit → Option (Bool × Unit)) (f82 : Int × Unit → Option (Bool × Unit)) (f115 : Jet × Unit → Option (Bool × Unit)) (f44 : Int × Int × Int × Unit → Option (Bool × Unit)) (f123 : Place × Unit → Option (Bool × Unit)) : Env := envL [(122, mkE p122 r122 false f122), (82, mkE p82 r82 false f82), (115, mkE p115 r115 false f115), (44, mkE p44 r44 false f44), (123, mkE p123 r123 false f123)]
noncomputable def L107 (f122 : Str × Unit → Option (Bool × Unit)) (f82 : Int × Unit → Option (Bool × Unit)) (f115 : Jet × Unit → Option (Bool × Unit)) (f44 : Int × Int × Int × Unit → Option (Bool × Unit)) (f123 : Place × Unit → Option (Bool × Unit)) : LEnv (densS (muts p107 ++ r107)) := lenv []
theorem e107 (f122 : Str × Unit → Option (Bool × Unit)) (f82 : Int × Unit → Option (Bool × Unit)) (f115 : Jet × Unit → Option (Bool × Unit)) (f44 : Int × Int × Int × Unit → Option (Bool × Unit)) (f123 : Place × Unit → Option (Bool × Unit)) (a : densS p107) : runF (E107 f122 f82 f115 f44 f123) tab (fun _ => false) p107 r107 Proofs.Try.f107 (L107 f122 f82 f115 f44 f123) a = F107 f122 f82 f115 f44 f123 a := by kernel_rfl
theorem ok107 {f122 : Str × Unit → Option (Bool × Unit)} {f82 : Int × Unit → Option (Bool × Unit)} {f115 : Jet × Unit → Option (Bool × Unit)} {f44 : Int × Int × Int × Unit → Option (Bool × Unit)} {f123 : Place × Unit → Option (Bool × Unit)} (h122 : OK Proofs.Try.prog 122 (mkE p122 r122 false f122)) (h82 : OK Proofs.Try.prog 82 (mkE p82 r82 false f82)) (h115 : OK Proofs.Try.prog 115 (mkE p115 r115 false f115)) (h44 : OK Proofs.Try.prog 44 (mkE p44 r44 false f44)) (h123 : OK Proofs.Try.prog 123 (mkE p123 r123 false f123)) : OK Proofs.Try.prog 107 (mkE p107 r107 false (F107 f122 f82 f115 f44 f123)) :=
  fn_ok tab_ok (envL_ok (l := [(122, mkE p122 r122 false f122), (82, mkE p82 r82 false f82), (115, mkE p115 r115 false f115), (44, mkE p44 r44 false f44), (123, mkE p123 r123 false f123)]) (OKs.cons h122 (OKs.cons h82 (OKs.cons h115 (OKs.cons h44 (OKs.cons h123 OKs.nil)))))) mixed (ann := (fun _ => false)) (L := L107 f122 f82 f115 f44 f123) (fn := Proofs.Try.f107) (c := bodyC Proofs.Try.f107) (ls := []) Proofs.Try.func107 (by kernel_rfl) (by kernel_rfl) (by kernel_rfl) (by kernel_rfl)
    LoopsP.nil (e107 f122 f82 f115 f44 f123)
/-! impl.FindDevice$1 -/
def p90 : List SP := [.t .device, .sp [.str]]
def r90 : List SP := [.one (.bool)]
noncomputable def F90 (a : Device × (Str × Unit) × Unit) : Option (Bool × Unit) :=
  some ((decide (a.1.Name = a.2.1.1)), ())
def E90 : Env := envL []
noncomputable def L90 : LEnv (densS (muts p90 ++ r90)) := lenv []
theorem e90 (a : densS p90) : runF (E90) tab (fun _ => false) p90 r90 Proofs.Try.f90 (L90) a = F90 a := by kernel_rfl
theorem ok90 : OK Proofs.Try.prog 90 (mkE p90 r90 false (F90)) :=
  fn_ok tab_ok (envL_ok (l := []) OKs.nil) mixed (ann := (fun _ => false)) (L := L90) (fn := Proofs.Try.f90) (c := bodyC Proofs.Try.f90) (ls := []) Proofs.Try.func90 (by kernel_rfl) (by kernel_rfl) (by kernel_rfl) (by kernel_rfl)
    LoopsP.nil (e90)
/-! slices.IndexFunc[[]impl.Device,impl.Device] -/
def p89 : List SP := [.one (.r .device), .fn 90 [.str]]
def r89 : List SP := [.one (.int .i64)]
def q89_0 : List SP := pat 19 0 [(0, .one (.r .device)), (1, .fn 90 [.str]), (7, .one (.int .i64)), (8, .one (.int .i64))]
noncomputable def s89_0 (f90 : Device × (Str × Unit) × Unit → Option (Bool × Unit)) (t1 : List Device × (Str × Unit) × Int × Int × Unit) (rec K : List Device × (Str × Unit) × Int × Int × Unit → Option (Int × Unit)) : Option (Int × Unit) :=
  cond (decide (t1.2.2.2.1 < t1.2.2.1)) (rdL t1.1 t1.2.2.2.1 fun d2 => (f90 (d2, (t1.2.1.1, ()), ())).bind fun x3 => cond x3.1 (some (t1.2.2.2.1, ())) (rec (t1.1, (t1.2.1.1, ()), t1.2.2.1, (w64 (t1.2.2.2.1 + 1)), ()))) (K (t1.1, (t1.2.1.1, ()), t1.2.2.1, t1.2.2.2.1, ()))
noncomputable def F89 (f90 : Device × (Str × Unit) × Unit → Option (Bool × Unit)) (a : List Device × (Str × Unit) × Unit) : Option (Int × Unit) :=
  iterF (s89_0 f90) fuel (a.1, (a.2.1.1, ()), (Int.ofNat (List.length a.1)), 0, ()) fun t4 => some ((-1), ())
def E89 (f90 : Device × (Str × Unit) × Unit → Option (Bool × Unit)) : Env := envL [(90, mkE p90 r90 false f90)]
noncomputable def L89 (f90 : Device × (Str × Unit) × Unit → Option (Bool × Unit)) : LEnv (densS (muts p89 ++ r89)) := lenv [(0, loopL (R := densS (muts p89 ++ r89)) q89_0 (s89_0 f90))]
theorem e89_0 (f90 : Device × (Str × Unit) × Unit → Option (Bool × Unit)) (X : Nat → St → Option (densS (muts p89 ++ r89))) (rec K : densS q89_0 → Option (densS (muts p89 ++ r89))) (t : densS q89_0) :
    ev (E89 f90) tab (fun _ => false) (L89 f90) (retK tab p89 r89 Proofs.Try.f89.results.toList) (loopC Proofs.Try.f89 0) (fun i s => cond (Nat.beq i 0) (decK 100 q89_0 s K) (X i s)) (fun s => decK 100 q89_0 s rec) (enc q89_0 t) = s89_0 f90 t rec K := by kernel_rfl
theorem e89 (f90 : Device × (Str × Unit) × Unit → Option (Bool × Unit)) (a : densS p89) : runF (E89 f90) tab (fun _ => false) p89 r89 Proofs.Try.f89 (L89 f90) a = F89 f90 a := by kernel_rfl
theorem ok89 {f90 : Device × (Str × Unit) × Unit → Option (Bool × Unit)} (h90 : OK Proofs.Try.prog 90 (mkE p90 r90 false f90)) : OK Proofs.Try.prog 89 (mkE p89 r89 false (F89 f90)) :=
  fn_ok tab_ok (envL_ok (l := [(90, mkE p90 r90 false f90)]) (OKs.cons h90 OKs.nil)) mixed (ann := (fun _ => false)) (L := L89 f90) (fn := Proofs.Try.f89) (c := bodyC Proofs.Try.f89) (ls := [(0, loopC Proofs.Try.f89 0)]) Proofs.Try.func89 (by kernel_rfl) (by kernel_rfl) (by kernel_rfl) (by kernel_rfl)
    (LoopsP.cons q89_0 (s89_0 f90) rfl (e89_0 f90) LoopsP.nil) (e89 f90)
/-! impl.FindDevice -/
def p55 : List SP := [.one (.r .device), .one (.str)]
def r55 : List SP := [.one (.int .i64)]
noncomputable def F55 (f89 : List Device × (Str × Unit) × Unit → Option (Int × Unit)) (a : List Device × Str × Unit) : Option (Int × Unit) :=
  (f89 (a.1, (a.2.1, ()), ())).bind fun x1 => some (x1.1, ())
def E55 (f89 : List Device × (Str × Unit) × Unit → Option (Int × Unit)) : Env := envL [(89, mkE p89 r89 false f89)]
noncomputable def L55 (f89 : List Device × (Str × Unit) × Unit → Option (Int × Unit)) : LEnv (densS (muts p55 ++ r55)) := lenv []
theorem e55 (f89 : List Device × (Str × Unit) × Unit → Option (Int × Unit)) (a : densS p55) : runF (E55 f89) tab (fun _ => false) p55 r55 Proofs.Try.f55 (L55 f89) a = F55 f89 a := by kernel_rfl
theorem ok55 {f89 : List Device × (Str × Unit) × Unit → Option (Int × Unit)} (h89 : OK Proofs.Try.prog 89 (mkE p89 r89 false f89)) : OK Proofs.Try.prog 55 (mkE p55 r55 false (F55 f89)) :=
  fn_ok tab_ok (envL_ok (l := [(89, mkE p89 r89 false f89)]) (OKs.cons h89 OKs.nil)) mixed (ann := (fun _ => false)) (L := L55 f89) (fn := Proofs.Try.f55) (c := bodyC Proofs.Try.f55) (ls := []) Proofs.Try.func55 (by kernel_rfl) (by kernel_rfl) (by kernel_rfl) (by kernel_rfl)
    LoopsP.nil (e55 f89)
/-! impl.isHung -/
def p108 : List SP := [.one (.r .device), .t .device]
def r108 : List SP := [.one (.bool)]
noncomputable def F108 (f55 : List Device × Str × Unit → Option (Int × Unit)) (a : List Device × Device × Unit) : Option (Bool × Unit) :=
  cond (decide (a.2.1.Kind = 1)) (some (true, ())) ((f55 (a.1, a.2.1.Line, ())).bind fun x1 => cond (decide (x1.1 ≥ 0)) (rdL a.1 x1.1 fun d2 => some ((decide (d2.Kind = (w64 (a.2.1.Kind - 1)))), ())) (some (false, ())))
def E108 (f55 : List Device × Str × Unit → Option (Int × Unit)) : Env := envL [(55, mkE p55 r55 false f55)]
noncomputable def L108 (f55 : List Device × Str × Unit → Option (Int × Unit)) : LEnv (densS (muts p108 ++ r108)) := lenv []
theorem e108 (f55 : List Device × Str × Unit → Option (Int × Unit)) (a : densS p108) : runF (E108 f55) tab (fun _ => false) p108 r108 Proofs.Try.f108 (L108 f55) a = F108 f55 a := by kernel_rfl
theorem ok108 {f55 : List Device × Str × Unit → Option (Int × Unit)} (h55 : OK Proofs.Try.prog 55 (mkE p55 r55 false f55)) : OK Proofs.Try.prog 108 (mkE p108 r108 false (F108 f55)) :=
  fn_ok tab_ok (envL_ok (l := [(55, mkE p55 r55 false f55)]) (OKs.cons h55 OKs.nil)) mixed (ann := (fun _ => false)) (L := L108 f55) (fn := Proofs.Try.f108) (c := bodyC Proofs.Try.f108) (ls := []) Proofs.Try.func108 (by kernel_rfl) (by kernel_rfl) (by kernel_rfl) (by kernel_rfl)
    LoopsP.nil (e108 f55)
/-! impl.IsRig -/
def p77 : List SP := [.one (.r .device)]
def r77 : List SP := [.one (.bool)]
def q77_0 : List SP := pat 40 0 [(0, .one (.r .device)), (8, .one (.r .device)), (9, .one (.int .i64)), (10, .one (.int .i64))]
noncomputable def s77_0 (f107 : Device × Unit → Option (Bool × Unit)) (f108 : List Device × Device × Unit → Option (Bool × Unit)) (t1 : List Device × List Device × Int × Int × Unit) (rec K : List Device × List Device × Int × Int × Unit → Option (Bool × Unit)) : Option (Bool × Unit) :=
  cond (decide (t1.2.2.2.1 < t1.2.2.1)) (rdL t1.2.1 t1.2.2.2.1 fun d2 => (f107 (d2, ())).bind fun x3 => cond (!(!x3.1)) (cond (decide (t1.2.2.2.1 > 0)) (rdL t1.1 (w64 (t1.2.2.2.1 - 1)) fun d4 => cond (!(Op.bytesLess d2.Name d4.Name || decide (d2.Name = d4.Name))) ((f108 (t1.1, d2, ())).bind fun x5 => cond (!x5.1) (some (false, ())) (rec (t1.1, t1.2.1, t1.2.2.1, (w64 (t1.2.2.2.1 + 1)), ()))) (some (false, ()))) ((f108 (t1.1, d2, ())).bind fun x6 => cond (!x6.1) (some (false, ())) (rec (t1.1, t1.2.1, t1.2.2.1, (w64 (t1.2.2.2.1 + 1)), ())))) (some (false, ()))) (K (t1.1, t1.2.1, t1.2.2.1, t1.2.2.2.1, ()))
noncomputable def F77 (f107 : Device × Unit → Option (Bool × Unit)) (f108 : List Device × Device × Unit → Option (Bool × Unit)) (a : List Device × Unit) : Option (Bool × Unit) :=
  cond (decide ((Int.ofNat (List.length a.1)) > 8)) (some (false, ())) (iterF (s77_0 f107 f108) fuel (a.1, a.1, (Int.ofNat (List.length a.1)), 0, ()) fun t7 => some (true, ()))
def E77 (f107 : Device × Unit → Option (Bool × Unit)) (f108 : List Device × Device × Unit → Option (Bool × Unit)) : Env := envL [(107, mkE p107 r107 false f107), (108, mkE p108 r108 false f108)]
noncomputable def L77 (f107 : Device × Unit → Option (Bool × Unit)) (f108 : List Device × Device × Unit → Option (Bool × Unit)) : LEnv (densS (muts p77 ++ r77)) := lenv [(0, loopL (R := densS (muts p77 ++ r77)) q77_0 (s77_0 f107 f108))]
theorem e77_0 (f107 : Device × Unit → Option (Bool × Unit)) (f108 : List Device × Device × Unit → Option (Bool × Unit)) (X : Nat → St → Option (densS (muts p77 ++ r77))) (rec K : densS q77_0 → Option (densS (muts p77 ++ r77))) (t : densS q77_0) :
    ev (E77 f107 f108) tab (fun _ => false) (L77 f107 f108) (retK tab p77 r77 Proofs.Try.f77.results.toList) (loopC Proofs.Try.f77 0) (fun i s => cond (Nat.beq i 0) (decK 100 q77_0 s K) (X i s)) (fun s => decK 100 q77_0 s rec) (enc q77_0 t) = s77_0 f107 f108 t rec K := by kernel_rfl
theorem e77 (f107 : Device × Unit → Option (Bool × Unit)) (f108 : List Device × Device × Unit → Option (Bool × Unit)) (a : densS p77) : runF (E77 f107 f108) tab (fun _ => false) p77 r77 Proofs.Try.f77 (L77 f107 f108) a = F77 f107 f108 a := by kernel_rfl
theorem ok77 {f107 : Device × Unit → Option (Bool × Unit)} {f108 : List Device × Device × Unit → Option (Bool × Unit)} (h107 : OK Proofs.Try.prog 107 (mkE p107 r107 false f107)) (h108 : OK Proofs.Try.prog 108 (mkE p108 r108 false f108)) : OK Proofs.Try.prog 77 (mkE p77 r77 false (F77 f107 f108)) :=
  fn_ok tab_ok (envL_ok (l := [(107, mkE p107 r107 false f107), (108, mkE p108 r108 false f108)]) (OKs.cons h107 (OKs.cons h108 OKs.nil))) mixed (ann := (fun _ => false)) (L := L77 f107 f108) (fn := Proofs.Try.f77) (c := bodyC Proofs.Try.f77) (ls := [(0, loopC Proofs.Try.f77 0)]) Proofs.Try.func77 (by kernel_rfl) (by kernel_rfl) (by kernel_rfl) (by kernel_rfl)
    (LoopsP.cons q77_0 (s77_0 f107 f108) rfl (e77_0 f107 f108) LoopsP.nil) (e77 f107 f108)
/-! impl.IsCue -/
def p109 : List SP := [.t .cue]
def r109 : List SP := [.one (.bool)]
noncomputable def F109 (f44 : Int × Int × Int × Unit → Option (Bool × Unit)) (f122 : Str × Unit → Option (Bool × Unit)) (a : Cue × Unit) : Option (Bool × Unit) :=
  (f44 (a.1.Tick, 0, 64, ())).bind fun x1 => cond x1.1 ((f122 (a.1.Name, ())).bind fun x2 => cond x2.1 ((f44 (a.1.Level, 0, 32, ())).bind fun x3 => cond x3.1 ((f44 (a.1.Ramp, 0, 16, ())).bind fun x4 => some (x4.1, ())) (some (false, ()))) (some (false, ()))) (some (false, ()))
def E109 (f44 : Int × Int × Int × Unit → Option (Bool × Unit)) (f122 : Str × Unit → Option (Bool × Unit)) : Env := envL [(44, mkE p44 r44 false f44), (122, mkE p122 r122 false f122)]
noncomputable def L109 (f44 : Int × Int × Int × Unit → Option (Bool × Unit)) (f122 : Str × Unit → Option (Bool × Unit)) : LEnv (densS (muts p109 ++ r109)) := lenv []
theorem e109 (f44 : Int × Int × Int × Unit → Option (Bool × Unit)) (f122 : Str × Unit → Option (Bool × Unit)) (a : densS p109) : runF (E109 f44 f122) tab (fun _ => false) p109 r109 Proofs.Try.f109 (L109 f44 f122) a = F109 f44 f122 a := by kernel_rfl
theorem ok109 {f44 : Int × Int × Int × Unit → Option (Bool × Unit)} {f122 : Str × Unit → Option (Bool × Unit)} (h44 : OK Proofs.Try.prog 44 (mkE p44 r44 false f44)) (h122 : OK Proofs.Try.prog 122 (mkE p122 r122 false f122)) : OK Proofs.Try.prog 109 (mkE p109 r109 false (F109 f44 f122)) :=
  fn_ok tab_ok (envL_ok (l := [(44, mkE p44 r44 false f44), (122, mkE p122 r122 false f122)]) (OKs.cons h44 (OKs.cons h122 OKs.nil))) mixed (ann := (fun _ => false)) (L := L109 f44 f122) (fn := Proofs.Try.f109) (c := bodyC Proofs.Try.f109) (ls := []) Proofs.Try.func109 (by kernel_rfl) (by kernel_rfl) (by kernel_rfl) (by kernel_rfl)
    LoopsP.nil (e109 f44 f122)
/-! cmp.isNaN[int] -/
def p128 : List SP := [.one (.int .i64)]
def r128 : List SP := [.one (.bool)]
noncomputable def F128 (a : Int × Unit) : Option (Bool × Unit) :=
  some ((!(decide (a.1 = a.1))), ())
def E128 : Env := envL []
noncomputable def L128 : LEnv (densS (muts p128 ++ r128)) := lenv []
theorem e128 (a : densS p128) : runF (E128) tab (fun _ => false) p128 r128 Proofs.Try.f128 (L128) a = F128 a := by kernel_rfl
theorem ok128 : OK Proofs.Try.prog 128 (mkE p128 r128 false (F128)) :=
  fn_ok tab_ok (envL_ok (l := []) OKs.nil) mixed (ann := (fun _ => false)) (L := L128) (fn := Proofs.Try.f128) (c := bodyC Proofs.Try.f128) (ls := []) Proofs.Try.func128 (by kernel_rfl) (by kernel_rfl) (by kernel_rfl) (by kernel_rfl)
    LoopsP.nil (e128)
/-! cmp.Compare[int] -/
def p125 : List SP := [.one (.int .i64), .one (.int .i64)]
def r125 : List SP := [.one (.int .i64)]
noncomputable def F125 (f128 : Int × Unit → Option (Bool × Unit)) (a : Int × Int × Unit) : Option (Int × Unit) :=
  (f128 (a.1, ())).bind fun x1 => (f128 (a.2.1, ())).bind fun x2 => cond x1.1 (cond x2.1 (some (0, ())) (some ((-1), ()))) (cond x2.1 (some (1, ())) (cond (decide (a.1 < a.2.1)) (some ((-1), ())) (cond (decide (a.1 > a.2.1)) (some (1, ())) (some (0, ())))))
def E125 (f128 : Int × Unit → Option (Bool × Unit)) : Env := envL [(128, mkE p128 r128 false f128)]
noncomputable def L125 (f128 : Int × Unit → Option (Bool × Unit)) : LEnv (densS (muts p125 ++ r125)) := lenv []
theorem e125 (f128 : Int × Unit → Option (Bool × Unit)) (a : densS p125) : runF (E125 f128) tab (fun _ => false) p125 r125 Proofs.Try.f125 (L125 f128) a = F125 f128 a := by kernel_rfl
theorem ok125 {f128 : Int × Unit → Option (Bool × Unit)} (h128 : OK Proofs.Try.prog 128 (mkE p128 r128 false f128)) : OK Proofs.Try.prog 125 (mkE p125 r125 false (F125 f128)) :=
  fn_ok tab_ok (envL_ok (l := [(128, mkE p128 r128 false f128)]) (OKs.cons h128 OKs.nil)) mixed (ann := (fun _ => false)) (L := L125 f128) (fn := Proofs.Try.f125) (c := bodyC Proofs.Try.f125) (ls := []) Proofs.Try.func125 (by kernel_rfl) (by kernel_rfl) (by kernel_rfl) (by kernel_rfl)
    LoopsP.nil (e125 f128)
/-! cmp.isNaN[string] -/
def p129 : List SP := [.one (.str)]
def r129 : List SP := [.one (.bool)]
noncomputable def F129 (a : Str × Unit) : Option (Bool × Unit) :=
  some ((!decide (a.1 = a.1)), ())
def E129 : Env := envL []
noncomputable def L129 : LEnv (densS (muts p129 ++ r129)) := lenv []
theorem e129 (a : densS p129) : runF (E129) tab (fun _ => false) p129 r129 Proofs.Try.f129 (L129) a = F129 a := by kernel_rfl
theorem ok129 : OK Proofs.Try.prog 129 (mkE p129 r129 false (F129)) :=
  fn_ok tab_ok (envL_ok (l := []) OKs.nil) mixed (ann := (fun _ => false)) (L := L129) (fn := Proofs.Try.f129) (c := bodyC Proofs.Try.f129) (ls := []) Proofs.Try.func129 (by kernel_rfl) (by kernel_rfl) (by kernel_rfl) (by kernel_rfl)
    LoopsP.nil (e129)
/-! cmp.Compare[string] -/
def p126 : List SP := [.one (.str), .one (.str)]
def r126 : List SP := [.one (.int .i64)]
noncomputable def F126 (f129 : Str × Unit → Option (Bool × Unit)) (a : Str × Str × Unit) : Option (Int × Unit) :=
  (f129 (a.1, ())).bind fun x1 => (f129 (a.2.1, ())).bind fun x2 => cond x1.1 (cond x2.1 (some (0, ())) (some ((-1), ()))) (cond x2.1 (some (1, ())) (cond (Op.bytesLess a.1 a.2.1) (some ((-1), ())) (cond (!(Op.bytesLess a.1 a.2.1 || decide (a.1 = a.2.1))) (some (1, ())) (some (0, ())))))
def E126 (f129 : Str × Unit → Option (Bool × Unit)) : Env := envL [(129, mkE p129 r129 false f129)]
noncomputable def L126 (f129 : Str × Unit → Option (Bool × Unit)) : LEnv (densS (muts p126 ++ r126)) := lenv []
theorem e126 (f129 : Str × Unit → Option (Bool × Unit)) (a : densS p126) : runF (E126 f129) tab (fun _ => false) p126 r126 Proofs.Try.f126 (L126 f129) a = F126 f129 a := by kernel_rfl
theorem ok126 {f129 : Str × Unit → Option (Bool × Unit)} (h129 : OK Proofs.Try.prog 129 (mkE p129 r129 false f129)) : OK Proofs.Try.prog 126 (mkE p126 r126 false (F126 f129)) :=
  fn_ok tab_ok (envL_ok (l := [(129, mkE p129 r129 false f129)]) (OKs.cons h129 OKs.nil)) mixed (ann := (fun _ => false)) (L := L126 f129) (fn := Proofs.Try.f126) (c := bodyC Proofs.Try.f126) (ls := []) Proofs.Try.func126 (by kernel_rfl) (by kernel_rfl) (by kernel_rfl) (by kernel_rfl)
    LoopsP.nil (e126 f129)
/-! cmp.Or[int] -/
def p124 : List SP := [.one (.r .int)]
def r124 : List SP := [.one (.int .i64)]
def q124_0 : List SP := pat 18 0 [(3, .one (.int .i64)), (6, .one (.r .int)), (7, .one (.int .i64)), (8, .one (.int .i64))]
noncomputable def s124_0 (t1 : Int × List Int × Int × Int × Unit) (rec K : Int × List Int × Int × Int × Unit → Option (Int × Unit)) : Option (Int × Unit) :=
  cond (decide (t1.2.2.2.1 < t1.2.2.1)) (rdL t1.2.1 t1.2.2.2.1 fun d2 => cond (!(decide (d2 = t1.1))) (some (d2, ())) (rec (t1.1, t1.2.1, t1.2.2.1, (w64 (t1.2.2.2.1 + 1)), ()))) (K (t1.1, t1.2.1, t1.2.2.1, t1.2.2.2.1, ()))
noncomputable def F124 (a : List Int × Unit) : Option (Int × Unit) :=
  iterF (s124_0) fuel (0, a.1, (Int.ofNat (List.length a.1)), 0, ()) fun t3 => some (t3.1, ())
def E124 : Env := envL []
noncomputable def L124 : LEnv (densS (muts p124 ++ r124)) := lenv [(0, loopL (R := densS (muts p124 ++ r124)) q124_0 (s124_0))]
theorem e124_0 (X : Nat → St → Option (densS (muts p124 ++ r124))) (rec K : densS q124_0 → Option (densS (muts p124 ++ r124))) (t : densS q124_0) :
    ev (E124) tab (fun _ => false) (L124) (retK tab p124 r124 Proofs.Try.f124.results.toList) (loopC Proofs.Try.f124 0) (fun i s => cond (Nat.beq i 0) (decK 100 q124_0 s K) (X i s)) (fun s => decK 100 q124_0 s rec) (enc q124_0 t) = s124_0 t rec K := by kernel_rfl
theorem e124 (a : densS p124) : runF (E124) tab (fun _ => false) p124 r124 Proofs.Try.f124 (L124) a = F124 a := by kernel_rfl
theorem ok124 : OK Proofs.Try.prog 124 (mkE p124 r124 false (F124)) :=
  fn_ok tab_ok (envL_ok (l := []) OKs.nil) mixed (ann := (fun _ => false)) (L := L124) (fn := Proofs.Try.f124) (c := bodyC Proofs.Try.f124) (ls := [(0, loopC Proofs.Try.f124 0)]) Proofs.Try.func124 (by kernel_rfl) (by kernel_rfl) (by kernel_rfl) (by kernel_rfl)
    (LoopsP.cons q124_0 (s124_0) rfl (e124_0) LoopsP.nil) (e124)
/-! impl.CompareCues -/
def p110 : List SP := [.t .cue, .t .cue]
def r110 : List SP := [.one (.int .i64)]
noncomputable def F110 (f125 : Int × Int × Unit → Option (Int × Unit)) (f126 : Str × Str × Unit → Option (Int × Unit)) (f124 : List Int × Unit → Option (Int × Unit)) (a : Cue × Cue × Unit) : Option (Int × Unit) :=
  (f125 (a.1.Tick, a.2.1.Tick, ())).bind fun x1 => (f126 (a.1.Name, a.2.1.Name, ())).bind fun x2 => (f124 (([x1.1, x2.1] : List Int), ())).bind fun x3 => some (x3.1, ())
def E110 (f125 : Int × Int × Unit → Option (Int × Unit)) (f126 : Str × Str × Unit → Option (Int × Unit)) (f124 : List Int × Unit → Option (Int × Unit)) : Env := envL [(125, mkE p125 r125 false f125), (126, mkE p126 r126 false f126), (124, mkE p124 r124 false f124)]
noncomputable def L110 (f125 : Int × Int × Unit → Option (Int × Unit)) (f126 : Str × Str × Unit → Option (Int × Unit)) (f124 : List Int × Unit → Option (Int × Unit)) : LEnv (densS (muts p110 ++ r110)) := lenv []
theorem e110 (f125 : Int × Int × Unit → Option (Int × Unit)) (f126 : Str × Str × Unit → Option (Int × Unit)) (f124 : List Int × Unit → Option (Int × Unit)) (a : densS p110) : runF (E110 f125 f126 f124) tab (fun _ => false) p110 r110 Proofs.Try.f110 (L110 f125 f126 f124) a = F110 f125 f126 f124 a := by kernel_rfl
theorem ok110 {f125 : Int × Int × Unit → Option (Int × Unit)} {f126 : Str × Str × Unit → Option (Int × Unit)} {f124 : List Int × Unit → Option (Int × Unit)} (h125 : OK Proofs.Try.prog 125 (mkE p125 r125 false f125)) (h126 : OK Proofs.Try.prog 126 (mkE p126 r126 false f126)) (h124 : OK Proofs.Try.prog 124 (mkE p124 r124 false f124)) : OK Proofs.Try.prog 110 (mkE p110 r110 false (F110 f125 f126 f124)) :=
  fn_ok tab_ok (envL_ok (l := [(125, mkE p125 r125 false f125), (126, mkE p126 r126 false f126), (124, mkE p124 r124 false f124)]) (OKs.cons h125 (OKs.cons h126 (OKs.cons h124 OKs.nil)))) mixed (ann := (fun _ => false)) (L := L110 f125 f126 f124) (fn := Proofs.Try.f110) (c := bodyC Proofs.Try.f110) (ls := []) Proofs.Try.func110 (by kernel_rfl) (by kernel_rfl) (by kernel_rfl) (by kernel_rfl)
    LoopsP.nil (e110 f125 f126 f124)
/-! impl.IsScore -/
def p78 : List SP := [.one (.r .cue)]
def r78 : List SP := [.one (.bool)]
def q78_0 : List SP := pat 33 0 [(0, .one (.r .cue)), (5, .one (.r .cue)), (6, .one (.int .i64)), (7, .one (.int .i64))]
noncomputable def s78_0 (f109 : Cue × Unit → Option (Bool × Unit)) (f110 : Cue × Cue × Unit → Option (Int × Unit)) (t1 : List Cue × List Cue × Int × Int × Unit) (rec K : List Cue × List Cue × Int × Int × Unit → Option (Bool × Unit)) : Option (Bool × Unit) :=
  cond (decide (t1.2.2.2.1 < t1.2.2.1)) (rdL t1.2.1 t1.2.2.2.1 fun d2 => (f109 (d2, ())).bind fun x3 => cond (!(!x3.1)) (cond (decide (t1.2.2.2.1 > 0)) (rdL t1.1 (w64 (t1.2.2.2.1 - 1)) fun d4 => (f110 (d4, d2, ())).bind fun x5 => cond (decide (x5.1 ≥ 0)) (some (false, ())) (rec (t1.1, t1.2.1, t1.2.2.1, (w64 (t1.2.2.2.1 + 1)), ()))) (rec (t1.1, t1.2.1, t1.2.2.1, (w64 (t1.2.2.2.1 + 1)), ()))) (some (false, ()))) (K (t1.1, t1.2.1, t1.2.2.1, t1.2.2.2.1, ()))
noncomputable def F78 (f109 : Cue × Unit → Option (Bool × Unit)) (f110 : Cue × Cue × Unit → Option (Int × Unit)) (a : List Cue × Unit) : Option (Bool × Unit) :=
  iterF (s78_0 f109 f110) fuel (a.1, a.1, (Int.ofNat (List.length a.1)), 0, ()) fun t6 => some ((decide ((Int.ofNat (List.length t6.1)) ≤ 12)), ())
def E78 (f109 : Cue × Unit → Option (Bool × Unit)) (f110 : Cue × Cue × Unit → Option (Int × Unit)) : Env := envL [(109, mkE p109 r109 false f109), (110, mkE p110 r110 false f110)]
noncomputable def L78 (f109 : Cue × Unit → Option (Bool × Unit)) (f110 : Cue × Cue × Unit → Option (Int × Unit)) : LEnv (densS (muts p78 ++ r78)) := lenv [(0, loopL (R := densS (muts p78 ++ r78)) q78_0 (s78_0 f109 f110))]
theorem e78_0 (f109 : Cue × Unit → Option (Bool × Unit)) (f110 : Cue × Cue × Unit → Option (Int × Unit)) (X : Nat → St → Option (densS (muts p78 ++ r78))) (rec K : densS q78_0 → Option (densS (muts p78 ++ r78))) (t : densS q78_0) :
    ev (E78 f109 f110) tab (fun _ => false) (L78 f109 f110) (retK tab p78 r78 Proofs.Try.f78.results.toList) (loopC Proofs.Try.f78 0) (fun i s => cond (Nat.beq i 0) (decK 100 q78_0 s K) (X i s)) (fun s => decK 100 q78_0 s rec) (enc q78_0 t) = s78_0 f109 f110 t rec K := by kernel_rfl
theorem e78 (f109 : Cue × Unit → Option (Bool × Unit)) (f110 : Cue × Cue × Unit → Option (Int × Unit)) (a : densS p78) : runF (E78 f109 f110) tab (fun _ => false) p78 r78 Proofs.Try.f78 (L78 f109 f110) a = F78 f109 f110 a := by kernel_rfl
theorem ok78 {f109 : Cue × Unit → Option (Bool × Unit)} {f110 : Cue × Cue × Unit → Option (Int × Unit)} (h109 : OK Proofs.Try.prog 109 (mkE p109 r109 false f109)) (h110 : OK Proofs.Try.prog 110 (mkE p110 r110 false f110)) : OK Proofs.Try.prog 78 (mkE p78 r78 false (F78 f109 f110)) :=
  fn_ok tab_ok (envL_ok (l := [(109, mkE p109 r109 false f109), (110, mkE p110 r110 false f110)]) (OKs.cons h109 (OKs.cons h110 OKs.nil))) mixed (ann := (fun _ => false)) (L := L78 f109 f110) (fn := Proofs.Try.f78) (c := bodyC Proofs.Try.f78) (ls := [(0, loopC Proofs.Try.f78 0)]) Proofs.Try.func78 (by kernel_rfl) (by kernel_rfl) (by kernel_rfl) (by kernel_rfl)
    (LoopsP.cons q78_0 (s78_0 f109 f110) rfl (e78_0 f109 f110) LoopsP.nil) (e78 f109 f110)
/-! impl.isDrift -/
def p111 : List SP := [.t .place]
def r111 : List SP := [.one (.bool)]
noncomputable def F111 (f44 : Int × Int × Int × Unit → Option (Bool × Unit)) (a : Place × Unit) : Option (Bool × Unit) :=
  (f44 (a.1.X, (-8), 8, ())).bind fun x1 => cond x1.1 ((f44 (a.1.Y, (-8), 8, ())).bind fun x2 => some (x2.1, ())) (some (false, ()))
def E111 (f44 : Int × Int × Int × Unit → Option (Bool × Unit)) : Env := envL [(44, mkE p44 r44 false f44)]
noncomputable def L111 (f44 : Int × Int × Int × Unit → Option (Bool × Unit)) : LEnv (densS (muts p111 ++ r111)) := lenv []
theorem e111 (f44 : Int × Int × Int × Unit → Option (Bool × Unit)) (a : densS p111) : runF (E111 f44) tab (fun _ => false) p111 r111 Proofs.Try.f111 (L111 f44) a = F111 f44 a := by kernel_rfl
theorem ok111 {f44 : Int × Int × Int × Unit → Option (Bool × Unit)} (h44 : OK Proofs.Try.prog 44 (mkE p44 r44 false f44)) : OK Proofs.Try.prog 111 (mkE p111 r111 false (F111 f44)) :=
  fn_ok tab_ok (envL_ok (l := [(44, mkE p44 r44 false f44)]) (OKs.cons h44 OKs.nil)) mixed (ann := (fun _ => false)) (L := L111 f44) (fn := Proofs.Try.f111) (c := bodyC Proofs.Try.f111) (ls := []) Proofs.Try.func111 (by kernel_rfl) (by kernel_rfl) (by kernel_rfl) (by kernel_rfl)
    LoopsP.nil (e111 f44)
/-! impl.IsWind -/
def p79 : List SP := [.one (.r .gust)]
def r79 : List SP := [.one (.bool)]
def q79_0 : List SP := pat 41 0 [(0, .one (.r .gust)), (5, .one (.r .gust)), (6, .one (.int .i64)), (7, .one (.int .i64))]
noncomputable def s79_0 (f44 : Int × Int × Int × Unit → Option (Bool × Unit)) (f111 : Place × Unit → Option (Bool × Unit)) (t1 : List Gust × List Gust × Int × Int × Unit) (rec K : List Gust × List Gust × Int × Int × Unit → Option (Bool × Unit)) : Option (Bool × Unit) :=
  cond (decide (t1.2.2.2.1 < t1.2.2.1)) (rdL t1.2.1 t1.2.2.2.1 fun d2 => (f44 (d2.From, 0, 64, ())).bind fun x3 => cond (!(!x3.1)) ((f111 (d2.Drift, ())).bind fun x4 => cond (!(!x4.1)) (cond (decide (t1.2.2.2.1 > 0)) (rdL t1.1 (w64 (t1.2.2.2.1 - 1)) fun d5 => cond (decide (d2.From ≤ d5.From)) (some (false, ())) (rec (t1.1, t1.2.1, t1.2.2.1, (w64 (t1.2.2.2.1 + 1)), ()))) (rec (t1.1, t1.2.1, t1.2.2.1, (w64 (t1.2.2.2.1 + 1)), ()))) (some (false, ()))) (some (false, ()))) (K (t1.1, t1.2.1, t1.2.2.1, t1.2.2.2.1, ()))
noncomputable def F79 (f44 : Int × Int × Int × Unit → Option (Bool × Unit)) (f111 : Place × Unit → Option (Bool × Unit)) (a : List Gust × Unit) : Option (Bool × Unit) :=
  iterF (s79_0 f44 f111) fuel (a.1, a.1, (Int.ofNat (List.length a.1)), 0, ()) fun t6 => some ((decide ((Int.ofNat (List.length t6.1)) ≤ 8)), ())
def E79 (f44 : Int × Int × Int × Unit → Option (Bool × Unit)) (f111 : Place × Unit → Option (Bool × Unit)) : Env := envL [(44, mkE p44 r44 false f44), (111, mkE p111 r111 false f111)]
noncomputable def L79 (f44 : Int × Int × Int × Unit → Option (Bool × Unit)) (f111 : Place × Unit → Option (Bool × Unit)) : LEnv (densS (muts p79 ++ r79)) := lenv [(0, loopL (R := densS (muts p79 ++ r79)) q79_0 (s79_0 f44 f111))]
theorem e79_0 (f44 : Int × Int × Int × Unit → Option (Bool × Unit)) (f111 : Place × Unit → Option (Bool × Unit)) (X : Nat → St → Option (densS (muts p79 ++ r79))) (rec K : densS q79_0 → Option (densS (muts p79 ++ r79))) (t : densS q79_0) :
    ev (E79 f44 f111) tab (fun _ => false) (L79 f44 f111) (retK tab p79 r79 Proofs.Try.f79.results.toList) (loopC Proofs.Try.f79 0) (fun i s => cond (Nat.beq i 0) (decK 100 q79_0 s K) (X i s)) (fun s => decK 100 q79_0 s rec) (enc q79_0 t) = s79_0 f44 f111 t rec K := by kernel_rfl
theorem e79 (f44 : Int × Int × Int × Unit → Option (Bool × Unit)) (f111 : Place × Unit → Option (Bool × Unit)) (a : densS p79) : runF (E79 f44 f111) tab (fun _ => false) p79 r79 Proofs.Try.f79 (L79 f44 f111) a = F79 f44 f111 a := by kernel_rfl
theorem ok79 {f44 : Int × Int × Int × Unit → Option (Bool × Unit)} {f111 : Place × Unit → Option (Bool × Unit)} (h44 : OK Proofs.Try.prog 44 (mkE p44 r44 false f44)) (h111 : OK Proofs.Try.prog 111 (mkE p111 r111 false f111)) : OK Proofs.Try.prog 79 (mkE p79 r79 false (F79 f44 f111)) :=
  fn_ok tab_ok (envL_ok (l := [(44, mkE p44 r44 false f44), (111, mkE p111 r111 false f111)]) (OKs.cons h44 (OKs.cons h111 OKs.nil))) mixed (ann := (fun _ => false)) (L := L79 f44 f111) (fn := Proofs.Try.f79) (c := bodyC Proofs.Try.f79) (ls := [(0, loopC Proofs.Try.f79 0)]) Proofs.Try.func79 (by kernel_rfl) (by kernel_rfl) (by kernel_rfl) (by kernel_rfl)
    (LoopsP.cons q79_0 (s79_0 f44 f111) rfl (e79_0 f44 f111) LoopsP.nil) (e79 f44 f111)
/-! impl.IsShow -/
def p43 : List SP := [.agg [.r .device, .r .cue, .r .gust, .int .i64]]
def r43 : List SP := [.one (.bool)]
noncomputable def F43 (f77 : List Device × Unit → Option (Bool × Unit)) (f78 : List Cue × Unit → Option (Bool × Unit)) (f79 : List Gust × Unit → Option (Bool × Unit)) (f44 : Int × Int × Int × Unit → Option (Bool × Unit)) (a : (List Device × List Cue × List Gust × Int × Unit) × Unit) : Option (Bool × Unit) :=
  (f77 (a.1.1, ())).bind fun x1 => cond x1.1 ((f78 (a.1.2.1, ())).bind fun x2 => cond x2.1 ((f79 (a.1.2.2.1, ())).bind fun x3 => cond x3.1 ((f44 (a.1.2.2.2.1, 0, 64, ())).bind fun x4 => some (x4.1, ())) (some (false, ()))) (some (false, ()))) (some (false, ()))
def E43 (f77 : List Device × Unit → Option (Bool × Unit)) (f78 : List Cue × Unit → Option (Bool × Unit)) (f79 : List Gust × Unit → Option (Bool × Unit)) (f44 : Int × Int × Int × Unit → Option (Bool × Unit)) : Env := envL [(77, mkE p77 r77 false f77), (78, mkE p78 r78 false f78), (79, mkE p79 r79 false f79), (44, mkE p44 r44 false f44)]
noncomputable def L43 (f77 : List Device × Unit → Option (Bool × Unit)) (f78 : List Cue × Unit → Option (Bool × Unit)) (f79 : List Gust × Unit → Option (Bool × Unit)) (f44 : Int × Int × Int × Unit → Option (Bool × Unit)) : LEnv (densS (muts p43 ++ r43)) := lenv []
theorem e43 (f77 : List Device × Unit → Option (Bool × Unit)) (f78 : List Cue × Unit → Option (Bool × Unit)) (f79 : List Gust × Unit → Option (Bool × Unit)) (f44 : Int × Int × Int × Unit → Option (Bool × Unit)) (a : densS p43) : runF (E43 f77 f78 f79 f44) tab (fun _ => false) p43 r43 Proofs.Try.f43 (L43 f77 f78 f79 f44) a = F43 f77 f78 f79 f44 a := by kernel_rfl
theorem ok43 {f77 : List Device × Unit → Option (Bool × Unit)} {f78 : List Cue × Unit → Option (Bool × Unit)} {f79 : List Gust × Unit → Option (Bool × Unit)} {f44 : Int × Int × Int × Unit → Option (Bool × Unit)} (h77 : OK Proofs.Try.prog 77 (mkE p77 r77 false f77)) (h78 : OK Proofs.Try.prog 78 (mkE p78 r78 false f78)) (h79 : OK Proofs.Try.prog 79 (mkE p79 r79 false f79)) (h44 : OK Proofs.Try.prog 44 (mkE p44 r44 false f44)) : OK Proofs.Try.prog 43 (mkE p43 r43 false (F43 f77 f78 f79 f44)) :=
  fn_ok tab_ok (envL_ok (l := [(77, mkE p77 r77 false f77), (78, mkE p78 r78 false f78), (79, mkE p79 r79 false f79), (44, mkE p44 r44 false f44)]) (OKs.cons h77 (OKs.cons h78 (OKs.cons h79 (OKs.cons h44 OKs.nil))))) mixed (ann := (fun _ => false)) (L := L43 f77 f78 f79 f44) (fn := Proofs.Try.f43) (c := bodyC Proofs.Try.f43) (ls := []) Proofs.Try.func43 (by kernel_rfl) (by kernel_rfl) (by kernel_rfl) (by kernel_rfl)
    LoopsP.nil (e43 f77 f78 f79 f44)
/-! impl.floorDiv -/
def p113 : List SP := [.one (.int .i64), .one (.int .i64)]
def r113 : List SP := [.one (.int .i64)]
noncomputable def F113 (a : Int × Int × Unit) : Option (Int × Unit) :=
  cond (decide (a.2.1 = 0)) none (cond (decide (a.2.1 = 0)) none (cond (decide ((Int.tmod a.1 a.2.1) < 0)) (some ((w64 ((w64 (Int.tdiv a.1 a.2.1)) - 1)), ())) (some ((w64 (Int.tdiv a.1 a.2.1)), ()))))
def E113 : Env := envL []
noncomputable def L113 : LEnv (densS (muts p113 ++ r113)) := lenv []
theorem e113 (a : densS p113) : runF (E113) tab (fun _ => false) p113 r113 Proofs.Try.f113 (L113) a = F113 a := by kernel_rfl
theorem ok113 : OK Proofs.Try.prog 113 (mkE p113 r113 false (F113)) :=
  fn_ok tab_ok (envL_ok (l := []) OKs.nil) mixed (ann := (fun _ => false)) (L := L113) (fn := Proofs.Try.f113) (c := bodyC Proofs.Try.f113) (ls := []) Proofs.Try.func113 (by kernel_rfl) (by kernel_rfl) (by kernel_rfl) (by kernel_rfl)
    LoopsP.nil (e113)
/-! impl.RampAt -/
def p80 : List SP := [.one (.int .i64), .one (.int .i64), .one (.int .i64), .one (.int .i64)]
def r80 : List SP := [.one (.int .i64)]
noncomputable def F80 (f112 : Int × Unit → Option (Bool × Unit)) (f113 : Int × Int × Unit → Option (Int × Unit)) (a : Int × Int × Int × Int × Unit) : Option (Int × Unit) :=
  (f112 (a.1, ())).bind fun x1 => cond (!(!x1.1)) ((f112 (a.2.1, ())).bind fun x2 => cond (!x2.1) (some (0, ())) (cond (decide (a.2.2.1 ≥ a.2.2.2.1)) (some (a.2.1, ())) (cond (!(decide (a.2.2.1 ≤ 0))) (cond (decide (a.2.2.2.1 > 999)) (some (a.1, ())) ((f113 ((w64 (a.2.2.1 * (w64 (a.2.1 - a.1)))), a.2.2.2.1, ())).bind fun x3 => some ((w64 (a.1 + x3.1)), ()))) (some (a.1, ()))))) (some (0, ()))
def E80 (f112 : Int × Unit → Option (Bool × Unit)) (f113 : Int × Int × Unit → Option (Int × Unit)) : Env := envL [(112, mkE p112 r112 false f112), (113, mkE p113 r113 false f113)]
noncomputable def L80 (f112 : Int × Unit → Option (Bool × Unit)) (f113 : Int × Int × Unit → Option (Int × Unit)) : LEnv (densS (muts p80 ++ r80)) := lenv []
theorem e80 (f112 : Int × Unit → Option (Bool × Unit)) (f113 : Int × Int × Unit → Option (Int × Unit)) (a : densS p80) : runF (E80 f112 f113) tab (fun _ => false) p80 r80 Proofs.Try.f80 (L80 f112 f113) a = F80 f112 f113 a := by kernel_rfl
theorem ok80 {f112 : Int × Unit → Option (Bool × Unit)} {f113 : Int × Int × Unit → Option (Int × Unit)} (h112 : OK Proofs.Try.prog 112 (mkE p112 r112 false f112)) (h113 : OK Proofs.Try.prog 113 (mkE p113 r113 false f113)) : OK Proofs.Try.prog 80 (mkE p80 r80 false (F80 f112 f113)) :=
  fn_ok tab_ok (envL_ok (l := [(112, mkE p112 r112 false f112), (113, mkE p113 r113 false f113)]) (OKs.cons h112 (OKs.cons h113 OKs.nil))) mixed (ann := (fun _ => false)) (L := L80 f112 f113) (fn := Proofs.Try.f80) (c := bodyC Proofs.Try.f80) (ls := []) Proofs.Try.func80 (by kernel_rfl) (by kernel_rfl) (by kernel_rfl) (by kernel_rfl)
    LoopsP.nil (e80 f112 f113)
/-! impl.LevelAt -/
def p45 : List SP := [.one (.r .cue), .one (.str), .one (.int .i64)]
def r45 : List SP := [.one (.int .i64)]
def q45_0 : List SP := pat 58 0 [(1, .one (.str)), (2, .one (.int .i64)), (7, .one (.int .i64)), (8, .boxt 5000001 .cue), (19, .one (.r .cue)), (20, .one (.int .i64)), (21, .one (.int .i64))]
noncomputable def s45_0 (f78 : List Cue × Unit → Option (Bool × Unit)) (f80 : Int × Int × Int × Int × Unit → Option (Int × Unit)) (t2 : Str × Int × Int × Cue × List Cue × Int × Int × Unit) (rec K : Str × Int × Int × Cue × List Cue × Int × Int × Unit → Option (Int × Unit)) : Option (Int × Unit) :=
  cond (decide (t2.2.2.2.2.2.2.1 < t2.2.2.2.2.2.1)) (rdL t2.2.2.2.2.1 t2.2.2.2.2.2.2.1 fun d3 => cond (decide (d3.Name = t2.1)) (cond (decide (d3.Tick ≤ t2.2.1)) ((f80 (t2.2.2.1, t2.2.2.2.1.Level, (w64 (d3.Tick - t2.2.2.2.1.Tick)), t2.2.2.2.1.Ramp, ())).bind fun x4 => rec (t2.1, t2.2.1, x4.1, d3, t2.2.2.2.2.1, t2.2.2.2.2.2.1, (w64 (t2.2.2.2.2.2.2.1 + 1)), ())) (rec (t2.1, t2.2.1, t2.2.2.1, t2.2.2.2.1, t2.2.2.2.2.1, t2.2.2.2.2.2.1, (w64 (t2.2.2.2.2.2.2.1 + 1)), ()))) (rec (t2.1, t2.2.1, t2.2.2.1, t2.2.2.2.1, t2.2.2.2.2.1, t2.2.2.2.2.2.1, (w64 (t2.2.2.2.2.2.2.1 + 1)), ()))) (K (t2.1, t2.2.1, t2.2.2.1, t2.2.2.2.1, t2.2.2.2.2.1, t2.2.2.2.2.2.1, t2.2.2.2.2.2.2.1, ()))
noncomputable def F45 (f78 : List Cue × Unit → Option (Bool × Unit)) (f80 : Int × Int × Int × Int × Unit → Option (Int × Unit)) (a : List Cue × Str × Int × Unit) : Option (Int × Unit) :=
  (f78 (a.1, ())).bind fun x1 => cond (!(!x1.1)) (cond (decide (a.2.2.1 < 0)) (some (0, ())) (iterF (s45_0 f78 f80) fuel (a.2.1, a.2.2.1, 0, (⟨0, [], 0, 0⟩ : Cue), a.1, (Int.ofNat (List.length a.1)), 0, ()) fun t5 => (f80 (t5.2.2.1, t5.2.2.2.1.Level, (w64 (t5.2.1 - t5.2.2.2.1.Tick)), t5.2.2.2.1.Ramp, ())).bind fun x6 => some (x6.1, ()))) (some (0, ()))
def E45 (f78 : List Cue × Unit → Option (Bool × Unit)) (f80 : Int × Int × Int × Int × Unit → Option (Int × Unit)) : Env := envL [(78, mkE p78 r78 false f78), (80, mkE p80 r80 false f80)]
noncomputable def L45 (f78 : List Cue × Unit → Option (Bool × Unit)) (f80 : Int × Int × Int × Int × Unit → Option (Int × Unit)) : LEnv (densS (muts p45 ++ r45)) := lenv [(0, loopL (R := densS (muts p45 ++ r45)) q45_0 (s45_0 f78 f80))]
theorem e45_0 (f78 : List Cue × Unit → Option (Bool × Unit)) (f80 : Int × Int × Int × Int × Unit → Option (Int × Unit)) (X : Nat → St → Option (densS (muts p45 ++ r45))) (rec K : densS q45_0 → Option (densS (muts p45 ++ r45))) (t : densS q45_0) :
    ev (E45 f78 f80) tab (fun _ => false) (L45 f78 f80) (retK tab p45 r45 Proofs.Try.f45.results.toList) (loopC Proofs.Try.f45 0) (fun i s => cond (Nat.beq i 0) (decK 100 q45_0 s K) (X i s)) (fun s => decK 100 q45_0 s rec) (enc q45_0 t) = s45_0 f78 f80 t rec K := by kernel_rfl
theorem e45 (f78 : List Cue × Unit → Option (Bool × Unit)) (f80 : Int × Int × Int × Int × Unit → Option (Int × Unit)) (a : densS p45) : runF (E45 f78 f80) tab (fun _ => false) p45 r45 Proofs.Try.f45 (L45 f78 f80) a = F45 f78 f80 a := by kernel_rfl
theorem ok45 {f78 : List Cue × Unit → Option (Bool × Unit)} {f80 : Int × Int × Int × Int × Unit → Option (Int × Unit)} (h78 : OK Proofs.Try.prog 78 (mkE p78 r78 false f78)) (h80 : OK Proofs.Try.prog 80 (mkE p80 r80 false f80)) : OK Proofs.Try.prog 45 (mkE p45 r45 false (F45 f78 f80)) :=
  fn_ok tab_ok (envL_ok (l := [(78, mkE p78 r78 false f78), (80, mkE p80 r80 false f80)]) (OKs.cons h78 (OKs.cons h80 OKs.nil))) mixed (ann := (fun _ => false)) (L := L45 f78 f80) (fn := Proofs.Try.f45) (c := bodyC Proofs.Try.f45) (ls := [(0, loopC Proofs.Try.f45 0)]) Proofs.Try.func45 (by kernel_rfl) (by kernel_rfl) (by kernel_rfl) (by kernel_rfl)
    (LoopsP.cons q45_0 (s45_0 f78 f80) rfl (e45_0 f78 f80) LoopsP.nil) (e45 f78 f80)
/-! impl.IsDemands -/
def p81 : List SP := [.one (.r .int)]
def r81 : List SP := [.one (.bool)]
def q81_0 : List SP := pat 18 0 [(0, .one (.r .int)), (5, .one (.r .int)), (6, .one (.int .i64)), (7, .one (.int .i64))]
noncomputable def s81_0 (f44 : Int × Int × Int × Unit → Option (Bool × Unit)) (t1 : List Int × List Int × Int × Int × Unit) (rec K : List Int × List Int × Int × Int × Unit → Option (Bool × Unit)) : Option (Bool × Unit) :=
  cond (decide (t1.2.2.2.1 < t1.2.2.1)) (rdL t1.2.1 t1.2.2.2.1 fun d2 => (f44 (d2, 0, 64, ())).bind fun x3 => cond (!x3.1) (some (false, ())) (rec (t1.1, t1.2.1, t1.2.2.1, (w64 (t1.2.2.2.1 + 1)), ()))) (K (t1.1, t1.2.1, t1.2.2.1, t1.2.2.2.1, ()))
noncomputable def F81 (f44 : Int × Int × Int × Unit → Option (Bool × Unit)) (a : List Int × Unit) : Option (Bool × Unit) :=
  iterF (s81_0 f44) fuel (a.1, a.1, (Int.ofNat (List.length a.1)), 0, ()) fun t4 => some ((decide ((Int.ofNat (List.length t4.1)) ≤ 8)), ())
def E81 (f44 : Int × Int × Int × Unit → Option (Bool × Unit)) : Env := envL [(44, mkE p44 r44 false f44)]
noncomputable def L81 (f44 : Int × Int × Int × Unit → Option (Bool × Unit)) : LEnv (densS (muts p81 ++ r81)) := lenv [(0, loopL (R := densS (muts p81 ++ r81)) q81_0 (s81_0 f44))]
theorem e81_0 (f44 : Int × Int × Int × Unit → Option (Bool × Unit)) (X : Nat → St → Option (densS (muts p81 ++ r81))) (rec K : densS q81_0 → Option (densS (muts p81 ++ r81))) (t : densS q81_0) :
    ev (E81 f44) tab (fun _ => false) (L81 f44) (retK tab p81 r81 Proofs.Try.f81.results.toList) (loopC Proofs.Try.f81 0) (fun i s => cond (Nat.beq i 0) (decK 100 q81_0 s K) (X i s)) (fun s => decK 100 q81_0 s rec) (enc q81_0 t) = s81_0 f44 t rec K := by kernel_rfl
theorem e81 (f44 : Int × Int × Int × Unit → Option (Bool × Unit)) (a : densS p81) : runF (E81 f44) tab (fun _ => false) p81 r81 Proofs.Try.f81 (L81 f44) a = F81 f44 a := by kernel_rfl
theorem ok81 {f44 : Int × Int × Int × Unit → Option (Bool × Unit)} (h44 : OK Proofs.Try.prog 44 (mkE p44 r44 false f44)) : OK Proofs.Try.prog 81 (mkE p81 r81 false (F81 f44)) :=
  fn_ok tab_ok (envL_ok (l := [(44, mkE p44 r44 false f44)]) (OKs.cons h44 OKs.nil)) mixed (ann := (fun _ => false)) (L := L81 f44) (fn := Proofs.Try.f81) (c := bodyC Proofs.Try.f81) (ls := [(0, loopC Proofs.Try.f81 0)]) Proofs.Try.func81 (by kernel_rfl) (by kernel_rfl) (by kernel_rfl) (by kernel_rfl)
    (LoopsP.cons q81_0 (s81_0 f44) rfl (e81_0 f44) LoopsP.nil) (e81 f44)
/-! impl.CutAt -/
def p84 : List SP := [.one (.r .int), .one (.int .i64)]
def r84 : List SP := [.one (.o 0 .int)]
def q84_0 : List SP := pat 31 0 [(1, .one (.int .i64)), (5, .one (.o 5000001 .int)), (17, .one (.r .int)), (18, .one (.int .i64)), (19, .one (.int .i64))]
noncomputable def s84_0 (f81 : List Int × Unit → Option (Bool × Unit)) (t2 : Int × List Int × List Int × Int × Int × Unit) (rec K : Int × List Int × List Int × Int × Int × Unit → Option (List Int × Unit)) : Option (List Int × Unit) :=
  cond (decide (t2.2.2.2.2.1 < t2.2.2.2.1)) (rdL t2.2.2.1 t2.2.2.2.2.1 fun d3 => capK (List.length t2.2.1 + List.length ([(mn d3 t2.1)] : List Int)) (rec (t2.1, (t2.2.1 ++ ([(mn d3 t2.1)] : List Int)), t2.2.2.1, t2.2.2.2.1, (w64 (t2.2.2.2.2.1 + 1)), ()))) (K (t2.1, t2.2.1, t2.2.2.1, t2.2.2.2.1, t2.2.2.2.2.1, ()))
noncomputable def F84 (f81 : List Int × Unit → Option (Bool × Unit)) (a : List Int × Int × Unit) : Option (List Int × Unit) :=
  (f81 (a.1, ())).bind fun x1 => cond (!(!x1.1)) (cond (decide (a.2.1 < 0)) (some (([] : List Int), ())) (iterF (s84_0 f81) fuel (a.2.1, ([] : List Int), a.1, (Int.ofNat (List.length a.1)), 0, ()) fun t4 => some (t4.2.1, ()))) (some (([] : List Int), ()))
def E84 (f81 : List Int × Unit → Option (Bool × Unit)) : Env := envL [(81, mkE p81 r81 false f81)]
noncomputable def L84 (f81 : List Int × Unit → Option (Bool × Unit)) : LEnv (densS (muts p84 ++ r84)) := lenv [(0, loopL (R := densS (muts p84 ++ r84)) q84_0 (s84_0 f81))]
theorem e84_0 (f81 : List Int × Unit → Option (Bool × Unit)) (X : Nat → St → Option (densS (muts p84 ++ r84))) (rec K : densS q84_0 → Option (densS (muts p84 ++ r84))) (t : densS q84_0) :
    ev (E84 f81) tab (fun _ => false) (L84 f81) (retK tab p84 r84 Proofs.Try.f84.results.toList) (loopC Proofs.Try.f84 0) (fun i s => cond (Nat.beq i 0) (decK 100 q84_0 s K) (X i s)) (fun s => decK 100 q84_0 s rec) (enc q84_0 t) = s84_0 f81 t rec K := by kernel_rfl
theorem e84 (f81 : List Int × Unit → Option (Bool × Unit)) (a : densS p84) : runF (E84 f81) tab (fun _ => false) p84 r84 Proofs.Try.f84 (L84 f81) a = F84 f81 a := by kernel_rfl
theorem ok84 {f81 : List Int × Unit → Option (Bool × Unit)} (h81 : OK Proofs.Try.prog 81 (mkE p81 r81 false f81)) : OK Proofs.Try.prog 84 (mkE p84 r84 false (F84 f81)) :=
  fn_ok tab_ok (envL_ok (l := [(81, mkE p81 r81 false f81)]) (OKs.cons h81 OKs.nil)) mixed (ann := (fun _ => false)) (L := L84 f81) (fn := Proofs.Try.f84) (c := bodyC Proofs.Try.f84) (ls := [(0, loopC Proofs.Try.f84 0)]) Proofs.Try.func84 (by kernel_rfl) (by kernel_rfl) (by kernel_rfl) (by kernel_rfl)
    (LoopsP.cons q84_0 (s84_0 f81) rfl (e84_0 f81) LoopsP.nil) (e84 f81)
/-! impl.sumOf -/
def p85 : List SP := [.one (.r .int)]
def r85 : List SP := [.one (.int .i64)]
def q85_0 : List SP := pat 17 0 [(3, .one (.int .i64)), (6, .one (.r .int)), (7, .one (.int .i64)), (8, .one (.int .i64))]
noncomputable def s85_0 (t1 : Int × List Int × Int × Int × Unit) (rec K : Int × List Int × Int × Int × Unit → Option (Int × Unit)) : Option (Int × Unit) :=
  cond (decide (t1.2.2.2.1 < t1.2.2.1)) (rdL t1.2.1 t1.2.2.2.1 fun d2 => rec ((w64 (t1.1 + d2)), t1.2.1, t1.2.2.1, (w64 (t1.2.2.2.1 + 1)), ())) (K (t1.1, t1.2.1, t1.2.2.1, t1.2.2.2.1, ()))
noncomputable def F85 (a : List Int × Unit) : Option (Int × Unit) :=
  iterF (s85_0) fuel (0, a.1, (Int.ofNat (List.length a.1)), 0, ()) fun t3 => some (t3.1, ())
def E85 : Env := envL []
noncomputable def L85 : LEnv (densS (muts p85 ++ r85)) := lenv [(0, loopL (R := densS (muts p85 ++ r85)) q85_0 (s85_0))]
theorem e85_0 (X : Nat → St → Option (densS (muts p85 ++ r85))) (rec K : densS q85_0 → Option (densS (muts p85 ++ r85))) (t : densS q85_0) :
    ev (E85) tab (fun _ => false) (L85) (retK tab p85 r85 Proofs.Try.f85.results.toList) (loopC Proofs.Try.f85 0) (fun i s => cond (Nat.beq i 0) (decK 100 q85_0 s K) (X i s)) (fun s => decK 100 q85_0 s rec) (enc q85_0 t) = s85_0 t rec K := by kernel_rfl
theorem e85 (a : densS p85) : runF (E85) tab (fun _ => false) p85 r85 Proofs.Try.f85 (L85) a = F85 a := by kernel_rfl
theorem ok85 : OK Proofs.Try.prog 85 (mkE p85 r85 false (F85)) :=
  fn_ok tab_ok (envL_ok (l := []) OKs.nil) mixed (ann := (fun _ => false)) (L := L85) (fn := Proofs.Try.f85) (c := bodyC Proofs.Try.f85) (ls := [(0, loopC Proofs.Try.f85 0)]) Proofs.Try.func85 (by kernel_rfl) (by kernel_rfl) (by kernel_rfl) (by kernel_rfl)
    (LoopsP.cons q85_0 (s85_0) rfl (e85_0) LoopsP.nil) (e85)
/-! impl.LevelFor -/
def p83 : List SP := [.one (.int .i64), .one (.r .int)]
def r83 : List SP := [.one (.int .i64)]
def q83_0 : List SP := pat 23 0 [(0, .one (.int .i64)), (1, .one (.r .int)), (5, .one (.int .i64))]
noncomputable def s83_0 (f81 : List Int × Unit → Option (Bool × Unit)) (f82 : Int × Unit → Option (Bool × Unit)) (f84 : List Int × Int × Unit → Option (List Int × Unit)) (f85 : List Int × Unit → Option (Int × Unit)) (t3 : Int × List Int × Int × Unit) (rec K : Int × List Int × Int × Unit → Option (Int × Unit)) : Option (Int × Unit) :=
  (f84 (t3.2.1, t3.2.2.1, ())).bind fun x4 => (f85 (x4.1, ())).bind fun x5 => cond (decide (x5.1 > t3.1)) (rec (t3.1, t3.2.1, (w64 (t3.2.2.1 - 1)), ())) (K (t3.1, t3.2.1, t3.2.2.1, ()))
noncomputable def F83 (f81 : List Int × Unit → Option (Bool × Unit)) (f82 : Int × Unit → Option (Bool × Unit)) (f84 : List Int × Int × Unit → Option (List Int × Unit)) (f85 : List Int × Unit → Option (Int × Unit)) (a : Int × List Int × Unit) : Option (Int × Unit) :=
  (f81 (a.2.1, ())).bind fun x1 => cond (!(!x1.1)) ((f82 (a.1, ())).bind fun x2 => cond (!x2.1) (some (0, ())) (iterF (s83_0 f81 f82 f84 f85) fuel (a.1, a.2.1, 64, ()) fun t6 => some (t6.2.2.1, ()))) (some (0, ()))
def E83 (f81 : List Int × Unit → Option (Bool × Unit)) (f82 : Int × Unit → Option (Bool × Unit)) (f84 : List Int × Int × Unit → Option (List Int × Unit)) (f85 : List Int × Unit → Option (Int × Unit)) : Env := envL [(81, mkE p81 r81 false f81), (82, mkE p82 r82 false f82), (84, mkE p84 r84 false f84), (85, mkE p85 r85 false f85)]
noncomputable def L83 (f81 : List Int × Unit → Option (Bool × Unit)) (f82 : Int × Unit → Option (Bool × Unit)) (f84 : List Int × Int × Unit → Option (List Int × Unit)) (f85 : List Int × Unit → Option (Int × Unit)) : LEnv (densS (muts p83 ++ r83)) := lenv [(0, loopL (R := densS (muts p83 ++ r83)) q83_0 (s83_0 f81 f82 f84 f85))]
theorem e83_0 (f81 : List Int × Unit → Option (Bool × Unit)) (f82 : Int × Unit → Option (Bool × Unit)) (f84 : List Int × Int × Unit → Option (List Int × Unit)) (f85 : List Int × Unit → Option (Int × Unit)) (X : Nat → St → Option (densS (muts p83 ++ r83))) (rec K : densS q83_0 → Option (densS (muts p83 ++ r83))) (t : densS q83_0) :
    ev (E83 f81 f82 f84 f85) tab (fun _ => false) (L83 f81 f82 f84 f85) (retK tab p83 r83 Proofs.Try.f83.results.toList) (loopC Proofs.Try.f83 0) (fun i s => cond (Nat.beq i 0) (decK 100 q83_0 s K) (X i s)) (fun s => decK 100 q83_0 s rec) (enc q83_0 t) = s83_0 f81 f82 f84 f85 t rec K := by kernel_rfl
theorem e83 (f81 : List Int × Unit → Option (Bool × Unit)) (f82 : Int × Unit → Option (Bool × Unit)) (f84 : List Int × Int × Unit → Option (List Int × Unit)) (f85 : List Int × Unit → Option (Int × Unit)) (a : densS p83) : runF (E83 f81 f82 f84 f85) tab (fun _ => false) p83 r83 Proofs.Try.f83 (L83 f81 f82 f84 f85) a = F83 f81 f82 f84 f85 a := by kernel_rfl
theorem ok83 {f81 : List Int × Unit → Option (Bool × Unit)} {f82 : Int × Unit → Option (Bool × Unit)} {f84 : List Int × Int × Unit → Option (List Int × Unit)} {f85 : List Int × Unit → Option (Int × Unit)} (h81 : OK Proofs.Try.prog 81 (mkE p81 r81 false f81)) (h82 : OK Proofs.Try.prog 82 (mkE p82 r82 false f82)) (h84 : OK Proofs.Try.prog 84 (mkE p84 r84 false f84)) (h85 : OK Proofs.Try.prog 85 (mkE p85 r85 false f85)) : OK Proofs.Try.prog 83 (mkE p83 r83 false (F83 f81 f82 f84 f85)) :=
  fn_ok tab_ok (envL_ok (l := [(81, mkE p81 r81 false f81), (82, mkE p82 r82 false f82), (84, mkE p84 r84 false f84), (85, mkE p85 r85 false f85)]) (OKs.cons h81 (OKs.cons h82 (OKs.cons h84 (OKs.cons h85 OKs.nil))))) mixed (ann := (fun _ => false)) (L := L83 f81 f82 f84 f85) (fn := Proofs.Try.f83) (c := bodyC Proofs.Try.f83) (ls := [(0, loopC Proofs.Try.f83 0)]) Proofs.Try.func83 (by kernel_rfl) (by kernel_rfl) (by kernel_rfl) (by kernel_rfl)
    (LoopsP.cons q83_0 (s83_0 f81 f82 f84 f85) rfl (e83_0 f81 f82 f84 f85) LoopsP.nil) (e83 f81 f82 f84 f85)
/-! impl.ShareOut -/
def p46 : List SP := [.one (.int .i64), .one (.r .int)]
def r46 : List SP := [.one (.o 0 .int)]
def q46_0 : List SP := pat 53 0 [(5, .one (.int .i64)), (6, .one (.o 5000001 .int)), (7, .one (.int .i64)), (29, .one (.r .int)), (30, .one (.int .i64)), (31, .one (.int .i64))]
noncomputable def s46_0 (f81 : List Int × Unit → Option (Bool × Unit)) (f82 : Int × Unit → Option (Bool × Unit)) (f83 : Int × List Int × Unit → Option (Int × Unit)) (f84 : List Int × Int × Unit → Option (List Int × Unit)) (f85 : List Int × Unit → Option (Int × Unit)) (t6 : Int × List Int × Int × List Int × Int × Int × Unit) (rec K : Int × List Int × Int × List Int × Int × Int × Unit → Option (List Int × Unit)) : Option (List Int × Unit) :=
  cond (decide (t6.2.2.2.2.2.1 < t6.2.2.2.2.1)) (rdL t6.2.2.2.1 t6.2.2.2.2.2.1 fun d7 => cond (decide (d7 > t6.1)) (cond (decide (t6.2.2.1 > 0)) (rdL t6.2.1 t6.2.2.2.2.2.1 fun _ => (t6.2.1[(Int.toNat t6.2.2.2.2.2.1)]?).bind fun d8 => rdL t6.2.1 t6.2.2.2.2.2.1 fun _ => (t6.2.1[(Int.toNat t6.2.2.2.2.2.1)]?).bind fun d9 => rec (t6.1, (List.set t6.2.1 (Int.toNat t6.2.2.2.2.2.1) (w64 (d8 + 1))), (w64 (t6.2.2.1 - 1)), t6.2.2.2.1, t6.2.2.2.2.1, (w64 (t6.2.2.2.2.2.1 + 1)), ())) (rec (t6.1, t6.2.1, t6.2.2.1, t6.2.2.2.1, t6.2.2.2.2.1, (w64 (t6.2.2.2.2.2.1 + 1)), ()))) (rec (t6.1, t6.2.1, t6.2.2.1, t6.2.2.2.1, t6.2.2.2.2.1, (w64 (t6.2.2.2.2.2.1 + 1)), ()))) (K (t6.1, t6.2.1, t6.2.2.1, t6.2.2.2.1, t6.2.2.2.2.1, t6.2.2.2.2.2.1, ()))
noncomputable def F46 (f81 : List Int × Unit → Option (Bool × Unit)) (f82 : Int × Unit → Option (Bool × Unit)) (f83 : Int × List Int × Unit → Option (Int × Unit)) (f84 : List Int × Int × Unit → Option (List Int × Unit)) (f85 : List Int × Unit → Option (Int × Unit)) (a : Int × List Int × Unit) : Option (List Int × Unit) :=
  (f81 (a.2.1, ())).bind fun x1 => cond (!(!x1.1)) ((f82 (a.1, ())).bind fun x2 => cond (!x2.1) (some (([] : List Int), ())) ((f83 (a.1, a.2.1, ())).bind fun x3 => (f84 (a.2.1, x3.1, ())).bind fun x4 => (f85 (x4.1, ())).bind fun x5 => iterF (s46_0 f81 f82 f83 f84 f85) fuel (x3.1, x4.1, (w64 (a.1 - x5.1)), a.2.1, (Int.ofNat (List.length a.2.1)), 0, ()) fun t10 => some (t10.2.1, ()))) (some (([] : List Int), ()))
def E46 (f81 : List Int × Unit → Option (Bool × Unit)) (f82 : Int × Unit → Option (Bool × Unit)) (f83 : Int × List Int × Unit → Option (Int × Unit)) (f84 : List Int × Int × Unit → Option (List Int × Unit)) (f85 : List Int × Unit → Option (Int × Unit)) : Env := envL [(81, mkE p81 r81 false f81), (82, mkE p82 r82 false f82), (83, mkE p83 r83 false f83), (84, mkE p84 r84 false f84), (85, mkE p85 r85 false f85)]
noncomputable def L46 (f81 : List Int × Unit → Option (Bool × Unit)) (f82 : Int × Unit → Option (Bool × Unit)) (f83 : Int × List Int × Unit → Option (Int × Unit)) (f84 : List Int × Int × Unit → Option (List Int × Unit)) (f85 : List Int × Unit → Option (Int × Unit)) : LEnv (densS (muts p46 ++ r46)) := lenv [(0, loopL (R := densS (muts p46 ++ r46)) q46_0 (s46_0 f81 f82 f83 f84 f85))]
theorem e46_0 (f81 : List Int × Unit → Option (Bool × Unit)) (f82 : Int × Unit → Option (Bool × Unit)) (f83 : Int × List Int × Unit → Option (Int × Unit)) (f84 : List Int × Int × Unit → Option (List Int × Unit)) (f85 : List Int × Unit → Option (Int × Unit)) (X : Nat → St → Option (densS (muts p46 ++ r46))) (rec K : densS q46_0 → Option (densS (muts p46 ++ r46))) (t : densS q46_0) :
    ev (E46 f81 f82 f83 f84 f85) tab (fun _ => false) (L46 f81 f82 f83 f84 f85) (retK tab p46 r46 Proofs.Try.f46.results.toList) (loopC Proofs.Try.f46 0) (fun i s => cond (Nat.beq i 0) (decK 100 q46_0 s K) (X i s)) (fun s => decK 100 q46_0 s rec) (enc q46_0 t) = s46_0 f81 f82 f83 f84 f85 t rec K := by kernel_rfl
theorem e46 (f81 : List Int × Unit → Option (Bool × Unit)) (f82 : Int × Unit → Option (Bool × Unit)) (f83 : Int × List Int × Unit → Option (Int × Unit)) (f84 : List Int × Int × Unit → Option (List Int × Unit)) (f85 : List Int × Unit → Option (Int × Unit)) (a : densS p46) : runF (E46 f81 f82 f83 f84 f85) tab (fun _ => false) p46 r46 Proofs.Try.f46 (L46 f81 f82 f83 f84 f85) a = F46 f81 f82 f83 f84 f85 a := by kernel_rfl
theorem ok46 {f81 : List Int × Unit → Option (Bool × Unit)} {f82 : Int × Unit → Option (Bool × Unit)} {f83 : Int × List Int × Unit → Option (Int × Unit)} {f84 : List Int × Int × Unit → Option (List Int × Unit)} {f85 : List Int × Unit → Option (Int × Unit)} (h81 : OK Proofs.Try.prog 81 (mkE p81 r81 false f81)) (h82 : OK Proofs.Try.prog 82 (mkE p82 r82 false f82)) (h83 : OK Proofs.Try.prog 83 (mkE p83 r83 false f83)) (h84 : OK Proofs.Try.prog 84 (mkE p84 r84 false f84)) (h85 : OK Proofs.Try.prog 85 (mkE p85 r85 false f85)) : OK Proofs.Try.prog 46 (mkE p46 r46 false (F46 f81 f82 f83 f84 f85)) :=
  fn_ok tab_ok (envL_ok (l := [(81, mkE p81 r81 false f81), (82, mkE p82 r82 false f82), (83, mkE p83 r83 false f83), (84, mkE p84 r84 false f84), (85, mkE p85 r85 false f85)]) (OKs.cons h81 (OKs.cons h82 (OKs.cons h83 (OKs.cons h84 (OKs.cons h85 OKs.nil)))))) mixed (ann := (fun _ => false)) (L := L46 f81 f82 f83 f84 f85) (fn := Proofs.Try.f46) (c := bodyC Proofs.Try.f46) (ls := [(0, loopC Proofs.Try.f46 0)]) Proofs.Try.func46 (by kernel_rfl) (by kernel_rfl) (by kernel_rfl) (by kernel_rfl)
    (LoopsP.cons q46_0 (s46_0 f81 f82 f83 f84 f85) rfl (e46_0 f81 f82 f83 f84 f85) LoopsP.nil) (e46 f81 f82 f83 f84 f85)
/-! impl.LiftsAt -/
def p13 : List SP := [.agg [.r .device, .r .cue, .r .gust, .int .i64], .one (.int .i64)]
def r13 : List SP := [.one (.o 0 .int)]
def q13_2 : List SP := pat 91 0 [(1, .one (.int .i64)), (2, .box 5002001 [.r .device, .r .cue, .r .gust, .int .i64]), (5, .one (.o 5002002 .int)), (7, .boxt 5002003 .device), (8, .one (.o 5002004 .int)), (9, .one (.o 5002005 .int)), (30, .one (.r .device)), (31, .one (.int .i64)), (32, .one (.int .i64)), (42, .one (.r .device)), (43, .one (.int .i64)), (44, .one (.int .i64))]
noncomputable def s13_2 (f43 : (List Device × List Cue × List Gust × Int × Unit) × Unit → Option (Bool × Unit)) (f44 : Int × Int × Int × Unit → Option (Bool × Unit)) (f45 : List Cue × Str × Int × Unit → Option (Int × Unit)) (f46 : Int × List Int × Unit → Option (List Int × Unit)) (t5 : Int × (List Device × List Cue × List Gust × Int × Unit) × List Int × Device × List Int × List Int × List Device × Int × Int × List Device × Int × Int × Unit) (rec K : Int × (List Device × List Cue × List Gust × Int × Unit) × List Int × Device × List Int × List Int × List Device × Int × Int × List Device × Int × Int × Unit → Option (List Int × Unit)) : Option (List Int × Unit) :=
  cond (decide (t5.2.2.2.2.2.2.2.2.2.2.2.1 < t5.2.2.2.2.2.2.2.2.2.2.1)) (rdL t5.2.2.2.2.2.2.2.2.2.1 t5.2.2.2.2.2.2.2.2.2.2.2.1 fun d6 => cond (decide (d6.Line = t5.2.2.2.1.Name)) (capK (List.length t5.2.2.2.2.1 + List.length ([t5.2.2.2.2.2.2.2.2.2.2.2.1] : List Int)) ((f45 (t5.2.1.2.1, d6.Name, t5.1, ())).bind fun x7 => capK (List.length t5.2.2.2.2.2.1 + List.length ([(mn x7.1 d6.Most)] : List Int)) (rec (t5.1, (t5.2.1.1, t5.2.1.2.1, t5.2.1.2.2.1, t5.2.1.2.2.2.1, ()), t5.2.2.1, t5.2.2.2.1, (t5.2.2.2.2.1 ++ ([t5.2.2.2.2.2.2.2.2.2.2.2.1] : List Int)), (t5.2.2.2.2.2.1 ++ ([(mn x7.1 d6.Most)] : List Int)), t5.2.2.2.2.2.2.1, t5.2.2.2.2.2.2.2.1, t5.2.2.2.2.2.2.2.2.1, t5.2.2.2.2.2.2.2.2.2.1, t5.2.2.2.2.2.2.2.2.2.2.1, (w64 (t5.2.2.2.2.2.2.2.2.2.2.2.1 + 1)), ())))) (rec (t5.1, (t5.2.1.1, t5.2.1.2.1, t5.2.1.2.2.1, t5.2.1.2.2.2.1, ()), t5.2.2.1, t5.2.2.2.1, t5.2.2.2.2.1, t5.2.2.2.2.2.1, t5.2.2.2.2.2.2.1, t5.2.2.2.2.2.2.2.1, t5.2.2.2.2.2.2.2.2.1, t5.2.2.2.2.2.2.2.2.2.1, t5.2.2.2.2.2.2.2.2.2.2.1, (w64 (t5.2.2.2.2.2.2.2.2.2.2.2.1 + 1)), ()))) (K (t5.1, (t5.2.1.1, t5.2.1.2.1, t5.2.1.2.2.1, t5.2.1.2.2.2.1, ()), t5.2.2.1, t5.2.2.2.1, t5.2.2.2.2.1, t5.2.2.2.2.2.1, t5.2.2.2.2.2.2.1, t5.2.2.2.2.2.2.2.1, t5.2.2.2.2.2.2.2.2.1, t5.2.2.2.2.2.2.2.2.2.1, t5.2.2.2.2.2.2.2.2.2.2.1, t5.2.2.2.2.2.2.2.2.2.2.2.1, ()))
def q13_4 : List SP := pat 91 0 [(1, .one (.int .i64)), (2, .box 5004001 [.r .device, .r .cue, .r .gust, .int .i64]), (5, .one (.o 5004002 .int)), (8, .one (.o 5004003 .int)), (30, .one (.r .device)), (31, .one (.int .i64)), (32, .one (.int .i64)), (74, .one (.o 5004004 .int)), (75, .one (.int .i64)), (76, .one (.int .i64))]
noncomputable def s13_4 (f43 : (List Device × List Cue × List Gust × Int × Unit) × Unit → Option (Bool × Unit)) (f44 : Int × Int × Int × Unit → Option (Bool × Unit)) (f45 : List Cue × Str × Int × Unit → Option (Int × Unit)) (f46 : Int × List Int × Unit → Option (List Int × Unit)) (t10 : Int × (List Device × List Cue × List Gust × Int × Unit) × List Int × List Int × List Device × Int × Int × List Int × Int × Int × Unit) (rec K : Int × (List Device × List Cue × List Gust × Int × Unit) × List Int × List Int × List Device × Int × Int × List Int × Int × Int × Unit → Option (List Int × Unit)) : Option (List Int × Unit) :=
  cond (decide (t10.2.2.2.2.2.2.2.2.2.1 < t10.2.2.2.2.2.2.2.2.1)) (rdL t10.2.2.2.2.2.2.2.1 t10.2.2.2.2.2.2.2.2.2.1 fun _ => (t10.2.2.2.2.2.2.2.1[(Int.toNat t10.2.2.2.2.2.2.2.2.2.1)]?).bind fun d11 => rdL t10.2.2.2.1 t10.2.2.2.2.2.2.2.2.2.1 fun _ => (t10.2.2.2.1[(Int.toNat t10.2.2.2.2.2.2.2.2.2.1)]?).bind fun d12 => rdL t10.2.2.1 d12 fun _ => (t10.2.2.1[(Int.toNat d12)]?).bind fun d13 => rec (t10.1, (t10.2.1.1, t10.2.1.2.1, t10.2.1.2.2.1, t10.2.1.2.2.2.1, ()), (List.set t10.2.2.1 (Int.toNat d12) d11), t10.2.2.2.1, t10.2.2.2.2.1, t10.2.2.2.2.2.1, t10.2.2.2.2.2.2.1, t10.2.2.2.2.2.2.2.1, t10.2.2.2.2.2.2.2.2.1, (w64 (t10.2.2.2.2.2.2.2.2.2.1 + 1)), ())) (K (t10.1, (t10.2.1.1, t10.2.1.2.1, t10.2.1.2.2.1, t10.2.1.2.2.2.1, ()), t10.2.2.1, t10.2.2.2.1, t10.2.2.2.2.1, t10.2.2.2.2.2.1, t10.2.2.2.2.2.2.1, t10.2.2.2.2.2.2.2.1, t10.2.2.2.2.2.2.2.2.1, t10.2.2.2.2.2.2.2.2.2.1, ()))
def q13_0 : List SP := pat 91 0 [(1, .one (.int .i64)), (2, .box 5000001 [.r .device, .r .cue, .r .gust, .int .i64]), (5, .one (.o 5000002 .int)), (30, .one (.r .device)), (31, .one (.int .i64)), (32, .one (.int .i64))]
noncomputable def s13_0 (f43 : (List Device × List Cue × List Gust × Int × Unit) × Unit → Option (Bool × Unit)) (f44 : Int × Int × Int × Unit → Option (Bool × Unit)) (f45 : List Cue × Str × Int × Unit → Option (Int × Unit)) (f46 : Int × List Int × Unit → Option (List Int × Unit)) (t3 : Int × (List Device × List Cue × List Gust × Int × Unit) × List Int × List Device × Int × Int × Unit) (rec K : Int × (List Device × List Cue × List Gust × Int × Unit) × List Int × List Device × Int × Int × Unit → Option (List Int × Unit)) : Option (List Int × Unit) :=
  cond (decide (t3.2.2.2.2.2.1 < t3.2.2.2.2.1)) (rdL t3.2.2.2.1 t3.2.2.2.2.2.1 fun d4 => cond (!(decide (d4.Kind = 1))) (rec (t3.1, (t3.2.1.1, t3.2.1.2.1, t3.2.1.2.2.1, t3.2.1.2.2.2.1, ()), t3.2.2.1, t3.2.2.2.1, t3.2.2.2.2.1, (w64 (t3.2.2.2.2.2.1 + 1)), ())) (iterF (s13_2 f43 f44 f45 f46) fuel (t3.1, (t3.2.1.1, t3.2.1.2.1, t3.2.1.2.2.1, t3.2.1.2.2.2.1, ()), t3.2.2.1, d4, ([] : List Int), ([] : List Int), t3.2.2.2.1, t3.2.2.2.2.1, t3.2.2.2.2.2.1, t3.2.1.1, (Int.ofNat (List.length t3.2.1.1)), 0, ()) fun t8 => (f46 (t8.2.2.2.1.Most, t8.2.2.2.2.2.1, ())).bind fun x9 => iterF (s13_4 f43 f44 f45 f46) fuel (t8.1, (t8.2.1.1, t8.2.1.2.1, t8.2.1.2.2.1, t8.2.1.2.2.2.1, ()), t8.2.2.1, t8.2.2.2.2.1, t8.2.2.2.2.2.2.1, t8.2.2.2.2.2.2.2.1, t8.2.2.2.2.2.2.2.2.1, x9.1, (Int.ofNat (List.length x9.1)), 0, ()) fun t14 => rec (t14.1, (t14.2.1.1, t14.2.1.2.1, t14.2.1.2.2.1, t14.2.1.2.2.2.1, ()), t14.2.2.1, t14.2.2.2.2.1, t14.2.2.2.2.2.1, (w64 (t14.2.2.2.2.2.2.1 + 1)), ()))) (K (t3.1, (t3.2.1.1, t3.2.1.2.1, t3.2.1.2.2.1, t3.2.1.2.2.2.1, ()), t3.2.2.1, t3.2.2.2.1, t3.2.2.2.2.1, t3.2.2.2.2.2.1, ()))
noncomputable def F13 (f43 : (List Device × List Cue × List Gust × Int × Unit) × Unit → Option (Bool × Unit)) (f44 : Int × Int × Int × Unit → Option (Bool × Unit)) (f45 : List Cue × Str × Int × Unit → Option (Int × Unit)) (f46 : Int × List Int × Unit → Option (List Int × Unit)) (a : (List Device × List Cue × List Gust × Int × Unit) × Int × Unit) : Option (List Int × Unit) :=
  (f43 ((a.1.1, a.1.2.1, a.1.2.2.1, a.1.2.2.2.1, ()), ())).bind fun x1 => cond (!x1.1) (some (([] : List Int), ())) (okIf (0 ≤ (Int.ofNat (List.length a.1.1))) (capK (Int.toNat (Int.ofNat (List.length a.1.1))) ((f44 (a.2.1, 0, (w64 (a.1.2.2.2.1 - 1)), ())).bind fun x2 => cond (!x2.1) (some ((List.replicate (Int.toNat (Int.ofNat (List.length a.1.1))) (Ty.zero .int)), ())) (iterF (s13_0 f43 f44 f45 f46) fuel (a.2.1, (a.1.1, a.1.2.1, a.1.2.2.1, a.1.2.2.2.1, ()), (List.replicate (Int.toNat (Int.ofNat (List.length a.1.1))) (Ty.zero .int)), a.1.1, (Int.ofNat (List.length a.1.1)), 0, ()) fun t15 => some (t15.2.2.1, ())))))
def E13 (f43 : (List Device × List Cue × List Gust × Int × Unit) × Unit → Option (Bool × Unit)) (f44 : Int × Int × Int × Unit → Option (Bool × Unit)) (f45 : List Cue × Str × Int × Unit → Option (Int × Unit)) (f46 : Int × List Int × Unit → Option (List Int × Unit)) : Env := envL [(43, mkE p43 r43 false f43), (44, mkE p44 r44 false f44), (45, mkE p45 r45 false f45), (46, mkE p46 r46 false f46)]
noncomputable def L13 (f43 : (List Device × List Cue × List Gust × Int × Unit) × Unit → Option (Bool × Unit)) (f44 : Int × Int × Int × Unit → Option (Bool × Unit)) (f45 : List Cue × Str × Int × Unit → Option (Int × Unit)) (f46 : Int × List Int × Unit → Option (List Int × Unit)) : LEnv (densS (muts p13 ++ r13)) := lenv [(0, loopL (R := densS (muts p13 ++ r13)) q13_0 (s13_0 f43 f44 f45 f46)), (2, loopL (R := densS (muts p13 ++ r13)) q13_2 (s13_2 f43 f44 f45 f46)), (4, loopL (R := densS (muts p13 ++ r13)) q13_4 (s13_4 f43 f44 f45 f46))]
theorem e13_0 (f43 : (List Device × List Cue × List Gust × Int × Unit) × Unit → Option (Bool × Unit)) (f44 : Int × Int × Int × Unit → Option (Bool × Unit)) (f45 : List Cue × Str × Int × Unit → Option (Int × Unit)) (f46 : Int × List Int × Unit → Option (List Int × Unit)) (X : Nat → St → Option (densS (muts p13 ++ r13))) (rec K : densS q13_0 → Option (densS (muts p13 ++ r13))) (t : densS q13_0) :
    ev (E13 f43 f44 f45 f46) tab (fun _ => false) (L13 f43 f44 f45 f46) (retK tab p13 r13 Proofs.Try.f13.results.toList) (loopC Proofs.Try.f13 0) (fun i s => cond (Nat.beq i 0) (decK 100 q13_0 s K) (X i s)) (fun s => decK 100 q13_0 s rec) (enc q13_0 t) = s13_0 f43 f44 f45 f46 t rec K := by kernel_rfl
theorem e13_2 (f43 : (List Device × List Cue × List Gust × Int × Unit) × Unit → Option (Bool × Unit)) (f44 : Int × Int × Int × Unit → Option (Bool × Unit)) (f45 : List Cue × Str × Int × Unit → Option (Int × Unit)) (f46 : Int × List Int × Unit → Option (List Int × Unit)) (X : Nat → St → Option (densS (muts p13 ++ r13))) (rec K : densS q13_2 → Option (densS (muts p13 ++ r13))) (t : densS q13_2) :
    ev (E13 f43 f44 f45 f46) tab (fun _ => false) (L13 f43 f44 f45 f46) (retK tab p13 r13 Proofs.Try.f13.results.toList) (loopC Proofs.Try.f13 1) (fun i s => cond (Nat.beq i 2) (decK 100 q13_2 s K) (X i s)) (fun s => decK 100 q13_2 s rec) (enc q13_2 t) = s13_2 f43 f44 f45 f46 t rec K := by kernel_rfl
theorem e13_4 (f43 : (List Device × List Cue × List Gust × Int × Unit) × Unit → Option (Bool × Unit)) (f44 : Int × Int × Int × Unit → Option (Bool × Unit)) (f45 : List Cue × Str × Int × Unit → Option (Int × Unit)) (f46 : Int × List Int × Unit → Option (List Int × Unit)) (X : Nat → St → Option (densS (muts p13 ++ r13))) (rec K : densS q13_4 → Option (densS (muts p13 ++ r13))) (t : densS q13_4) :
    ev (E13 f43 f44 f45 f46) tab (fun _ => false) (L13 f43 f44 f45 f46) (retK tab p13 r13 Proofs.Try.f13.results.toList) (loopC Proofs.Try.f13 2) (fun i s => cond (Nat.beq i 4) (decK 100 q13_4 s K) (X i s)) (fun s => decK 100 q13_4 s rec) (enc q13_4 t) = s13_4 f43 f44 f45 f46 t rec K := by kernel_rfl
theorem e13 (f43 : (List Device × List Cue × List Gust × Int × Unit) × Unit → Option (Bool × Unit)) (f44 : Int × Int × Int × Unit → Option (Bool × Unit)) (f45 : List Cue × Str × Int × Unit → Option (Int × Unit)) (f46 : Int × List Int × Unit → Option (List Int × Unit)) (a : densS p13) : runF (E13 f43 f44 f45 f46) tab (fun _ => false) p13 r13 Proofs.Try.f13 (L13 f43 f44 f45 f46) a = F13 f43 f44 f45 f46 a := by kernel_rfl
theorem ok13 {f43 : (List Device × List Cue × List Gust × Int × Unit) × Unit → Option (Bool × Unit)} {f44 : Int × Int × Int × Unit → Option (Bool × Unit)} {f45 : List Cue × Str × Int × Unit → Option (Int × Unit)} {f46 : Int × List Int × Unit → Option (List Int × Unit)} (h43 : OK Proofs.Try.prog 43 (mkE p43 r43 false f43)) (h44 : OK Proofs.Try.prog 44 (mkE p44 r44 false f44)) (h45 : OK Proofs.Try.prog 45 (mkE p45 r45 false f45)) (h46 : OK Proofs.Try.prog 46 (mkE p46 r46 false f46)) : OK Proofs.Try.prog 13 (mkE p13 r13 false (F13 f43 f44 f45 f46)) :=
  fn_ok tab_ok (envL_ok (l := [(43, mkE p43 r43 false f43), (44, mkE p44 r44 false f44), (45, mkE p45 r45 false f45), (46, mkE p46 r46 false f46)]) (OKs.cons h43 (OKs.cons h44 (OKs.cons h45 (OKs.cons h46 OKs.nil))))) mixed (ann := (fun _ => false)) (L := L13 f43 f44 f45 f46) (fn := Proofs.Try.f13) (c := bodyC Proofs.Try.f13) (ls := [(0, loopC Proofs.Try.f13 0), (2, loopC Proofs.Try.f13 1), (4, loopC Proofs.Try.f13 2)]) Proofs.Try.func13 (by kernel_rfl) (by kernel_rfl) (by kernel_rfl) (by kernel_rfl)
    (LoopsP.cons q13_0 (s13_0 f43 f44 f45 f46) rfl (e13_0 f43 f44 f45 f46) (LoopsP.cons q13_2 (s13_2 f43 f44 f45 f46) rfl (e13_2 f43 f44 f45 f46) (LoopsP.cons q13_4 (s13_4 f43 f44 f45 f46) rfl (e13_4 f43 f44 f45 f46) LoopsP.nil))) (e13 f43 f44 f45 f46)
/-! laws.eqIntS -/
def p14 : List SP := [.one (.r .int), .one (.r .int)]
def r14 : List SP := [.one (.bool)]
def q14_0 : List SP := pat 26 0 [(0, .one (.r .int)), (1, .one (.r .int)), (5, .one (.int .i64))]
noncomputable def s14_0 (t1 : List Int × List Int × Int × Unit) (rec K : List Int × List Int × Int × Unit → Option (Bool × Unit)) : Option (Bool × Unit) :=
  cond (decide (t1.2.2.1 < (Int.ofNat (List.length t1.1)))) (rdL t1.1 t1.2.2.1 fun d2 => rdL t1.2.1 t1.2.2.1 fun d3 => cond (!(decide (d2 = d3))) (some (false, ())) (rec (t1.1, t1.2.1, (w64 (t1.2.2.1 + 1)), ()))) (K (t1.1, t1.2.1, t1.2.2.1, ()))
noncomputable def F14 (a : List Int × List Int × Unit) : Option (Bool × Unit) :=
  cond (!(decide ((Int.ofNat (List.length a.1)) = (Int.ofNat (List.length a.2.1))))) (some (false, ())) (iterF (s14_0) fuel (a.1, a.2.1, 0, ()) fun t4 => some (true, ()))
def E14 : Env := envL []
noncomputable def L14 : LEnv (densS (muts p14 ++ r14)) := lenv [(0, loopL (R := densS (muts p14 ++ r14)) q14_0 (s14_0))]
theorem e14_0 (X : Nat → St → Option (densS (muts p14 ++ r14))) (rec K : densS q14_0 → Option (densS (muts p14 ++ r14))) (t : densS q14_0) :
    ev (E14) tab (fun _ => false) (L14) (retK tab p14 r14 Proofs.Try.f14.results.toList) (loopC Proofs.Try.f14 0) (fun i s => cond (Nat.beq i 0) (decK 100 q14_0 s K) (X i s)) (fun s => decK 100 q14_0 s rec) (enc q14_0 t) = s14_0 t rec K := by kernel_rfl
theorem e14 (a : densS p14) : runF (E14) tab (fun _ => false) p14 r14 Proofs.Try.f14 (L14) a = F14 a := by kernel_rfl
theorem ok14 : OK Proofs.Try.prog 14 (mkE p14 r14 false (F14)) :=
  fn_ok tab_ok (envL_ok (l := []) OKs.nil) mixed (ann := (fun _ => false)) (L := L14) (fn := Proofs.Try.f14) (c := bodyC Proofs.Try.f14) (ls := [(0, loopC Proofs.Try.f14 0)]) Proofs.Try.func14 (by kernel_rfl) (by kernel_rfl) (by kernel_rfl) (by kernel_rfl)
    (LoopsP.cons q14_0 (s14_0) rfl (e14_0) LoopsP.nil) (e14)
/-! laws.eqPlace -/
def p56 : List SP := [.t .place, .t .place]
def r56 : List SP := [.one (.bool)]
noncomputable def F56 (a : Place × Place × Unit) : Option (Bool × Unit) :=
  cond (!(decide (a.1.X = a.2.1.X))) (some (false, ())) (cond (!(decide (a.1.Y = a.2.1.Y))) (some (false, ())) (some (true, ())))
def E56 : Env := envL []
noncomputable def L56 : LEnv (densS (muts p56 ++ r56)) := lenv []
theorem e56 (a : densS p56) : runF (E56) tab (fun _ => false) p56 r56 Proofs.Try.f56 (L56) a = F56 a := by kernel_rfl
theorem ok56 : OK Proofs.Try.prog 56 (mkE p56 r56 false (F56)) :=
  fn_ok tab_ok (envL_ok (l := []) OKs.nil) mixed (ann := (fun _ => false)) (L := L56) (fn := Proofs.Try.f56) (c := bodyC Proofs.Try.f56) (ls := []) Proofs.Try.func56 (by kernel_rfl) (by kernel_rfl) (by kernel_rfl) (by kernel_rfl)
    LoopsP.nil (e56)
/-! laws.eqDevice -/
def p86 : List SP := [.t .device, .t .device]
def r86 : List SP := [.one (.bool)]
noncomputable def F86 (f56 : Place × Place × Unit → Option (Bool × Unit)) (a : Device × Device × Unit) : Option (Bool × Unit) :=
  cond (!decide (a.1.Name = a.2.1.Name)) (some (false, ())) (cond (!(decide (a.1.Kind = a.2.1.Kind))) (some (false, ())) (cond (!decide (a.1.Line = a.2.1.Line)) (some (false, ())) ((f56 (a.1.At, a.2.1.At, ())).bind fun x1 => cond (!x1.1) (some (false, ())) (cond (!(decide (a.1.Heading = a.2.1.Heading))) (some (false, ())) (cond (!(decide (a.1.Tilt = a.2.1.Tilt))) (some (false, ())) (cond (!(decide (a.1.Most = a.2.1.Most))) (some (false, ())) (some (true, ()))))))))
def E86 (f56 : Place × Place × Unit → Option (Bool × Unit)) : Env := envL [(56, mkE p56 r56 false f56)]
noncomputable def L86 (f56 : Place × Place × Unit → Option (Bool × Unit)) : LEnv (densS (muts p86 ++ r86)) := lenv []
theorem e86 (f56 : Place × Place × Unit → Option (Bool × Unit)) (a : densS p86) : runF (E86 f56) tab (fun _ => false) p86 r86 Proofs.Try.f86 (L86 f56) a = F86 f56 a := by kernel_rfl
theorem ok86 {f56 : Place × Place × Unit → Option (Bool × Unit)} (h56 : OK Proofs.Try.prog 56 (mkE p56 r56 false f56)) : OK Proofs.Try.prog 86 (mkE p86 r86 false (F86 f56)) :=
  fn_ok tab_ok (envL_ok (l := [(56, mkE p56 r56 false f56)]) (OKs.cons h56 OKs.nil)) mixed (ann := (fun _ => false)) (L := L86 f56) (fn := Proofs.Try.f86) (c := bodyC Proofs.Try.f86) (ls := []) Proofs.Try.func86 (by kernel_rfl) (by kernel_rfl) (by kernel_rfl) (by kernel_rfl)
    LoopsP.nil (e86 f56)
/-! laws.eqDeviceS -/
def p47 : List SP := [.one (.r .device), .one (.r .device)]
def r47 : List SP := [.one (.bool)]
def q47_0 : List SP := pat 27 0 [(0, .one (.r .device)), (1, .one (.r .device)), (5, .one (.int .i64))]
noncomputable def s47_0 (f86 : Device × Device × Unit → Option (Bool × Unit)) (t1 : List Device × List Device × Int × Unit) (rec K : List Device × List Device × Int × Unit → Option (Bool × Unit)) : Option (Bool × Unit) :=
  cond (decide (t1.2.2.1 < (Int.ofNat (List.length t1.1)))) (rdL t1.1 t1.2.2.1 fun d2 => rdL t1.2.1 t1.2.2.1 fun d3 => (f86 (d2, d3, ())).bind fun x4 => cond (!x4.1) (some (false, ())) (rec (t1.1, t1.2.1, (w64 (t1.2.2.1 + 1)), ()))) (K (t1.1, t1.2.1, t1.2.2.1, ()))
noncomputable def F47 (f86 : Device × Device × Unit → Option (Bool × Unit)) (a : List Device × List Device × Unit) : Option (Bool × Unit) :=
  cond (!(decide ((Int.ofNat (List.length a.1)) = (Int.ofNat (List.length a.2.1))))) (some (false, ())) (iterF (s47_0 f86) fuel (a.1, a.2.1, 0, ()) fun t5 => some (true, ()))
def E47 (f86 : Device × Device × Unit → Option (Bool × Unit)) : Env := envL [(86, mkE p86 r86 false f86)]
noncomputable def L47 (f86 : Device × Device × Unit → Option (Bool × Unit)) : LEnv (densS (muts p47 ++ r47)) := lenv [(0, loopL (R := densS (muts p47 ++ r47)) q47_0 (s47_0 f86))]
theorem e47_0 (f86 : Device × Device × Unit → Option (Bool × Unit)) (X : Nat → St → Option (densS (muts p47 ++ r47))) (rec K : densS q47_0 → Option (densS (muts p47 ++ r47))) (t : densS q47_0) :
    ev (E47 f86) tab (fun _ => false) (L47 f86) (retK tab p47 r47 Proofs.Try.f47.results.toList) (loopC Proofs.Try.f47 0) (fun i s => cond (Nat.beq i 0) (decK 100 q47_0 s K) (X i s)) (fun s => decK 100 q47_0 s rec) (enc q47_0 t) = s47_0 f86 t rec K := by kernel_rfl
theorem e47 (f86 : Device × Device × Unit → Option (Bool × Unit)) (a : densS p47) : runF (E47 f86) tab (fun _ => false) p47 r47 Proofs.Try.f47 (L47 f86) a = F47 f86 a := by kernel_rfl
theorem ok47 {f86 : Device × Device × Unit → Option (Bool × Unit)} (h86 : OK Proofs.Try.prog 86 (mkE p86 r86 false f86)) : OK Proofs.Try.prog 47 (mkE p47 r47 false (F47 f86)) :=
  fn_ok tab_ok (envL_ok (l := [(86, mkE p86 r86 false f86)]) (OKs.cons h86 OKs.nil)) mixed (ann := (fun _ => false)) (L := L47 f86) (fn := Proofs.Try.f47) (c := bodyC Proofs.Try.f47) (ls := [(0, loopC Proofs.Try.f47 0)]) Proofs.Try.func47 (by kernel_rfl) (by kernel_rfl) (by kernel_rfl) (by kernel_rfl)
    (LoopsP.cons q47_0 (s47_0 f86) rfl (e47_0 f86) LoopsP.nil) (e47 f86)
/-! laws.eqCue -/
def p87 : List SP := [.t .cue, .t .cue]
def r87 : List SP := [.one (.bool)]
noncomputable def F87 (a : Cue × Cue × Unit) : Option (Bool × Unit) :=
  cond (!(decide (a.1.Tick = a.2.1.Tick))) (some (false, ())) (cond (!decide (a.1.Name = a.2.1.Name)) (some (false, ())) (cond (!(decide (a.1.Level = a.2.1.Level))) (some (false, ())) (cond (!(decide (a.1.Ramp = a.2.1.Ramp))) (some (false, ())) (some (true, ())))))
def E87 : Env := envL []
noncomputable def L87 : LEnv (densS (muts p87 ++ r87)) := lenv []
theorem e87 (a : densS p87) : runF (E87) tab (fun _ => false) p87 r87 Proofs.Try.f87 (L87) a = F87 a := by kernel_rfl
theorem ok87 : OK Proofs.Try.prog 87 (mkE p87 r87 false (F87)) :=
  fn_ok tab_ok (envL_ok (l := []) OKs.nil) mixed (ann := (fun _ => false)) (L := L87) (fn := Proofs.Try.f87) (c := bodyC Proofs.Try.f87) (ls := []) Proofs.Try.func87 (by kernel_rfl) (by kernel_rfl) (by kernel_rfl) (by kernel_rfl)
    LoopsP.nil (e87)
/-! laws.eqCueS -/
def p48 : List SP := [.one (.r .cue), .one (.r .cue)]
def r48 : List SP := [.one (.bool)]
def q48_0 : List SP := pat 27 0 [(0, .one (.r .cue)), (1, .one (.r .cue)), (5, .one (.int .i64))]
noncomputable def s48_0 (f87 : Cue × Cue × Unit → Option (Bool × Unit)) (t1 : List Cue × List Cue × Int × Unit) (rec K : List Cue × List Cue × Int × Unit → Option (Bool × Unit)) : Option (Bool × Unit) :=
  cond (decide (t1.2.2.1 < (Int.ofNat (List.length t1.1)))) (rdL t1.1 t1.2.2.1 fun d2 => rdL t1.2.1 t1.2.2.1 fun d3 => (f87 (d2, d3, ())).bind fun x4 => cond (!x4.1) (some (false, ())) (rec (t1.1, t1.2.1, (w64 (t1.2.2.1 + 1)), ()))) (K (t1.1, t1.2.1, t1.2.2.1, ()))
noncomputable def F48 (f87 : Cue × Cue × Unit → Option (Bool × Unit)) (a : List Cue × List Cue × Unit) : Option (Bool × Unit) :=
  cond (!(decide ((Int.ofNat (List.length a.1)) = (Int.ofNat (List.length a.2.1))))) (some (false, ())) (iterF (s48_0 f87) fuel (a.1, a.2.1, 0, ()) fun t5 => some (true, ()))
def E48 (f87 : Cue × Cue × Unit → Option (Bool × Unit)) : Env := envL [(87, mkE p87 r87 false f87)]
noncomputable def L48 (f87 : Cue × Cue × Unit → Option (Bool × Unit)) : LEnv (densS (muts p48 ++ r48)) := lenv [(0, loopL (R := densS (muts p48 ++ r48)) q48_0 (s48_0 f87))]
theorem e48_0 (f87 : Cue × Cue × Unit → Option (Bool × Unit)) (X : Nat → St → Option (densS (muts p48 ++ r48))) (rec K : densS q48_0 → Option (densS (muts p48 ++ r48))) (t : densS q48_0) :
    ev (E48 f87) tab (fun _ => false) (L48 f87) (retK tab p48 r48 Proofs.Try.f48.results.toList) (loopC Proofs.Try.f48 0) (fun i s => cond (Nat.beq i 0) (decK 100 q48_0 s K) (X i s)) (fun s => decK 100 q48_0 s rec) (enc q48_0 t) = s48_0 f87 t rec K := by kernel_rfl
theorem e48 (f87 : Cue × Cue × Unit → Option (Bool × Unit)) (a : densS p48) : runF (E48 f87) tab (fun _ => false) p48 r48 Proofs.Try.f48 (L48 f87) a = F48 f87 a := by kernel_rfl
theorem ok48 {f87 : Cue × Cue × Unit → Option (Bool × Unit)} (h87 : OK Proofs.Try.prog 87 (mkE p87 r87 false f87)) : OK Proofs.Try.prog 48 (mkE p48 r48 false (F48 f87)) :=
  fn_ok tab_ok (envL_ok (l := [(87, mkE p87 r87 false f87)]) (OKs.cons h87 OKs.nil)) mixed (ann := (fun _ => false)) (L := L48 f87) (fn := Proofs.Try.f48) (c := bodyC Proofs.Try.f48) (ls := [(0, loopC Proofs.Try.f48 0)]) Proofs.Try.func48 (by kernel_rfl) (by kernel_rfl) (by kernel_rfl) (by kernel_rfl)
    (LoopsP.cons q48_0 (s48_0 f87) rfl (e48_0 f87) LoopsP.nil) (e48 f87)
/-! laws.eqGust -/
def p88 : List SP := [.t .gust, .t .gust]
def r88 : List SP := [.one (.bool)]
noncomputable def F88 (f56 : Place × Place × Unit → Option (Bool × Unit)) (a : Gust × Gust × Unit) : Option (Bool × Unit) :=
  cond (!(decide (a.1.From = a.2.1.From))) (some (false, ())) ((f56 (a.1.Drift, a.2.1.Drift, ())).bind fun x1 => cond (!x1.1) (some (false, ())) (some (true, ())))
def E88 (f56 : Place × Place × Unit → Option (Bool × Unit)) : Env := envL [(56, mkE p56 r56 false f56)]
noncomputable def L88 (f56 : Place × Place × Unit → Option (Bool × Unit)) : LEnv (densS (muts p88 ++ r88)) := lenv []
theorem e88 (f56 : Place × Place × Unit → Option (Bool × Unit)) (a : densS p88) : runF (E88 f56) tab (fun _ => false) p88 r88 Proofs.Try.f88 (L88 f56) a = F88 f56 a := by kernel_rfl
theorem ok88 {f56 : Place × Place × Unit → Option (Bool × Unit)} (h56 : OK Proofs.Try.prog 56 (mkE p56 r56 false f56)) : OK Proofs.Try.prog 88 (mkE p88 r88 false (F88 f56)) :=
  fn_ok tab_ok (envL_ok (l := [(56, mkE p56 r56 false f56)]) (OKs.cons h56 OKs.nil)) mixed (ann := (fun _ => false)) (L := L88 f56) (fn := Proofs.Try.f88) (c := bodyC Proofs.Try.f88) (ls := []) Proofs.Try.func88 (by kernel_rfl) (by kernel_rfl) (by kernel_rfl) (by kernel_rfl)
    LoopsP.nil (e88 f56)
/-! laws.eqGustS -/
def p49 : List SP := [.one (.r .gust), .one (.r .gust)]
def r49 : List SP := [.one (.bool)]
def q49_0 : List SP := pat 27 0 [(0, .one (.r .gust)), (1, .one (.r .gust)), (5, .one (.int .i64))]
noncomputable def s49_0 (f88 : Gust × Gust × Unit → Option (Bool × Unit)) (t1 : List Gust × List Gust × Int × Unit) (rec K : List Gust × List Gust × Int × Unit → Option (Bool × Unit)) : Option (Bool × Unit) :=
  cond (decide (t1.2.2.1 < (Int.ofNat (List.length t1.1)))) (rdL t1.1 t1.2.2.1 fun d2 => rdL t1.2.1 t1.2.2.1 fun d3 => (f88 (d2, d3, ())).bind fun x4 => cond (!x4.1) (some (false, ())) (rec (t1.1, t1.2.1, (w64 (t1.2.2.1 + 1)), ()))) (K (t1.1, t1.2.1, t1.2.2.1, ()))
noncomputable def F49 (f88 : Gust × Gust × Unit → Option (Bool × Unit)) (a : List Gust × List Gust × Unit) : Option (Bool × Unit) :=
  cond (!(decide ((Int.ofNat (List.length a.1)) = (Int.ofNat (List.length a.2.1))))) (some (false, ())) (iterF (s49_0 f88) fuel (a.1, a.2.1, 0, ()) fun t5 => some (true, ()))
def E49 (f88 : Gust × Gust × Unit → Option (Bool × Unit)) : Env := envL [(88, mkE p88 r88 false f88)]
noncomputable def L49 (f88 : Gust × Gust × Unit → Option (Bool × Unit)) : LEnv (densS (muts p49 ++ r49)) := lenv [(0, loopL (R := densS (muts p49 ++ r49)) q49_0 (s49_0 f88))]
theorem e49_0 (f88 : Gust × Gust × Unit → Option (Bool × Unit)) (X : Nat → St → Option (densS (muts p49 ++ r49))) (rec K : densS q49_0 → Option (densS (muts p49 ++ r49))) (t : densS q49_0) :
    ev (E49 f88) tab (fun _ => false) (L49 f88) (retK tab p49 r49 Proofs.Try.f49.results.toList) (loopC Proofs.Try.f49 0) (fun i s => cond (Nat.beq i 0) (decK 100 q49_0 s K) (X i s)) (fun s => decK 100 q49_0 s rec) (enc q49_0 t) = s49_0 f88 t rec K := by kernel_rfl
theorem e49 (f88 : Gust × Gust × Unit → Option (Bool × Unit)) (a : densS p49) : runF (E49 f88) tab (fun _ => false) p49 r49 Proofs.Try.f49 (L49 f88) a = F49 f88 a := by kernel_rfl
theorem ok49 {f88 : Gust × Gust × Unit → Option (Bool × Unit)} (h88 : OK Proofs.Try.prog 88 (mkE p88 r88 false f88)) : OK Proofs.Try.prog 49 (mkE p49 r49 false (F49 f88)) :=
  fn_ok tab_ok (envL_ok (l := [(88, mkE p88 r88 false f88)]) (OKs.cons h88 OKs.nil)) mixed (ann := (fun _ => false)) (L := L49 f88) (fn := Proofs.Try.f49) (c := bodyC Proofs.Try.f49) (ls := [(0, loopC Proofs.Try.f49 0)]) Proofs.Try.func49 (by kernel_rfl) (by kernel_rfl) (by kernel_rfl) (by kernel_rfl)
    (LoopsP.cons q49_0 (s49_0 f88) rfl (e49_0 f88) LoopsP.nil) (e49 f88)
/-! laws.eqShow -/
def p15 : List SP := [.agg [.r .device, .r .cue, .r .gust, .int .i64], .agg [.r .device, .r .cue, .r .gust, .int .i64]]
def r15 : List SP := [.one (.bool)]
noncomputable def F15 (f47 : List Device × List Device × Unit → Option (Bool × Unit)) (f48 : List Cue × List Cue × Unit → Option (Bool × Unit)) (f49 : List Gust × List Gust × Unit → Option (Bool × Unit)) (a : (List Device × List Cue × List Gust × Int × Unit) × (List Device × List Cue × List Gust × Int × Unit) × Unit) : Option (Bool × Unit) :=
  (f47 (a.1.1, a.2.1.1, ())).bind fun x1 => cond (!x1.1) (some (false, ())) ((f48 (a.1.2.1, a.2.1.2.1, ())).bind fun x2 => cond (!x2.1) (some (false, ())) ((f49 (a.1.2.2.1, a.2.1.2.2.1, ())).bind fun x3 => cond (!x3.1) (some (false, ())) (cond (!(decide (a.1.2.2.2.1 = a.2.1.2.2.2.1))) (some (false, ())) (some (true, ())))))
def E15 (f47 : List Device × List Device × Unit → Option (Bool × Unit)) (f48 : List Cue × List Cue × Unit → Option (Bool × Unit)) (f49 : List Gust × List Gust × Unit → Option (Bool × Unit)) : Env := envL [(47, mkE p47 r47 false f47), (48, mkE p48 r48 false f48), (49, mkE p49 r49 false f49)]
noncomputable def L15 (f47 : List Device × List Device × Unit → Option (Bool × Unit)) (f48 : List Cue × List Cue × Unit → Option (Bool × Unit)) (f49 : List Gust × List Gust × Unit → Option (Bool × Unit)) : LEnv (densS (muts p15 ++ r15)) := lenv []
theorem e15 (f47 : List Device × List Device × Unit → Option (Bool × Unit)) (f48 : List Cue × List Cue × Unit → Option (Bool × Unit)) (f49 : List Gust × List Gust × Unit → Option (Bool × Unit)) (a : densS p15) : runF (E15 f47 f48 f49) tab (fun _ => false) p15 r15 Proofs.Try.f15 (L15 f47 f48 f49) a = F15 f47 f48 f49 a := by kernel_rfl
theorem ok15 {f47 : List Device × List Device × Unit → Option (Bool × Unit)} {f48 : List Cue × List Cue × Unit → Option (Bool × Unit)} {f49 : List Gust × List Gust × Unit → Option (Bool × Unit)} (h47 : OK Proofs.Try.prog 47 (mkE p47 r47 false f47)) (h48 : OK Proofs.Try.prog 48 (mkE p48 r48 false f48)) (h49 : OK Proofs.Try.prog 49 (mkE p49 r49 false f49)) : OK Proofs.Try.prog 15 (mkE p15 r15 false (F15 f47 f48 f49)) :=
  fn_ok tab_ok (envL_ok (l := [(47, mkE p47 r47 false f47), (48, mkE p48 r48 false f48), (49, mkE p49 r49 false f49)]) (OKs.cons h47 (OKs.cons h48 (OKs.cons h49 OKs.nil)))) mixed (ann := (fun _ => false)) (L := L15 f47 f48 f49) (fn := Proofs.Try.f15) (c := bodyC Proofs.Try.f15) (ls := []) Proofs.Try.func15 (by kernel_rfl) (by kernel_rfl) (by kernel_rfl) (by kernel_rfl)
    LoopsP.nil (e15 f47 f48 f49)
/-! laws.markText -/
def p64 : List SP := [.one (.int .i64)]
def r64 : List SP := [.one (.str)]
def q64_0 : List SP := pat 20 0 [(0, .one (.int .i64)), (3, .one (.str))]
noncomputable def s64_0 (t1 : Int × Str × Unit) (rec K : Int × Str × Unit → Option (Str × Unit)) : Option (Str × Unit) :=
  cond (decide (t1.1 > 0)) (capK (List.length (List.map (fun n => UInt8.ofNat (Int.toNat n)) ([(IntKind.wrap .u8 (w64 (48 + (Int.tmod t1.1 10))))] : List Int)) + List.length t1.2.1) (rec ((w64 (Int.tdiv t1.1 10)), ((List.map (fun n => UInt8.ofNat (Int.toNat n)) ([(IntKind.wrap .u8 (w64 (48 + (Int.tmod t1.1 10))))] : List Int)) ++ t1.2.1), ()))) (K (t1.1, t1.2.1, ()))
noncomputable def F64 (a : Int × Unit) : Option (Str × Unit) :=
  cond (decide (a.1 ≤ 0)) (some ([109, 48], ())) (iterF (s64_0) fuel (a.1, [], ()) fun t2 => capK (List.length [109] + List.length t2.2.1) (some (([109] ++ t2.2.1), ())))
def E64 : Env := envL []
noncomputable def L64 : LEnv (densS (muts p64 ++ r64)) := lenv [(0, loopL (R := densS (muts p64 ++ r64)) q64_0 (s64_0))]
theorem e64_0 (X : Nat → St → Option (densS (muts p64 ++ r64))) (rec K : densS q64_0 → Option (densS (muts p64 ++ r64))) (t : densS q64_0) :
    ev (E64) tab (fun _ => false) (L64) (retK tab p64 r64 Proofs.Try.f64.results.toList) (loopC Proofs.Try.f64 0) (fun i s => cond (Nat.beq i 0) (decK 100 q64_0 s K) (X i s)) (fun s => decK 100 q64_0 s rec) (enc q64_0 t) = s64_0 t rec K := by kernel_rfl
theorem e64 (a : densS p64) : runF (E64) tab (fun _ => false) p64 r64 Proofs.Try.f64 (L64) a = F64 a := by kernel_rfl
theorem ok64 : OK Proofs.Try.prog 64 (mkE p64 r64 false (F64)) :=
  fn_ok tab_ok (envL_ok (l := []) OKs.nil) mixed (ann := (fun _ => false)) (L := L64) (fn := Proofs.Try.f64) (c := bodyC Proofs.Try.f64) (ls := [(0, loopC Proofs.Try.f64 0)]) Proofs.Try.func64 (by kernel_rfl) (by kernel_rfl) (by kernel_rfl) (by kernel_rfl)
    (LoopsP.cons q64_0 (s64_0) rfl (e64_0) LoopsP.nil) (e64)
/-! laws.markDeviceS -/
def p50 : List SP := [.one (.o 0 .device), .one (.int .i64)]
def r50 : List SP := [.one (.int .i64)]
def q50_0 : List SP := pat 73 0 [(0, .one (.o 0 .device)), (1, .one (.int .i64)), (5, .one (.int .i64))]
noncomputable def s50_0 (f64 : Int × Unit → Option (Str × Unit)) (t1 : List Device × Int × Int × Unit) (rec K : List Device × Int × Int × Unit → Option (List Device × Int × Unit)) : Option (List Device × Int × Unit) :=
  cond (decide (t1.2.2.1 < (Int.ofNat (List.length t1.1)))) ((f64 (t1.2.1, ())).bind fun x2 => rdL t1.1 t1.2.2.1 fun _ => (t1.1[(Int.toNat t1.2.2.1)]?).bind fun d3 => rdL (List.set t1.1 (Int.toNat t1.2.2.1) (⟨x2.1, d3.Kind, d3.Line, ⟨d3.At.X, d3.At.Y⟩, d3.Heading, d3.Tilt, d3.Most⟩ : Device)) t1.2.2.1 fun _ => ((List.set t1.1 (Int.toNat t1.2.2.1) (⟨x2.1, d3.Kind, d3.Line, ⟨d3.At.X, d3.At.Y⟩, d3.Heading, d3.Tilt, d3.Most⟩ : Device))[(Int.toNat t1.2.2.1)]?).bind fun d4 => (f64 ((w64 ((w64 (t1.2.1 + 1)) + 1)), ())).bind fun x5 => rdL (List.set (List.set t1.1 (Int.toNat t1.2.2.1) (⟨x2.1, d3.Kind, d3.Line, ⟨d3.At.X, d3.At.Y⟩, d3.Heading, d3.Tilt, d3.Most⟩ : Device)) (Int.toNat t1.2.2.1) (⟨d4.Name, (w64 (t1.2.1 + 1)), d4.Line, ⟨d4.At.X, d4.At.Y⟩, d4.Heading, d4.Tilt, d4.Most⟩ : Device)) t1.2.2.1 fun _ => ((List.set (List.set t1.1 (Int.toNat t1.2.2.1) (⟨x2.1, d3.Kind, d3.Line, ⟨d3.At.X, d3.At.Y⟩, d3.Heading, d3.Tilt, d3.Most⟩ : Device)) (Int.toNat t1.2.2.1) (⟨d4.Name, (w64 (t1.2.1 + 1)), d4.Line, ⟨d4.At.X, d4.At.Y⟩, d4.Heading, d4.Tilt, d4.Most⟩ : Device))[(Int.toNat t1.2.2.1)]?).bind fun d6 => rdL (List.set (List.set (List.set t1.1 (Int.toNat t1.2.2.1) (⟨x2.1, d3.Kind, d3.Line, ⟨d3.At.X, d3.At.Y⟩, d3.Heading, d3.Tilt, d3.Most⟩ : Device)) (Int.toNat t1.2.2.1) (⟨d4.Name, (w64 (t1.2.1 + 1)), d4.Line, ⟨d4.At.X, d4.At.Y⟩, d4.Heading, d4.Tilt, d4.Most⟩ : Device)) (Int.toNat t1.2.2.1) (⟨d6.Name, d6.Kind, x5.1, ⟨d6.At.X, d6.At.Y⟩, d6.Heading, d6.Tilt, d6.Most⟩ : Device)) t1.2.2.1 fun _ => ((List.set (List.set (List.set t1.1 (Int.toNat t1.2.2.1) (⟨x2.1, d3.Kind, d3.Line, ⟨d3.At.X, d3.At.Y⟩, d3.Heading, d3.Tilt, d3.Most⟩ : Device)) (Int.toNat t1.2.2.1) (⟨d4.Name, (w64 (t1.2.1 + 1)), d4.Line, ⟨d4.At.X, d4.At.Y⟩, d4.Heading, d4.Tilt, d4.Most⟩ : Device)) (Int.toNat t1.2.2.1) (⟨d6.Name, d6.Kind, x5.1, ⟨d6.At.X, d6.At.Y⟩, d6.Heading, d6.Tilt, d6.Most⟩ : Device))[(Int.toNat t1.2.2.1)]?).bind fun d7 => rdL (List.set (List.set (List.set (List.set t1.1 (Int.toNat t1.2.2.1) (⟨x2.1, d3.Kind, d3.Line, ⟨d3.At.X, d3.At.Y⟩, d3.Heading, d3.Tilt, d3.Most⟩ : Device)) (Int.toNat t1.2.2.1) (⟨d4.Name, (w64 (t1.2.1 + 1)), d4.Line, ⟨d4.At.X, d4.At.Y⟩, d4.Heading, d4.Tilt, d4.Most⟩ : Device)) (Int.toNat t1.2.2.1) (⟨d6.Name, d6.Kind, x5.1, ⟨d6.At.X, d6.At.Y⟩, d6.Heading, d6.Tilt, d6.Most⟩ : Device)) (Int.toNat t1.2.2.1) (⟨d7.Name, d7.Kind, d7.Line, ⟨(w64 ((w64 ((w64 (t1.2.1 + 1)) + 1)) + 1)), d7.At.Y⟩, d7.Heading, d7.Tilt, d7.Most⟩ : Device)) t1.2.2.1 fun _ => ((List.set (List.set (List.set (List.set t1.1 (Int.toNat t1.2.2.1) (⟨x2.1, d3.Kind, d3.Line, ⟨d3.At.X, d3.At.Y⟩, d3.Heading, d3.Tilt, d3.Most⟩ : Device)) (Int.toNat t1.2.2.1) (⟨d4.Name, (w64 (t1.2.1 + 1)), d4.Line, ⟨d4.At.X, d4.At.Y⟩, d4.Heading, d4.Tilt, d4.Most⟩ : Device)) (Int.toNat t1.2.2.1) (⟨d6.Name, d6.Kind, x5.1, ⟨d6.At.X, d6.At.Y⟩, d6.Heading, d6.Tilt, d6.Most⟩ : Device)) (Int.toNat t1.2.2.1) (⟨d7.Name, d7.Kind, d7.Line, ⟨(w64 ((w64 ((w64 (t1.2.1 + 1)) + 1)) + 1)), d7.At.Y⟩, d7.Heading, d7.Tilt, d7.Most⟩ : Device))[(Int.toNat t1.2.2.1)]?).bind fun d8 => rdL (List.set (List.set (List.set (List.set (List.set t1.1 (Int.toNat t1.2.2.1) (⟨x2.1, d3.Kind, d3.Line, ⟨d3.At.X, d3.At.Y⟩, d3.Heading, d3.Tilt, d3.Most⟩ : Device)) (Int.toNat t1.2.2.1) (⟨d4.Name, (w64 (t1.2.1 + 1)), d4.Line, ⟨d4.At.X, d4.At.Y⟩, d4.Heading, d4.Tilt, d4.Most⟩ : Device)) (Int.toNat t1.2.2.1) (⟨d6.Name, d6.Kind, x5.1, ⟨d6.At.X, d6.At.Y⟩, d6.Heading, d6.Tilt, d6.Most⟩ : Device)) (Int.toNat t1.2.2.1) (⟨d7.Name, d7.Kind, d7.Line, ⟨(w64 ((w64 ((w64 (t1.2.1 + 1)) + 1)) + 1)), d7.At.Y⟩, d7.Heading, d7.Tilt, d7.Most⟩ : Device)) (Int.toNat t1.2.2.1) (⟨d8.Name, d8.Kind, d8.Line, ⟨d8.At.X, (w64 ((w64 ((w64 ((w64 (t1.2.1 + 1)) + 1)) + 1)) + 1))⟩, d8.Heading, d8.Tilt, d8.Most⟩ : Device)) t1.2.2.1 fun _ => ((List.set (List.set (List.set (List.set (List.set t1.1 (Int.toNat t1.2.2.1) (⟨x2.1, d3.Kind, d3.Line, ⟨d3.At.X, d3.At.Y⟩, d3.Heading, d3.Tilt, d3.Most⟩ : Device)) (Int.toNat t1.2.2.1) (⟨d4.Name, (w64 (t1.2.1 + 1)), d4.Line, ⟨d4.At.X, d4.At.Y⟩, d4.Heading, d4.Tilt, d4.Most⟩ : Device)) (Int.toNat t1.2.2.1) (⟨d6.Name, d6.Kind, x5.1, ⟨d6.At.X, d6.At.Y⟩, d6.Heading, d6.Tilt, d6.Most⟩ : Device)) (Int.toNat t1.2.2.1) (⟨d7.Name, d7.Kind, d7.Line, ⟨(w64 ((w64 ((w64 (t1.2.1 + 1)) + 1)) + 1)), d7.At.Y⟩, d7.Heading, d7.Tilt, d7.Most⟩ : Device)) (Int.toNat t1.2.2.1) (⟨d8.Name, d8.Kind, d8.Line, ⟨d8.At.X, (w64 ((w64 ((w64 ((w64 (t1.2.1 + 1)) + 1)) + 1)) + 1))⟩, d8.Heading, d8.Tilt, d8.Most⟩ : Device))[(Int.toNat t1.2.2.1)]?).bind fun d9 => rdL (List.set (List.set (List.set (List.set (List.set (List.set t1.1 (Int.toNat t1.2.2.1) (⟨x2.1, d3.Kind, d3.Line, ⟨d3.At.X, d3.At.Y⟩, d3.Heading, d3.Tilt, d3.Most⟩ : Device)) (Int.toNat t1.2.2.1) (⟨d4.Name, (w64 (t1.2.1 + 1)), d4.Line, ⟨d4.At.X, d4.At.Y⟩, d4.Heading, d4.Tilt, d4.Most⟩ : Device)) (Int.toNat t1.2.2.1) (⟨d6.Name, d6.Kind, x5.1, ⟨d6.At.X, d6.At.Y⟩, d6.Heading, d6.Tilt, d6.Most⟩ : Device)) (Int.toNat t1.2.2.1) (⟨d7.Name, d7.Kind, d7.Line, ⟨(w64 ((w64 ((w64 (t1.2.1 + 1)) + 1)) + 1)), d7.At.Y⟩, d7.Heading, d7.Tilt, d7.Most⟩ : Device)) (Int.toNat t1.2.2.1) (⟨d8.Name, d8.Kind, d8.Line, ⟨d8.At.X, (w64 ((w64 ((w64 ((w64 (t1.2.1 + 1)) + 1)) + 1)) + 1))⟩, d8.Heading, d8.Tilt, d8.Most⟩ : Device)) (Int.toNat t1.2.2.1) (⟨d9.Name, d9.Kind, d9.Line, ⟨d9.At.X, d9.At.Y⟩, (w64 ((w64 ((w64 ((w64 ((w64 (t1.2.1 + 1)) + 1)) + 1)) + 1)) + 1)), d9.Tilt, d9.Most⟩ : Device)) t1.2.2.1 fun _ => ((List.set (List.set (List.set (List.set (List.set (List.set t1.1 (Int.toNat t1.2.2.1) (⟨x2.1, d3.Kind, d3.Line, ⟨d3.At.X, d3.At.Y⟩, d3.Heading, d3.Tilt, d3.Most⟩ : Device)) (Int.toNat t1.2.2.1) (⟨d4.Name, (w64 (t1.2.1 + 1)), d4.Line, ⟨d4.At.X, d4.At.Y⟩, d4.Heading, d4.Tilt, d4.Most⟩ : Device)) (Int.toNat t1.2.2.1) (⟨d6.Name, d6.Kind, x5.1, ⟨d6.At.X, d6.At.Y⟩, d6.Heading, d6.Tilt, d6.Most⟩ : Device)) (Int.toNat t1.2.2.1) (⟨d7.Name, d7.Kind, d7.Line, ⟨(w64 ((w64 ((w64 (t1.2.1 + 1)) + 1)) + 1)), d7.At.Y⟩, d7.Heading, d7.Tilt, d7.Most⟩ : Device)) (Int.toNat t1.2.2.1) (⟨d8.Name, d8.Kind, d8.Line, ⟨d8.At.X, (w64 ((w64 ((w64 ((w64 (t1.2.1 + 1)) + 1)) + 1)) + 1))⟩, d8.Heading, d8.Tilt, d8.Most⟩ : Device)) (Int.toNat t1.2.2.1) (⟨d9.Name, d9.Kind, d9.Line, ⟨d9.At.X, d9.At.Y⟩, (w64 ((w64 ((w64 ((w64 ((w64 (t1.2.1 + 1)) + 1)) + 1)) + 1)) + 1)), d9.Tilt, d9.Most⟩ : Device))[(Int.toNat t1.2.2.1)]?).bind fun d10 => rdL (List.set (List.set (List.set (List.set (List.set (List.set (List.set t1.1 (Int.toNat t1.2.2.1) (⟨x2.1, d3.Kind, d3.Line, ⟨d3.At.X, d3.At.Y⟩, d3.Heading, d3.Tilt, d3.Most⟩ : Device)) (Int.toNat t1.2.2.1) (⟨d4.Name, (w64 (t1.2.1 + 1)), d4.Line, ⟨d4.At.X, d4.At.Y⟩, d4.Heading, d4.Tilt, d4.Most⟩ : Device)) (Int.toNat t1.2.2.1) (⟨d6.Name, d6.Kind, x5.1, ⟨d6.At.X, d6.At.Y⟩, d6.Heading, d6.Tilt, d6.Most⟩ : Device)) (Int.toNat t1.2.2.1) (⟨d7.Name, d7.Kind, d7.Line, ⟨(w64 ((w64 ((w64 (t1.2.1 + 1)) + 1)) + 1)), d7.At.Y⟩, d7.Heading, d7.Tilt, d7.Most⟩ : Device)) (Int.toNat t1.2.2.1) (⟨d8.Name, d8.Kind, d8.Line, ⟨d8.At.X, (w64 ((w64 ((w64 ((w64 (t1.2.1 + 1)) + 1)) + 1)) + 1))⟩, d8.Heading, d8.Tilt, d8.Most⟩ : Device)) (Int.toNat t1.2.2.1) (⟨d9.Name, d9.Kind, d9.Line, ⟨d9.At.X, d9.At.Y⟩, (w64 ((w64 ((w64 ((w64 ((w64 (t1.2.1 + 1)) + 1)) + 1)) + 1)) + 1)), d9.Tilt, d9.Most⟩ : Device)) (Int.toNat t1.2.2.1) (⟨d10.Name, d10.Kind, d10.Line, ⟨d10.At.X, d10.At.Y⟩, d10.Heading, (w64 ((w64 ((w64 ((w64 ((w64 ((w64 (t1.2.1 + 1)) + 1)) + 1)) + 1)) + 1)) + 1)), d10.Most⟩ : Device)) t1.2.2.1 fun _ => ((List.set (List.set (List.set (List.set (List.set (List.set (List.set t1.1 (Int.toNat t1.2.2.1) (⟨x2.1, d3.Kind, d3.Line, ⟨d3.At.X, d3.At.Y⟩, d3.Heading, d3.Tilt, d3.Most⟩ : Device)) (Int.toNat t1.2.2.1) (⟨d4.Name, (w64 (t1.2.1 + 1)), d4.Line, ⟨d4.At.X, d4.At.Y⟩, d4.Heading, d4.Tilt, d4.Most⟩ : Device)) (Int.toNat t1.2.2.1) (⟨d6.Name, d6.Kind, x5.1, ⟨d6.At.X, d6.At.Y⟩, d6.Heading, d6.Tilt, d6.Most⟩ : Device)) (Int.toNat t1.2.2.1) (⟨d7.Name, d7.Kind, d7.Line, ⟨(w64 ((w64 ((w64 (t1.2.1 + 1)) + 1)) + 1)), d7.At.Y⟩, d7.Heading, d7.Tilt, d7.Most⟩ : Device)) (Int.toNat t1.2.2.1) (⟨d8.Name, d8.Kind, d8.Line, ⟨d8.At.X, (w64 ((w64 ((w64 ((w64 (t1.2.1 + 1)) + 1)) + 1)) + 1))⟩, d8.Heading, d8.Tilt, d8.Most⟩ : Device)) (Int.toNat t1.2.2.1) (⟨d9.Name, d9.Kind, d9.Line, ⟨d9.At.X, d9.At.Y⟩, (w64 ((w64 ((w64 ((w64 ((w64 (t1.2.1 + 1)) + 1)) + 1)) + 1)) + 1)), d9.Tilt, d9.Most⟩ : Device)) (Int.toNat t1.2.2.1) (⟨d10.Name, d10.Kind, d10.Line, ⟨d10.At.X, d10.At.Y⟩, d10.Heading, (w64 ((w64 ((w64 ((w64 ((w64 ((w64 (t1.2.1 + 1)) + 1)) + 1)) + 1)) + 1)) + 1)), d10.Most⟩ : Device))[(Int.toNat t1.2.2.1)]?).bind fun d11 => rec ((List.set (List.set (List.set (List.set (List.set (List.set (List.set (List.set t1.1 (Int.toNat t1.2.2.1) (⟨x2.1, d3.Kind, d3.Line, ⟨d3.At.X, d3.At.Y⟩, d3.Heading, d3.Tilt, d3.Most⟩ : Device)) (Int.toNat t1.2.2.1) (⟨d4.Name, (w64 (t1.2.1 + 1)), d4.Line, ⟨d4.At.X, d4.At.Y⟩, d4.Heading, d4.Tilt, d4.Most⟩ : Device)) (Int.toNat t1.2.2.1) (⟨d6.Name, d6.Kind, x5.1, ⟨d6.At.X, d6.At.Y⟩, d6.Heading, d6.Tilt, d6.Most⟩ : Device)) (Int.toNat t1.2.2.1) (⟨d7.Name, d7.Kind, d7.Line, ⟨(w64 ((w64 ((w64 (t1.2.1 + 1)) + 1)) + 1)), d7.At.Y⟩, d7.Heading, d7.Tilt, d7.Most⟩ : Device)) (Int.toNat t1.2.2.1) (⟨d8.Name, d8.Kind, d8.Line, ⟨d8.At.X, (w64 ((w64 ((w64 ((w64 (t1.2.1 + 1)) + 1)) + 1)) + 1))⟩, d8.Heading, d8.Tilt, d8.Most⟩ : Device)) (Int.toNat t1.2.2.1) (⟨d9.Name, d9.Kind, d9.Line, ⟨d9.At.X, d9.At.Y⟩, (w64 ((w64 ((w64 ((w64 ((w64 (t1.2.1 + 1)) + 1)) + 1)) + 1)) + 1)), d9.Tilt, d9.Most⟩ : Device)) (Int.toNat t1.2.2.1) (⟨d10.Name, d10.Kind, d10.Line, ⟨d10.At.X, d10.At.Y⟩, d10.Heading, (w64 ((w64 ((w64 ((w64 ((w64 ((w64 (t1.2.1 + 1)) + 1)) + 1)) + 1)) + 1)) + 1)), d10.Most⟩ : Device)) (Int.toNat t1.2.2.1) (⟨d11.Name, d11.Kind, d11.Line, ⟨d11.At.X, d11.At.Y⟩, d11.Heading, d11.Tilt, (w64 ((w64 ((w64 ((w64 ((w64 ((w64 ((w64 (t1.2.1 + 1)) + 1)) + 1)) + 1)) + 1)) + 1)) + 1))⟩ : Device)), (w64 ((w64 ((w64 ((w64 ((w64 ((w64 ((w64 ((w64 (t1.2.1 + 1)) + 1)) + 1)) + 1)) + 1)) + 1)) + 1)) + 1)), (w64 (t1.2.2.1 + 1)), ())) (K (t1.1, t1.2.1, t1.2.2.1, ()))
noncomputable def F50 (f64 : Int × Unit → Option (Str × Unit)) (a : List Device × Int × Unit) : Option (List Device × Int × Unit) :=
  iterF (s50_0 f64) fuel (a.1, a.2.1, 0, ()) fun t12 => some (t12.1, t12.2.1, ())
def E50 (f64 : Int × Unit → Option (Str × Unit)) : Env := envL [(64, mkE p64 r64 false f64)]
noncomputable def L50 (f64 : Int × Unit → Option (Str × Unit)) : LEnv (densS (muts p50 ++ r50)) := lenv [(0, loopL (R := densS (muts p50 ++ r50)) q50_0 (s50_0 f64))]
theorem e50_0 (f64 : Int × Unit → Option (Str × Unit)) (X : Nat → St → Option (densS (muts p50 ++ r50))) (rec K : densS q50_0 → Option (densS (muts p50 ++ r50))) (t : densS q50_0) :
    ev (E50 f64) tab (fun _ => false) (L50 f64) (retK tab p50 r50 Proofs.Try.f50.results.toList) (loopC Proofs.Try.f50 0) (fun i s => cond (Nat.beq i 0) (decK 100 q50_0 s K) (X i s)) (fun s => decK 100 q50_0 s rec) (enc q50_0 t) = s50_0 f64 t rec K := by kernel_rfl
theorem e50 (f64 : Int × Unit → Option (Str × Unit)) (a : densS p50) : runF (E50 f64) tab (fun _ => false) p50 r50 Proofs.Try.f50 (L50 f64) a = F50 f64 a := by kernel_rfl
theorem ok50 {f64 : Int × Unit → Option (Str × Unit)} (h64 : OK Proofs.Try.prog 64 (mkE p64 r64 false f64)) : OK Proofs.Try.prog 50 (mkE p50 r50 false (F50 f64)) :=
  fn_ok tab_ok (envL_ok (l := [(64, mkE p64 r64 false f64)]) (OKs.cons h64 OKs.nil)) mixed (ann := (fun _ => false)) (L := L50 f64) (fn := Proofs.Try.f50) (c := bodyC Proofs.Try.f50) (ls := [(0, loopC Proofs.Try.f50 0)]) Proofs.Try.func50 (by kernel_rfl) (by kernel_rfl) (by kernel_rfl) (by kernel_rfl)
    (LoopsP.cons q50_0 (s50_0 f64) rfl (e50_0 f64) LoopsP.nil) (e50 f64)
/-! laws.markCueS -/
def p51 : List SP := [.one (.o 0 .cue), .one (.int .i64)]
def r51 : List SP := [.one (.int .i64)]
def q51_0 : List SP := pat 42 0 [(0, .one (.o 0 .cue)), (1, .one (.int .i64)), (5, .one (.int .i64))]
noncomputable def s51_0 (f64 : Int × Unit → Option (Str × Unit)) (t1 : List Cue × Int × Int × Unit) (rec K : List Cue × Int × Int × Unit → Option (List Cue × Int × Unit)) : Option (List Cue × Int × Unit) :=
  cond (decide (t1.2.2.1 < (Int.ofNat (List.length t1.1)))) (rdL t1.1 t1.2.2.1 fun _ => (t1.1[(Int.toNat t1.2.2.1)]?).bind fun d2 => (f64 ((w64 (t1.2.1 + 1)), ())).bind fun x3 => rdL (List.set t1.1 (Int.toNat t1.2.2.1) (⟨t1.2.1, d2.Name, d2.Level, d2.Ramp⟩ : Cue)) t1.2.2.1 fun _ => ((List.set t1.1 (Int.toNat t1.2.2.1) (⟨t1.2.1, d2.Name, d2.Level, d2.Ramp⟩ : Cue))[(Int.toNat t1.2.2.1)]?).bind fun d4 => rdL (List.set (List.set t1.1 (Int.toNat t1.2.2.1) (⟨t1.2.1, d2.Name, d2.Level, d2.Ramp⟩ : Cue)) (Int.toNat t1.2.2.1) (⟨d4.Tick, x3.1, d4.Level, d4.Ramp⟩ : Cue)) t1.2.2.1 fun _ => ((List.set (List.set t1.1 (Int.toNat t1.2.2.1) (⟨t1.2.1, d2.Name, d2.Level, d2.Ramp⟩ : Cue)) (Int.toNat t1.2.2.1) (⟨d4.Tick, x3.1, d4.Level, d4.Ramp⟩ : Cue))[(Int.toNat t1.2.2.1)]?).bind fun d5 => rdL (List.set (List.set (List.set t1.1 (Int.toNat t1.2.2.1) (⟨t1.2.1, d2.Name, d2.Level, d2.Ramp⟩ : Cue)) (Int.toNat t1.2.2.1) (⟨d4.Tick, x3.1, d4.Level, d4.Ramp⟩ : Cue)) (Int.toNat t1.2.2.1) (⟨d5.Tick, d5.Name, (w64 ((w64 (t1.2.1 + 1)) + 1)), d5.Ramp⟩ : Cue)) t1.2.2.1 fun _ => ((List.set (List.set (List.set t1.1 (Int.toNat t1.2.2.1) (⟨t1.2.1, d2.Name, d2.Level, d2.Ramp⟩ : Cue)) (Int.toNat t1.2.2.1) (⟨d4.Tick, x3.1, d4.Level, d4.Ramp⟩ : Cue)) (Int.toNat t1.2.2.1) (⟨d5.Tick, d5.Name, (w64 ((w64 (t1.2.1 + 1)) + 1)), d5.Ramp⟩ : Cue))[(Int.toNat t1.2.2.1)]?).bind fun d6 => rec ((List.set (List.set (List.set (List.set t1.1 (Int.toNat t1.2.2.1) (⟨t1.2.1, d2.Name, d2.Level, d2.Ramp⟩ : Cue)) (Int.toNat t1.2.2.1) (⟨d4.Tick, x3.1, d4.Level, d4.Ramp⟩ : Cue)) (Int.toNat t1.2.2.1) (⟨d5.Tick, d5.Name, (w64 ((w64 (t1.2.1 + 1)) + 1)), d5.Ramp⟩ : Cue)) (Int.toNat t1.2.2.1) (⟨d6.Tick, d6.Name, d6.Level, (w64 ((w64 ((w64 (t1.2.1 + 1)) + 1)) + 1))⟩ : Cue)), (w64 ((w64 ((w64 ((w64 (t1.2.1 + 1)) + 1)) + 1)) + 1)), (w64 (t1.2.2.1 + 1)), ())) (K (t1.1, t1.2.1, t1.2.2.1, ()))
noncomputable def F51 (f64 : Int × Unit → Option (Str × Unit)) (a : List Cue × Int × Unit) : Option (List Cue × Int × Unit) :=
  iterF (s51_0 f64) fuel (a.1, a.2.1, 0, ()) fun t7 => some (t7.1, t7.2.1, ())
def E51 (f64 : Int × Unit → Option (Str × Unit)) : Env := envL [(64, mkE p64 r64 false f64)]
noncomputable def L51 (f64 : Int × Unit → Option (Str × Unit)) : LEnv (densS (muts p51 ++ r51)) := lenv [(0, loopL (R := densS (muts p51 ++ r51)) q51_0 (s51_0 f64))]
theorem e51_0 (f64 : Int × Unit → Option (Str × Unit)) (X : Nat → St → Option (densS (muts p51 ++ r51))) (rec K : densS q51_0 → Option (densS (muts p51 ++ r51))) (t : densS q51_0) :
    ev (E51 f64) tab (fun _ => false) (L51 f64) (retK tab p51 r51 Proofs.Try.f51.results.toList) (loopC Proofs.Try.f51 0) (fun i s => cond (Nat.beq i 0) (decK 100 q51_0 s K) (X i s)) (fun s => decK 100 q51_0 s rec) (enc q51_0 t) = s51_0 f64 t rec K := by kernel_rfl
theorem e51 (f64 : Int × Unit → Option (Str × Unit)) (a : densS p51) : runF (E51 f64) tab (fun _ => false) p51 r51 Proofs.Try.f51 (L51 f64) a = F51 f64 a := by kernel_rfl
theorem ok51 {f64 : Int × Unit → Option (Str × Unit)} (h64 : OK Proofs.Try.prog 64 (mkE p64 r64 false f64)) : OK Proofs.Try.prog 51 (mkE p51 r51 false (F51 f64)) :=
  fn_ok tab_ok (envL_ok (l := [(64, mkE p64 r64 false f64)]) (OKs.cons h64 OKs.nil)) mixed (ann := (fun _ => false)) (L := L51 f64) (fn := Proofs.Try.f51) (c := bodyC Proofs.Try.f51) (ls := [(0, loopC Proofs.Try.f51 0)]) Proofs.Try.func51 (by kernel_rfl) (by kernel_rfl) (by kernel_rfl) (by kernel_rfl)
    (LoopsP.cons q51_0 (s51_0 f64) rfl (e51_0 f64) LoopsP.nil) (e51 f64)
/-! laws.markGustS -/
def p52 : List SP := [.one (.o 0 .gust), .one (.int .i64)]
def r52 : List SP := [.one (.int .i64)]
def q52_0 : List SP := pat 36 0 [(0, .one (.o 0 .gust)), (1, .one (.int .i64)), (5, .one (.int .i64))]
noncomputable def s52_0 (t1 : List Gust × Int × Int × Unit) (rec K : List Gust × Int × Int × Unit → Option (List Gust × Int × Unit)) : Option (List Gust × Int × Unit) :=
  cond (decide (t1.2.2.1 < (Int.ofNat (List.length t1.1)))) (rdL t1.1 t1.2.2.1 fun _ => (t1.1[(Int.toNat t1.2.2.1)]?).bind fun d2 => rdL (List.set t1.1 (Int.toNat t1.2.2.1) (⟨t1.2.1, ⟨d2.Drift.X, d2.Drift.Y⟩⟩ : Gust)) t1.2.2.1 fun _ => ((List.set t1.1 (Int.toNat t1.2.2.1) (⟨t1.2.1, ⟨d2.Drift.X, d2.Drift.Y⟩⟩ : Gust))[(Int.toNat t1.2.2.1)]?).bind fun d3 => rdL (List.set (List.set t1.1 (Int.toNat t1.2.2.1) (⟨t1.2.1, ⟨d2.Drift.X, d2.Drift.Y⟩⟩ : Gust)) (Int.toNat t1.2.2.1) (⟨d3.From, ⟨(w64 (t1.2.1 + 1)), d3.Drift.Y⟩⟩ : Gust)) t1.2.2.1 fun _ => ((List.set (List.set t1.1 (Int.toNat t1.2.2.1) (⟨t1.2.1, ⟨d2.Drift.X, d2.Drift.Y⟩⟩ : Gust)) (Int.toNat t1.2.2.1) (⟨d3.From, ⟨(w64 (t1.2.1 + 1)), d3.Drift.Y⟩⟩ : Gust))[(Int.toNat t1.2.2.1)]?).bind fun d4 => rec ((List.set (List.set (List.set t1.1 (Int.toNat t1.2.2.1) (⟨t1.2.1, ⟨d2.Drift.X, d2.Drift.Y⟩⟩ : Gust)) (Int.toNat t1.2.2.1) (⟨d3.From, ⟨(w64 (t1.2.1 + 1)), d3.Drift.Y⟩⟩ : Gust)) (Int.toNat t1.2.2.1) (⟨d4.From, ⟨d4.Drift.X, (w64 ((w64 (t1.2.1 + 1)) + 1))⟩⟩ : Gust)), (w64 ((w64 ((w64 (t1.2.1 + 1)) + 1)) + 1)), (w64 (t1.2.2.1 + 1)), ())) (K (t1.1, t1.2.1, t1.2.2.1, ()))
noncomputable def F52 (a : List Gust × Int × Unit) : Option (List Gust × Int × Unit) :=
  iterF (s52_0) fuel (a.1, a.2.1, 0, ()) fun t5 => some (t5.1, t5.2.1, ())
def E52 : Env := envL []
noncomputable def L52 : LEnv (densS (muts p52 ++ r52)) := lenv [(0, loopL (R := densS (muts p52 ++ r52)) q52_0 (s52_0))]
theorem e52_0 (X : Nat → St → Option (densS (muts p52 ++ r52))) (rec K : densS q52_0 → Option (densS (muts p52 ++ r52))) (t : densS q52_0) :
    ev (E52) tab (fun _ => false) (L52) (retK tab p52 r52 Proofs.Try.f52.results.toList) (loopC Proofs.Try.f52 0) (fun i s => cond (Nat.beq i 0) (decK 100 q52_0 s K) (X i s)) (fun s => decK 100 q52_0 s rec) (enc q52_0 t) = s52_0 t rec K := by kernel_rfl
theorem e52 (a : densS p52) : runF (E52) tab (fun _ => false) p52 r52 Proofs.Try.f52 (L52) a = F52 a := by kernel_rfl
theorem ok52 : OK Proofs.Try.prog 52 (mkE p52 r52 false (F52)) :=
  fn_ok tab_ok (envL_ok (l := []) OKs.nil) mixed (ann := (fun _ => false)) (L := L52) (fn := Proofs.Try.f52) (c := bodyC Proofs.Try.f52) (ls := [(0, loopC Proofs.Try.f52 0)]) Proofs.Try.func52 (by kernel_rfl) (by kernel_rfl) (by kernel_rfl) (by kernel_rfl)
    (LoopsP.cons q52_0 (s52_0) rfl (e52_0) LoopsP.nil) (e52)
/-! laws.markShow -/
def p16 : List SP := [.agg [.o 0 .device, .o 1 .cue, .o 2 .gust, .int .i64], .one (.int .i64)]
def r16 : List SP := [.one (.int .i64)]
noncomputable def F16 (f50 : List Device × Int × Unit → Option (List Device × Int × Unit)) (f51 : List Cue × Int × Unit → Option (List Cue × Int × Unit)) (f52 : List Gust × Int × Unit → Option (List Gust × Int × Unit)) (a : (List Device × List Cue × List Gust × Int × Unit) × Int × Unit) : Option (List Device × List Cue × List Gust × Int × Unit) :=
  (f50 (a.1.1, a.2.1, ())).bind fun x1 => (f51 (a.1.2.1, x1.2.1, ())).bind fun x2 => (f52 (a.1.2.2.1, x2.2.1, ())).bind fun x3 => some (x1.1, x2.1, x3.1, x3.2.1, ())
def E16 (f50 : List Device × Int × Unit → Option (List Device × Int × Unit)) (f51 : List Cue × Int × Unit → Option (List Cue × Int × Unit)) (f52 : List Gust × Int × Unit → Option (List Gust × Int × Unit)) : Env := envL [(50, mkE p50 r50 false f50), (51, mkE p51 r51 false f51), (52, mkE p52 r52 false f52)]
noncomputable def L16 (f50 : List Device × Int × Unit → Option (List Device × Int × Unit)) (f51 : List Cue × Int × Unit → Option (List Cue × Int × Unit)) (f52 : List Gust × Int × Unit → Option (List Gust × Int × Unit)) : LEnv (densS (muts p16 ++ r16)) := lenv []
theorem e16 (f50 : List Device × Int × Unit → Option (List Device × Int × Unit)) (f51 : List Cue × Int × Unit → Option (List Cue × Int × Unit)) (f52 : List Gust × Int × Unit → Option (List Gust × Int × Unit)) (a : densS p16) : runF (E16 f50 f51 f52) tab (fun _ => false) p16 r16 Proofs.Try.f16 (L16 f50 f51 f52) a = F16 f50 f51 f52 a := by kernel_rfl
theorem ok16 {f50 : List Device × Int × Unit → Option (List Device × Int × Unit)} {f51 : List Cue × Int × Unit → Option (List Cue × Int × Unit)} {f52 : List Gust × Int × Unit → Option (List Gust × Int × Unit)} (h50 : OK Proofs.Try.prog 50 (mkE p50 r50 false f50)) (h51 : OK Proofs.Try.prog 51 (mkE p51 r51 false f51)) (h52 : OK Proofs.Try.prog 52 (mkE p52 r52 false f52)) : OK Proofs.Try.prog 16 (mkE p16 r16 false (F16 f50 f51 f52)) :=
  fn_ok tab_ok (envL_ok (l := [(50, mkE p50 r50 false f50), (51, mkE p51 r51 false f51), (52, mkE p52 r52 false f52)]) (OKs.cons h50 (OKs.cons h51 (OKs.cons h52 OKs.nil)))) mixed (ann := (fun _ => false)) (L := L16 f50 f51 f52) (fn := Proofs.Try.f16) (c := bodyC Proofs.Try.f16) (ls := []) Proofs.Try.func16 (by kernel_rfl) (by kernel_rfl) (by kernel_rfl) (by kernel_rfl)
    LoopsP.nil (e16 f50 f51 f52)
/-! laws.markIntS -/
def p17 : List SP := [.one (.o 0 .int), .one (.int .i64)]
def r17 : List SP := [.one (.int .i64)]
def q17_0 : List SP := pat 19 0 [(0, .one (.o 0 .int)), (1, .one (.int .i64)), (5, .one (.int .i64))]
noncomputable def s17_0 (t1 : List Int × Int × Int × Unit) (rec K : List Int × Int × Int × Unit → Option (List Int × Int × Unit)) : Option (List Int × Int × Unit) :=
  cond (decide (t1.2.2.1 < (Int.ofNat (List.length t1.1)))) (rdL t1.1 t1.2.2.1 fun _ => (t1.1[(Int.toNat t1.2.2.1)]?).bind fun d2 => rec ((List.set t1.1 (Int.toNat t1.2.2.1) t1.2.1), (w64 (t1.2.1 + 1)), (w64 (t1.2.2.1 + 1)), ())) (K (t1.1, t1.2.1, t1.2.2.1, ()))
noncomputable def F17 (a : List Int × Int × Unit) : Option (List Int × Int × Unit) :=
  iterF (s17_0) fuel (a.1, a.2.1, 0, ()) fun t3 => some (t3.1, t3.2.1, ())
def E17 : Env := envL []
noncomputable def L17 : LEnv (densS (muts p17 ++ r17)) := lenv [(0, loopL (R := densS (muts p17 ++ r17)) q17_0 (s17_0))]
theorem e17_0 (X : Nat → St → Option (densS (muts p17 ++ r17))) (rec K : densS q17_0 → Option (densS (muts p17 ++ r17))) (t : densS q17_0) :
    ev (E17) tab (fun _ => false) (L17) (retK tab p17 r17 Proofs.Try.f17.results.toList) (loopC Proofs.Try.f17 0) (fun i s => cond (Nat.beq i 0) (decK 100 q17_0 s K) (X i s)) (fun s => decK 100 q17_0 s rec) (enc q17_0 t) = s17_0 t rec K := by kernel_rfl
theorem e17 (a : densS p17) : runF (E17) tab (fun _ => false) p17 r17 Proofs.Try.f17 (L17) a = F17 a := by kernel_rfl
theorem ok17 : OK Proofs.Try.prog 17 (mkE p17 r17 false (F17)) :=
  fn_ok tab_ok (envL_ok (l := []) OKs.nil) mixed (ann := (fun _ => false)) (L := L17) (fn := Proofs.Try.f17) (c := bodyC Proofs.Try.f17) (ls := [(0, loopC Proofs.Try.f17 0)]) Proofs.Try.func17 (by kernel_rfl) (by kernel_rfl) (by kernel_rfl) (by kernel_rfl)
    (LoopsP.cons q17_0 (s17_0) rfl (e17_0) LoopsP.nil) (e17)
/-! laws.heldIntS -/
def p18 : List SP := [.one (.r .int), .one (.int .i64)]
def r18 : List SP := [.one (.int .i64)]
def q18_0 : List SP := pat 21 0 [(0, .one (.r .int)), (1, .one (.int .i64)), (5, .one (.int .i64))]
noncomputable def s18_0 (t1 : List Int × Int × Int × Unit) (rec K : List Int × Int × Int × Unit → Option (Int × Unit)) : Option (Int × Unit) :=
  cond (decide (t1.2.2.1 < (Int.ofNat (List.length t1.1)))) (rdL t1.1 t1.2.2.1 fun d2 => cond (!(decide (d2 = t1.2.1))) (some ((-1), ())) (rec (t1.1, (w64 (t1.2.1 + 1)), (w64 (t1.2.2.1 + 1)), ()))) (K (t1.1, t1.2.1, t1.2.2.1, ()))
noncomputable def F18 (a : List Int × Int × Unit) : Option (Int × Unit) :=
  iterF (s18_0) fuel (a.1, a.2.1, 0, ()) fun t3 => some (t3.2.1, ())
def E18 : Env := envL []
noncomputable def L18 : LEnv (densS (muts p18 ++ r18)) := lenv [(0, loopL (R := densS (muts p18 ++ r18)) q18_0 (s18_0))]
theorem e18_0 (X : Nat → St → Option (densS (muts p18 ++ r18))) (rec K : densS q18_0 → Option (densS (muts p18 ++ r18))) (t : densS q18_0) :
    ev (E18) tab (fun _ => false) (L18) (retK tab p18 r18 Proofs.Try.f18.results.toList) (loopC Proofs.Try.f18 0) (fun i s => cond (Nat.beq i 0) (decK 100 q18_0 s K) (X i s)) (fun s => decK 100 q18_0 s rec) (enc q18_0 t) = s18_0 t rec K := by kernel_rfl
theorem e18 (a : densS p18) : runF (E18) tab (fun _ => false) p18 r18 Proofs.Try.f18 (L18) a = F18 a := by kernel_rfl
theorem ok18 : OK Proofs.Try.prog 18 (mkE p18 r18 false (F18)) :=
  fn_ok tab_ok (envL_ok (l := []) OKs.nil) mixed (ann := (fun _ => false)) (L := L18) (fn := Proofs.Try.f18) (c := bodyC Proofs.Try.f18) (ls := [(0, loopC Proofs.Try.f18 0)]) Proofs.Try.func18 (by kernel_rfl) (by kernel_rfl) (by kernel_rfl) (by kernel_rfl)
    (LoopsP.cons q18_0 (s18_0) rfl (e18_0) LoopsP.nil) (e18)
/-! laws.FnExactLiftsAt -/
def p3 : List SP := [.agg [.r .device, .r .cue, .r .gust, .int .i64], .one (.int .i64)]
def r3 : List SP := [.one (.bool)]
noncomputable def F3 (f10 : (List Device × List Cue × List Gust × Int × Unit) × Int × Unit → Option (Int × Unit)) (f12 : (List Device × List Cue × List Gust × Int × Unit) × Unit → Option ((List Device × List Cue × List Gust × Int × Unit) × Unit)) (f11 : (List Device × List Cue × List Gust × Int × Unit) × Int × Unit → Option (List Int × Unit)) (f13 : (List Device × List Cue × List Gust × Int × Unit) × Int × Unit → Option (List Int × Unit)) (f14 : List Int × List Int × Unit → Option (Bool × Unit)) (f15 : (List Device × List Cue × List Gust × Int × Unit) × (List Device × List Cue × List Gust × Int × Unit) × Unit → Option (Bool × Unit)) (f16 : (List Device × List Cue × List Gust × Int × Unit) × Int × Unit → Option (List Device × List Cue × List Gust × Int × Unit)) (f17 : List Int × Int × Unit → Option (List Int × Int × Unit)) (f18 : List Int × Int × Unit → Option (Int × Unit)) (a : (List Device × List Cue × List Gust × Int × Unit) × Int × Unit) : Option (Bool × Unit) :=
  (f10 ((a.1.1, a.1.2.1, a.1.2.2.1, a.1.2.2.2.1, ()), 1048576, ())).bind fun x1 => cond (decide (x1.1 < 0)) (some (true, ())) ((f12 ((a.1.1, a.1.2.1, a.1.2.2.1, a.1.2.2.2.1, ()), ())).bind fun x2 => (f11 ((x2.1.1, x2.1.2.1, x2.1.2.2.1, x2.1.2.2.2.1, ()), a.2.1, ())).bind fun x3 => (f12 ((a.1.1, a.1.2.1, a.1.2.2.1, a.1.2.2.2.1, ()), ())).bind fun x4 => (f13 ((x4.1.1, x4.1.2.1, x4.1.2.2.1, x4.1.2.2.2.1, ()), a.2.1, ())).bind fun x5 => (f14 (x5.1, x3.1, ())).bind fun x6 => cond (!x6.1) (some (false, ())) ((f12 ((a.1.1, a.1.2.1, a.1.2.2.1, a.1.2.2.2.1, ()), ())).bind fun x7 => (f15 ((x4.1.1, x4.1.2.1, x4.1.2.2.1, x4.1.2.2.2.1, ()), (x7.1.1, x7.1.2.1, x7.1.2.2.1, x7.1.2.2.2.1, ()), ())).bind fun x8 => cond (!x8.1) (some (false, ())) ((f16 ((x4.1.1, x4.1.2.1, x4.1.2.2.1, x4.1.2.2.2.1, ()), 1, ())).bind fun x9 => cond (!(decide (x9.2.2.2.1 < 0))) ((f14 (x5.1, x3.1, ())).bind fun x10 => cond (!x10.1) (some (false, ())) ((f17 (x5.1, 1, ())).bind fun x11 => (f18 (x11.1, 1, ())).bind fun x12 => cond (decide (x12.1 < 0)) (some (false, ())) (cond (!(decide (x12.1 = x11.2.1))) (some (false, ())) ((f12 ((a.1.1, a.1.2.1, a.1.2.2.1, a.1.2.2.2.1, ()), ())).bind fun x13 => (f13 ((x13.1.1, x13.1.2.1, x13.1.2.2.1, x13.1.2.2.2.1, ()), a.2.1, ())).bind fun x14 => (f14 (x14.1, x3.1, ())).bind fun x15 => cond (!x15.1) (some (false, ())) ((f18 (x11.1, 1, ())).bind fun x16 => cond (decide (x16.1 < 0)) (some (false, ())) (cond (!(decide (x16.1 = x11.2.1))) (some (false, ())) (some (true, ())))))))) (some (false, ())))))
def E3 (f10 : (List Device × List Cue × List Gust × Int × Unit) × Int × Unit → Option (Int × Unit)) (f12 : (List Device × List Cue × List Gust × Int × Unit) × Unit → Option ((List Device × List Cue × List Gust × Int × Unit) × Unit)) (f11 : (List Device × List Cue × List Gust × Int × Unit) × Int × Unit → Option (List Int × Unit)) (f13 : (List Device × List Cue × List Gust × Int × Unit) × Int × Unit → Option (List Int × Unit)) (f14 : List Int × List Int × Unit → Option (Bool × Unit)) (f15 : (List Device × List Cue × List Gust × Int × Unit) × (List Device × List Cue × List Gust × Int × Unit) × Unit → Option (Bool × Unit)) (f16 : (List Device × List Cue × List Gust × Int × Unit) × Int × Unit → Option (List Device × List Cue × List Gust × Int × Unit)) (f17 : List Int × Int × Unit → Option (List Int × Int × Unit)) (f18 : List Int × Int × Unit → Option (Int × Unit)) : Env := envL [(10, mkE p10 r10 false f10), (12, mkE p12 r12 false f12), (11, mkE p11 r11 false f11), (13, mkE p13 r13 false f13), (14, mkE p14 r14 false f14), (15, mkE p15 r15 false f15), (16, mkE p16 r16 false f16), (17, mkE p17 r17 false f17), (18, mkE p18 r18 false f18)]
noncomputable def L3 (f10 : (List Device × List Cue × List Gust × Int × Unit) × Int × Unit → Option (Int × Unit)) (f12 : (List Device × List Cue × List Gust × Int × Unit) × Unit → Option ((List Device × List Cue × List Gust × Int × Unit) × Unit)) (f11 : (List Device × List Cue × List Gust × Int × Unit) × Int × Unit → Option (List Int × Unit)) (f13 : (List Device × List Cue × List Gust × Int × Unit) × Int × Unit → Option (List Int × Unit)) (f14 : List Int × List Int × Unit → Option (Bool × Unit)) (f15 : (List Device × List Cue × List Gust × Int × Unit) × (List Device × List Cue × List Gust × Int × Unit) × Unit → Option (Bool × Unit)) (f16 : (List Device × List Cue × List Gust × Int × Unit) × Int × Unit → Option (List Device × List Cue × List Gust × Int × Unit)) (f17 : List Int × Int × Unit → Option (List Int × Int × Unit)) (f18 : List Int × Int × Unit → Option (Int × Unit)) : LEnv (densS (muts p3 ++ r3)) := lenv []
theorem e3 (f10 : (List Device × List Cue × List Gust × Int × Unit) × Int × Unit → Option (Int × Unit)) (f12 : (List Device × List Cue × List Gust × Int × Unit) × Unit → Option ((List Device × List Cue × List Gust × Int × Unit) × Unit)) (f11 : (List Device × List Cue × List Gust × Int × Unit) × Int × Unit → Option (List Int × Unit)) (f13 : (List Device × List Cue × List Gust × Int × Unit) × Int × Unit → Option (List Int × Unit)) (f14 : List Int × List Int × Unit → Option (Bool × Unit)) (f15 : (List Device × List Cue × List Gust × Int × Unit) × (List Device × List Cue × List Gust × Int × Unit) × Unit → Option (Bool × Unit)) (f16 : (List Device × List Cue × List Gust × Int × Unit) × Int × Unit → Option (List Device × List Cue × List Gust × Int × Unit)) (f17 : List Int × Int × Unit → Option (List Int × Int × Unit)) (f18 : List Int × Int × Unit → Option (Int × Unit)) (a : densS p3) : runF (E3 f10 f12 f11 f13 f14 f15 f16 f17 f18) tab (fun _ => false) p3 r3 Proofs.Try.f3 (L3 f10 f12 f11 f13 f14 f15 f16 f17 f18) a = F3 f10 f12 f11 f13 f14 f15 f16 f17 f18 a := by kernel_rfl
theorem ok3 {f10 : (List Device × List Cue × List Gust × Int × Unit) × Int × Unit → Option (Int × Unit)} {f12 : (List Device × List Cue × List Gust × Int × Unit) × Unit → Option ((List Device × List Cue × List Gust × Int × Unit) × Unit)} {f11 : (List Device × List Cue × List Gust × Int × Unit) × Int × Unit → Option (List Int × Unit)} {f13 : (List Device × List Cue × List Gust × Int × Unit) × Int × Unit → Option (List Int × Unit)} {f14 : List Int × List Int × Unit → Option (Bool × Unit)} {f15 : (List Device × List Cue × List Gust × Int × Unit) × (List Device × List Cue × List Gust × Int × Unit) × Unit → Option (Bool × Unit)} {f16 : (List Device × List Cue × List Gust × Int × Unit) × Int × Unit → Option (List Device × List Cue × List Gust × Int × Unit)} {f17 : List Int × Int × Unit → Option (List Int × Int × Unit)} {f18 : List Int × Int × Unit → Option (Int × Unit)} (h10 : OK Proofs.Try.prog 10 (mkE p10 r10 false f10)) (h12 : OK Proofs.Try.prog 12 (mkE p12 r12 false f12)) (h11 : OK Proofs.Try.prog 11 (mkE p11 r11 false f11)) (h13 : OK Proofs.Try.prog 13 (mkE p13 r13 false f13)) (h14 : OK Proofs.Try.prog 14 (mkE p14 r14 false f14)) (h15 : OK Proofs.Try.prog 15 (mkE p15 r15 false f15)) (h16 : OK Proofs.Try.prog 16 (mkE p16 r16 false f16)) (h17 : OK Proofs.Try.prog 17 (mkE p17 r17 false f17)) (h18 : OK Proofs.Try.prog 18 (mkE p18 r18 false f18)) : OK Proofs.Try.prog 3 (mkE p3 r3 false (F3 f10 f12 f11 f13 f14 f15 f16 f17 f18)) :=
  fn_ok tab_ok (envL_ok (l := [(10, mkE p10 r10 false f10), (12, mkE p12 r12 false f12), (11, mkE p11 r11 false f11), (13, mkE p13 r13 false f13), (14, mkE p14 r14 false f14), (15, mkE p15 r15 false f15), (16, mkE p16 r16 false f16), (17, mkE p17 r17 false f17), (18, mkE p18 r18 false f18)]) (OKs.cons h10 (OKs.cons h12 (OKs.cons h11 (OKs.cons h13 (OKs.cons h14 (OKs.cons h15 (OKs.cons h16 (OKs.cons h17 (OKs.cons h18 OKs.nil)))))))))) mixed (ann := (fun _ => false)) (L := L3 f10 f12 f11 f13 f14 f15 f16 f17 f18) (fn := Proofs.Try.f3) (c := bodyC Proofs.Try.f3) (ls := []) Proofs.Try.func3 (by kernel_rfl) (by kernel_rfl) (by kernel_rfl) (by kernel_rfl)
    LoopsP.nil (e3 f10 f12 f11 f13 f14 f15 f16 f17 f18)
/-! spec.l9Jet -/
def p54 : List SP := [.t .device, .one (.int .i64)]
def r54 : List SP := [.t .jet]
noncomputable def F54 (a : Device × Int × Unit) : Option (Jet × Unit) :=
  some ((⟨⟨a.1.At.X, a.1.At.Y⟩, a.1.Heading, a.1.Tilt, a.2.1⟩ : Jet), ())
def E54 : Env := envL []
noncomputable def L54 : LEnv (densS (muts p54 ++ r54)) := lenv []
theorem e54 (a : densS p54) : runF (E54) tab (fun _ => false) p54 r54 Proofs.Try.f54 (L54) a = F54 a := by kernel_rfl
theorem ok54 : OK Proofs.Try.prog 54 (mkE p54 r54 false (F54)) :=
  fn_ok tab_ok (envL_ok (l := []) OKs.nil) mixed (ann := (fun _ => false)) (L := L54) (fn := Proofs.Try.f54) (c := bodyC Proofs.Try.f54) (ls := []) Proofs.Try.func54 (by kernel_rfl) (by kernel_rfl) (by kernel_rfl) (by kernel_rfl)
    LoopsP.nil (e54)
/-! spec.JetAt -/
def p19 : List SP := [.agg [.r .device, .r .cue, .r .gust, .int .i64], .one (.str), .one (.int .i64)]
def r19 : List SP := [.t .jet, .one (.bool)]
noncomputable def F19 (f53 : List Device × Str × Unit → Option (Int × Unit)) (f38 : (List Device × List Cue × List Gust × Int × Unit) × Unit → Option (Bool × Unit)) (f39 : (List Device × List Cue × List Gust × Int × Unit) × Int × Unit → Option (List Int × Unit)) (f54 : Device × Int × Unit → Option (Jet × Unit)) (a : (List Device × List Cue × List Gust × Int × Unit) × Str × Int × Unit) : Option (Jet × Bool × Unit) :=
  (f53 (a.1.1, a.2.1, ())).bind fun x1 => (f38 ((a.1.1, a.1.2.1, a.1.2.2.1, a.1.2.2.2.1, ()), ())).bind fun x2 => cond (!(!x2.1)) (cond (decide (x1.1 < 0)) (some ((⟨⟨0, 0⟩, 0, 0, 0⟩ : Jet), false, ())) ((f39 ((a.1.1, a.1.2.1, a.1.2.2.1, a.1.2.2.2.1, ()), a.2.2.1, ())).bind fun x3 => rdL x3.1 x1.1 fun _ => (x3.1[(Int.toNat x1.1)]?).bind fun d4 => cond (decide (d4 = 0)) (some ((⟨⟨0, 0⟩, 0, 0, 0⟩ : Jet), false, ())) (rdL a.1.1 x1.1 fun d5 => (f54 (d5, d4, ())).bind fun x6 => some (x6.1, true, ())))) (some ((⟨⟨0, 0⟩, 0, 0, 0⟩ : Jet), false, ()))
def E19 (f53 : List Device × Str × Unit → Option (Int × Unit)) (f38 : (List Device × List Cue × List Gust × Int × Unit) × Unit → Option (Bool × Unit)) (f39 : (List Device × List Cue × List Gust × Int × Unit) × Int × Unit → Option (List Int × Unit)) (f54 : Device × Int × Unit → Option (Jet × Unit)) : Env := envL [(53, mkE p53 r53 false f53), (38, mkE p38 r38 false f38), (39, mkE p39 r39 false f39), (54, mkE p54 r54 false f54)]
noncomputable def L19 (f53 : List Device × Str × Unit → Option (Int × Unit)) (f38 : (List Device × List Cue × List Gust × Int × Unit) × Unit → Option (Bool × Unit)) (f39 : (List Device × List Cue × List Gust × Int × Unit) × Int × Unit → Option (List Int × Unit)) (f54 : Device × Int × Unit → Option (Jet × Unit)) : LEnv (densS (muts p19 ++ r19)) := lenv []
theorem e19 (f53 : List Device × Str × Unit → Option (Int × Unit)) (f38 : (List Device × List Cue × List Gust × Int × Unit) × Unit → Option (Bool × Unit)) (f39 : (List Device × List Cue × List Gust × Int × Unit) × Int × Unit → Option (List Int × Unit)) (f54 : Device × Int × Unit → Option (Jet × Unit)) (a : densS p19) : runF (E19 f53 f38 f39 f54) tab (fun _ => false) p19 r19 Proofs.Try.f19 (L19 f53 f38 f39 f54) a = F19 f53 f38 f39 f54 a := by kernel_rfl
theorem ok19 {f53 : List Device × Str × Unit → Option (Int × Unit)} {f38 : (List Device × List Cue × List Gust × Int × Unit) × Unit → Option (Bool × Unit)} {f39 : (List Device × List Cue × List Gust × Int × Unit) × Int × Unit → Option (List Int × Unit)} {f54 : Device × Int × Unit → Option (Jet × Unit)} (h53 : OK Proofs.Try.prog 53 (mkE p53 r53 false f53)) (h38 : OK Proofs.Try.prog 38 (mkE p38 r38 false f38)) (h39 : OK Proofs.Try.prog 39 (mkE p39 r39 false f39)) (h54 : OK Proofs.Try.prog 54 (mkE p54 r54 false f54)) : OK Proofs.Try.prog 19 (mkE p19 r19 false (F19 f53 f38 f39 f54)) :=
  fn_ok tab_ok (envL_ok (l := [(53, mkE p53 r53 false f53), (38, mkE p38 r38 false f38), (39, mkE p39 r39 false f39), (54, mkE p54 r54 false f54)]) (OKs.cons h53 (OKs.cons h38 (OKs.cons h39 (OKs.cons h54 OKs.nil))))) mixed (ann := (fun _ => false)) (L := L19 f53 f38 f39 f54) (fn := Proofs.Try.f19) (c := bodyC Proofs.Try.f19) (ls := []) Proofs.Try.func19 (by kernel_rfl) (by kernel_rfl) (by kernel_rfl) (by kernel_rfl)
    LoopsP.nil (e19 f53 f38 f39 f54)
/-! impl.JetAt -/
def p20 : List SP := [.agg [.r .device, .r .cue, .r .gust, .int .i64], .one (.str), .one (.int .i64)]
def r20 : List SP := [.t .jet, .one (.bool)]
noncomputable def F20 (f55 : List Device × Str × Unit → Option (Int × Unit)) (f43 : (List Device × List Cue × List Gust × Int × Unit) × Unit → Option (Bool × Unit)) (f13 : (List Device × List Cue × List Gust × Int × Unit) × Int × Unit → Option (List Int × Unit)) (a : (List Device × List Cue × List Gust × Int × Unit) × Str × Int × Unit) : Option (Jet × Bool × Unit) :=
  (f55 (a.1.1, a.2.1, ())).bind fun x1 => (f43 ((a.1.1, a.1.2.1, a.1.2.2.1, a.1.2.2.2.1, ()), ())).bind fun x2 => cond (!(!x2.1)) (cond (!(decide (x1.1 < 0))) (rdL a.1.1 x1.1 fun d3 => cond (!(decide (d3.Kind = 2))) (some ((⟨⟨0, 0⟩, 0, 0, 0⟩ : Jet), false, ())) (rdL a.1.1 x1.1 fun d4 => (f13 ((a.1.1, a.1.2.1, a.1.2.2.1, a.1.2.2.2.1, ()), a.2.2.1, ())).bind fun x5 => rdL x5.1 x1.1 fun _ => (x5.1[(Int.toNat x1.1)]?).bind fun d6 => cond (decide (d6 = 0)) (some ((⟨⟨0, 0⟩, 0, 0, 0⟩ : Jet), false, ())) (some ((⟨⟨d4.At.X, d4.At.Y⟩, d4.Heading, d4.Tilt, d6⟩ : Jet), true, ())))) (some ((⟨⟨0, 0⟩, 0, 0, 0⟩ : Jet), false, ()))) (some ((⟨⟨0, 0⟩, 0, 0, 0⟩ : Jet), false, ()))
def E20 (f55 : List Device × Str × Unit → Option (Int × Unit)) (f43 : (List Device × List Cue × List Gust × Int × Unit) × Unit → Option (Bool × Unit)) (f13 : (List Device × List Cue × List Gust × Int × Unit) × Int × Unit → Option (List Int × Unit)) : Env := envL [(55, mkE p55 r55 false f55), (43, mkE p43 r43 false f43), (13, mkE p13 r13 false f13)]
noncomputable def L20 (f55 : List Device × Str × Unit → Option (Int × Unit)) (f43 : (List Device × List Cue × List Gust × Int × Unit) × Unit → Option (Bool × Unit)) (f13 : (List Device × List Cue × List Gust × Int × Unit) × Int × Unit → Option (List Int × Unit)) : LEnv (densS (muts p20 ++ r20)) := lenv []
theorem e20 (f55 : List Device × Str × Unit → Option (Int × Unit)) (f43 : (List Device × List Cue × List Gust × Int × Unit) × Unit → Option (Bool × Unit)) (f13 : (List Device × List Cue × List Gust × Int × Unit) × Int × Unit → Option (List Int × Unit)) (a : densS p20) : runF (E20 f55 f43 f13) tab (fun _ => false) p20 r20 Proofs.Try.f20 (L20 f55 f43 f13) a = F20 f55 f43 f13 a := by kernel_rfl
theorem ok20 {f55 : List Device × Str × Unit → Option (Int × Unit)} {f43 : (List Device × List Cue × List Gust × Int × Unit) × Unit → Option (Bool × Unit)} {f13 : (List Device × List Cue × List Gust × Int × Unit) × Int × Unit → Option (List Int × Unit)} (h55 : OK Proofs.Try.prog 55 (mkE p55 r55 false f55)) (h43 : OK Proofs.Try.prog 43 (mkE p43 r43 false f43)) (h13 : OK Proofs.Try.prog 13 (mkE p13 r13 false f13)) : OK Proofs.Try.prog 20 (mkE p20 r20 false (F20 f55 f43 f13)) :=
  fn_ok tab_ok (envL_ok (l := [(55, mkE p55 r55 false f55), (43, mkE p43 r43 false f43), (13, mkE p13 r13 false f13)]) (OKs.cons h55 (OKs.cons h43 (OKs.cons h13 OKs.nil)))) mixed (ann := (fun _ => false)) (L := L20 f55 f43 f13) (fn := Proofs.Try.f20) (c := bodyC Proofs.Try.f20) (ls := []) Proofs.Try.func20 (by kernel_rfl) (by kernel_rfl) (by kernel_rfl) (by kernel_rfl)
    LoopsP.nil (e20 f55 f43 f13)
/-! laws.eqJet -/
def p21 : List SP := [.t .jet, .t .jet]
def r21 : List SP := [.one (.bool)]
noncomputable def F21 (f56 : Place × Place × Unit → Option (Bool × Unit)) (a : Jet × Jet × Unit) : Option (Bool × Unit) :=
  (f56 (a.1.At, a.2.1.At, ())).bind fun x1 => cond (!x1.1) (some (false, ())) (cond (!(decide (a.1.Heading = a.2.1.Heading))) (some (false, ())) (cond (!(decide (a.1.Tilt = a.2.1.Tilt))) (some (false, ())) (cond (!(decide (a.1.Lift = a.2.1.Lift))) (some (false, ())) (some (true, ())))))
def E21 (f56 : Place × Place × Unit → Option (Bool × Unit)) : Env := envL [(56, mkE p56 r56 false f56)]
noncomputable def L21 (f56 : Place × Place × Unit → Option (Bool × Unit)) : LEnv (densS (muts p21 ++ r21)) := lenv []
theorem e21 (f56 : Place × Place × Unit → Option (Bool × Unit)) (a : densS p21) : runF (E21 f56) tab (fun _ => false) p21 r21 Proofs.Try.f21 (L21 f56) a = F21 f56 a := by kernel_rfl
theorem ok21 {f56 : Place × Place × Unit → Option (Bool × Unit)} (h56 : OK Proofs.Try.prog 56 (mkE p56 r56 false f56)) : OK Proofs.Try.prog 21 (mkE p21 r21 false (F21 f56)) :=
  fn_ok tab_ok (envL_ok (l := [(56, mkE p56 r56 false f56)]) (OKs.cons h56 OKs.nil)) mixed (ann := (fun _ => false)) (L := L21 f56) (fn := Proofs.Try.f21) (c := bodyC Proofs.Try.f21) (ls := []) Proofs.Try.func21 (by kernel_rfl) (by kernel_rfl) (by kernel_rfl) (by kernel_rfl)
    LoopsP.nil (e21 f56)
/-! laws.FnExactJetAt -/
def p4 : List SP := [.agg [.r .device, .r .cue, .r .gust, .int .i64], .one (.str), .one (.int .i64)]
def r4 : List SP := [.one (.bool)]
noncomputable def F4 (f10 : (List Device × List Cue × List Gust × Int × Unit) × Int × Unit → Option (Int × Unit)) (f12 : (List Device × List Cue × List Gust × Int × Unit) × Unit → Option ((List Device × List Cue × List Gust × Int × Unit) × Unit)) (f19 : (List Device × List Cue × List Gust × Int × Unit) × Str × Int × Unit → Option (Jet × Bool × Unit)) (f20 : (List Device × List Cue × List Gust × Int × Unit) × Str × Int × Unit → Option (Jet × Bool × Unit)) (f21 : Jet × Jet × Unit → Option (Bool × Unit)) (f15 : (List Device × List Cue × List Gust × Int × Unit) × (List Device × List Cue × List Gust × Int × Unit) × Unit → Option (Bool × Unit)) (a : (List Device × List Cue × List Gust × Int × Unit) × Str × Int × Unit) : Option (Bool × Unit) :=
  cond (decide ((Int.ofNat (List.length a.2.1)) > 1048576)) (some (true, ())) ((f10 ((a.1.1, a.1.2.1, a.1.2.2.1, a.1.2.2.2.1, ()), 1048576, ())).bind fun x1 => cond (decide (x1.1 < 0)) (some (true, ())) ((f12 ((a.1.1, a.1.2.1, a.1.2.2.1, a.1.2.2.2.1, ()), ())).bind fun x2 => (f19 ((x2.1.1, x2.1.2.1, x2.1.2.2.1, x2.1.2.2.2.1, ()), a.2.1, a.2.2.1, ())).bind fun x3 => (f12 ((a.1.1, a.1.2.1, a.1.2.2.1, a.1.2.2.2.1, ()), ())).bind fun x4 => (f20 ((x4.1.1, x4.1.2.1, x4.1.2.2.1, x4.1.2.2.2.1, ()), a.2.1, a.2.2.1, ())).bind fun x5 => (f21 (x5.1, x3.1, ())).bind fun x6 => cond (!(!x6.1)) (cond (!(decide (x5.2.1 = x3.2.1))) (some (false, ())) ((f12 ((a.1.1, a.1.2.1, a.1.2.2.1, a.1.2.2.2.1, ()), ())).bind fun x7 => (f15 ((x4.1.1, x4.1.2.1, x4.1.2.2.1, x4.1.2.2.2.1, ()), (x7.1.1, x7.1.2.1, x7.1.2.2.1, x7.1.2.2.2.1, ()), ())).bind fun x8 => cond (!x8.1) (some (false, ())) (some (true, ())))) (some (false, ()))))
def E4 (f10 : (List Device × List Cue × List Gust × Int × Unit) × Int × Unit → Option (Int × Unit)) (f12 : (List Device × List Cue × List Gust × Int × Unit) × Unit → Option ((List Device × List Cue × List Gust × Int × Unit) × Unit)) (f19 : (List Device × List Cue × List Gust × Int × Unit) × Str × Int × Unit → Option (Jet × Bool × Unit)) (f20 : (List Device × List Cue × List Gust × Int × Unit) × Str × Int × Unit → Option (Jet × Bool × Unit)) (f21 : Jet × Jet × Unit → Option (Bool × Unit)) (f15 : (List Device × List Cue × List Gust × Int × Unit) × (List Device × List Cue × List Gust × Int × Unit) × Unit → Option (Bool × Unit)) : Env := envL [(10, mkE p10 r10 false f10), (12, mkE p12 r12 false f12), (19, mkE p19 r19 false f19), (20, mkE p20 r20 false f20), (21, mkE p21 r21 false f21), (15, mkE p15 r15 false f15)]
noncomputable def L4 (f10 : (List Device × List Cue × List Gust × Int × Unit) × Int × Unit → Option (Int × Unit)) (f12 : (List Device × List Cue × List Gust × Int × Unit) × Unit → Option ((List Device × List Cue × List Gust × Int × Unit) × Unit)) (f19 : (List Device × List Cue × List Gust × Int × Unit) × Str × Int × Unit → Option (Jet × Bool × Unit)) (f20 : (List Device × List Cue × List Gust × Int × Unit) × Str × Int × Unit → Option (Jet × Bool × Unit)) (f21 : Jet × Jet × Unit → Option (Bool × Unit)) (f15 : (List Device × List Cue × List Gust × Int × Unit) × (List Device × List Cue × List Gust × Int × Unit) × Unit → Option (Bool × Unit)) : LEnv (densS (muts p4 ++ r4)) := lenv []
theorem e4 (f10 : (List Device × List Cue × List Gust × Int × Unit) × Int × Unit → Option (Int × Unit)) (f12 : (List Device × List Cue × List Gust × Int × Unit) × Unit → Option ((List Device × List Cue × List Gust × Int × Unit) × Unit)) (f19 : (List Device × List Cue × List Gust × Int × Unit) × Str × Int × Unit → Option (Jet × Bool × Unit)) (f20 : (List Device × List Cue × List Gust × Int × Unit) × Str × Int × Unit → Option (Jet × Bool × Unit)) (f21 : Jet × Jet × Unit → Option (Bool × Unit)) (f15 : (List Device × List Cue × List Gust × Int × Unit) × (List Device × List Cue × List Gust × Int × Unit) × Unit → Option (Bool × Unit)) (a : densS p4) : runF (E4 f10 f12 f19 f20 f21 f15) tab (fun _ => false) p4 r4 Proofs.Try.f4 (L4 f10 f12 f19 f20 f21 f15) a = F4 f10 f12 f19 f20 f21 f15 a := by kernel_rfl
theorem ok4 {f10 : (List Device × List Cue × List Gust × Int × Unit) × Int × Unit → Option (Int × Unit)} {f12 : (List Device × List Cue × List Gust × Int × Unit) × Unit → Option ((List Device × List Cue × List Gust × Int × Unit) × Unit)} {f19 : (List Device × List Cue × List Gust × Int × Unit) × Str × Int × Unit → Option (Jet × Bool × Unit)} {f20 : (List Device × List Cue × List Gust × Int × Unit) × Str × Int × Unit → Option (Jet × Bool × Unit)} {f21 : Jet × Jet × Unit → Option (Bool × Unit)} {f15 : (List Device × List Cue × List Gust × Int × Unit) × (List Device × List Cue × List Gust × Int × Unit) × Unit → Option (Bool × Unit)} (h10 : OK Proofs.Try.prog 10 (mkE p10 r10 false f10)) (h12 : OK Proofs.Try.prog 12 (mkE p12 r12 false f12)) (h19 : OK Proofs.Try.prog 19 (mkE p19 r19 false f19)) (h20 : OK Proofs.Try.prog 20 (mkE p20 r20 false f20)) (h21 : OK Proofs.Try.prog 21 (mkE p21 r21 false f21)) (h15 : OK Proofs.Try.prog 15 (mkE p15 r15 false f15)) : OK Proofs.Try.prog 4 (mkE p4 r4 false (F4 f10 f12 f19 f20 f21 f15)) :=
  fn_ok tab_ok (envL_ok (l := [(10, mkE p10 r10 false f10), (12, mkE p12 r12 false f12), (19, mkE p19 r19 false f19), (20, mkE p20 r20 false f20), (21, mkE p21 r21 false f21), (15, mkE p15 r15 false f15)]) (OKs.cons h10 (OKs.cons h12 (OKs.cons h19 (OKs.cons h20 (OKs.cons h21 (OKs.cons h15 OKs.nil))))))) mixed (ann := (fun _ => false)) (L := L4 f10 f12 f19 f20 f21 f15) (fn := Proofs.Try.f4) (c := bodyC Proofs.Try.f4) (ls := []) Proofs.Try.func4 (by kernel_rfl) (by kernel_rfl) (by kernel_rfl) (by kernel_rfl)
    LoopsP.nil (e4 f10 f12 f19 f20 f21 f15)
/-! spec.l9All -/
def p57 : List SP := [.agg [.r .device, .r .cue, .r .gust, .int .i64]]
def r57 : List SP := [.one (.o 0 .throw)]
def q57_2 : List SP := pat 45 0 [(1, .box 5002001 [.r .device, .r .cue, .r .gust, .int .i64]), (3, .one (.o 5002002 .throw)), (4, .one (.int .i64)), (16, .one (.o 5002003 .int)), (17, .one (.int .i64)), (18, .one (.int .i64))]
noncomputable def s57_2 (f39 : (List Device × List Cue × List Gust × Int × Unit) × Int × Unit → Option (List Int × Unit)) (f54 : Device × Int × Unit → Option (Jet × Unit)) (t3 : (List Device × List Cue × List Gust × Int × Unit) × List Throw × Int × List Int × Int × Int × Unit) (rec K : (List Device × List Cue × List Gust × Int × Unit) × List Throw × Int × List Int × Int × Int × Unit → Option (List Throw × Unit)) : Option (List Throw × Unit) :=
  cond (decide (t3.2.2.2.2.2.1 < t3.2.2.2.2.1)) (rdL t3.2.2.2.1 t3.2.2.2.2.2.1 fun _ => (t3.2.2.2.1[(Int.toNat t3.2.2.2.2.2.1)]?).bind fun d4 => cond (decide (d4 > 0)) (rdL t3.1.1 t3.2.2.2.2.2.1 fun d5 => rdL t3.1.1 t3.2.2.2.2.2.1 fun d6 => (f54 (d6, d4, ())).bind fun x7 => capK (List.length t3.2.1 + List.length ([(⟨d5.Name, t3.2.2.1, ⟨⟨x7.1.At.X, x7.1.At.Y⟩, x7.1.Heading, x7.1.Tilt, x7.1.Lift⟩⟩ : Throw)] : List Throw)) (rec ((t3.1.1, t3.1.2.1, t3.1.2.2.1, t3.1.2.2.2.1, ()), (t3.2.1 ++ ([(⟨d5.Name, t3.2.2.1, ⟨⟨x7.1.At.X, x7.1.At.Y⟩, x7.1.Heading, x7.1.Tilt, x7.1.Lift⟩⟩ : Throw)] : List Throw)), t3.2.2.1, t3.2.2.2.1, t3.2.2.2.2.1, (w64 (t3.2.2.2.2.2.1 + 1)), ()))) (rec ((t3.1.1, t3.1.2.1, t3.1.2.2.1, t3.1.2.2.2.1, ()), t3.2.1, t3.2.2.1, t3.2.2.2.1, t3.2.2.2.2.1, (w64 (t3.2.2.2.2.2.1 + 1)), ()))) (K ((t3.1.1, t3.1.2.1, t3.1.2.2.1, t3.1.2.2.2.1, ()), t3.2.1, t3.2.2.1, t3.2.2.2.1, t3.2.2.2.2.1, t3.2.2.2.2.2.1, ()))
def q57_0 : List SP := pat 45 0 [(1, .box 5000001 [.r .device, .r .cue, .r .gust, .int .i64]), (3, .one (.o 5000002 .throw)), (4, .one (.int .i64))]
noncomputable def s57_0 (f39 : (List Device × List Cue × List Gust × Int × Unit) × Int × Unit → Option (List Int × Unit)) (f54 : Device × Int × Unit → Option (Jet × Unit)) (t1 : (List Device × List Cue × List Gust × Int × Unit) × List Throw × Int × Unit) (rec K : (List Device × List Cue × List Gust × Int × Unit) × List Throw × Int × Unit → Option (List Throw × Unit)) : Option (List Throw × Unit) :=
  cond (decide (t1.2.2.1 < t1.1.2.2.2.1)) ((f39 ((t1.1.1, t1.1.2.1, t1.1.2.2.1, t1.1.2.2.2.1, ()), t1.2.2.1, ())).bind fun x2 => iterF (s57_2 f39 f54) fuel ((t1.1.1, t1.1.2.1, t1.1.2.2.1, t1.1.2.2.2.1, ()), t1.2.1, t1.2.2.1, x2.1, (Int.ofNat (List.length x2.1)), 0, ()) fun t8 => rec ((t8.1.1, t8.1.2.1, t8.1.2.2.1, t8.1.2.2.2.1, ()), t8.2.1, (w64 (t8.2.2.1 + 1)), ())) (K ((t1.1.1, t1.1.2.1, t1.1.2.2.1, t1.1.2.2.2.1, ()), t1.2.1, t1.2.2.1, ()))
noncomputable def F57 (f39 : (List Device × List Cue × List Gust × Int × Unit) × Int × Unit → Option (List Int × Unit)) (f54 : Device × Int × Unit → Option (Jet × Unit)) (a : (List Device × List Cue × List Gust × Int × Unit) × Unit) : Option (List Throw × Unit) :=
  iterF (s57_0 f39 f54) fuel ((a.1.1, a.1.2.1, a.1.2.2.1, a.1.2.2.2.1, ()), ([] : List Throw), 0, ()) fun t9 => some (t9.2.1, ())
def E57 (f39 : (List Device × List Cue × List Gust × Int × Unit) × Int × Unit → Option (List Int × Unit)) (f54 : Device × Int × Unit → Option (Jet × Unit)) : Env := envL [(39, mkE p39 r39 false f39), (54, mkE p54 r54 false f54)]
noncomputable def L57 (f39 : (List Device × List Cue × List Gust × Int × Unit) × Int × Unit → Option (List Int × Unit)) (f54 : Device × Int × Unit → Option (Jet × Unit)) : LEnv (densS (muts p57 ++ r57)) := lenv [(0, loopL (R := densS (muts p57 ++ r57)) q57_0 (s57_0 f39 f54)), (2, loopL (R := densS (muts p57 ++ r57)) q57_2 (s57_2 f39 f54))]
theorem e57_0 (f39 : (List Device × List Cue × List Gust × Int × Unit) × Int × Unit → Option (List Int × Unit)) (f54 : Device × Int × Unit → Option (Jet × Unit)) (X : Nat → St → Option (densS (muts p57 ++ r57))) (rec K : densS q57_0 → Option (densS (muts p57 ++ r57))) (t : densS q57_0) :
    ev (E57 f39 f54) tab (fun _ => false) (L57 f39 f54) (retK tab p57 r57 Proofs.Try.f57.results.toList) (loopC Proofs.Try.f57 0) (fun i s => cond (Nat.beq i 0) (decK 100 q57_0 s K) (X i s)) (fun s => decK 100 q57_0 s rec) (enc q57_0 t) = s57_0 f39 f54 t rec K := by kernel_rfl
theorem e57_2 (f39 : (List Device × List Cue × List Gust × Int × Unit) × Int × Unit → Option (List Int × Unit)) (f54 : Device × Int × Unit → Option (Jet × Unit)) (X : Nat → St → Option (densS (muts p57 ++ r57))) (rec K : densS q57_2 → Option (densS (muts p57 ++ r57))) (t : densS q57_2) :
    ev (E57 f39 f54) tab (fun _ => false) (L57 f39 f54) (retK tab p57 r57 Proofs.Try.f57.results.toList) (loopC Proofs.Try.f57 1) (fun i s => cond (Nat.beq i 2) (decK 100 q57_2 s K) (X i s)) (fun s => decK 100 q57_2 s rec) (enc q57_2 t) = s57_2 f39 f54 t rec K := by kernel_rfl
theorem e57 (f39 : (List Device × List Cue × List Gust × Int × Unit) × Int × Unit → Option (List Int × Unit)) (f54 : Device × Int × Unit → Option (Jet × Unit)) (a : densS p57) : runF (E57 f39 f54) tab (fun _ => false) p57 r57 Proofs.Try.f57 (L57 f39 f54) a = F57 f39 f54 a := by kernel_rfl
theorem ok57 {f39 : (List Device × List Cue × List Gust × Int × Unit) × Int × Unit → Option (List Int × Unit)} {f54 : Device × Int × Unit → Option (Jet × Unit)} (h39 : OK Proofs.Try.prog 39 (mkE p39 r39 false f39)) (h54 : OK Proofs.Try.prog 54 (mkE p54 r54 false f54)) : OK Proofs.Try.prog 57 (mkE p57 r57 false (F57 f39 f54)) :=
  fn_ok tab_ok (envL_ok (l := [(39, mkE p39 r39 false f39), (54, mkE p54 r54 false f54)]) (OKs.cons h39 (OKs.cons h54 OKs.nil))) mixed (ann := (fun _ => false)) (L := L57 f39 f54) (fn := Proofs.Try.f57) (c := bodyC Proofs.Try.f57) (ls := [(0, loopC Proofs.Try.f57 0), (2, loopC Proofs.Try.f57 1)]) Proofs.Try.func57 (by kernel_rfl) (by kernel_rfl) (by kernel_rfl) (by kernel_rfl)
    (LoopsP.cons q57_0 (s57_0 f39 f54) rfl (e57_0 f39 f54) (LoopsP.cons q57_2 (s57_2 f39 f54) rfl (e57_2 f39 f54) LoopsP.nil)) (e57 f39 f54)
/-! spec.WaterOf -/
def p22 : List SP := [.agg [.r .device, .r .cue, .r .gust, .int .i64]]
def r22 : List SP := [.one (.int .i64)]
def q22_0 : List SP := pat 24 0 [(3, .one (.int .i64)), (11, .one (.o 5000001 .throw)), (12, .one (.int .i64)), (13, .one (.int .i64))]
noncomputable def s22_0 (f38 : (List Device × List Cue × List Gust × Int × Unit) × Unit → Option (Bool × Unit)) (f57 : (List Device × List Cue × List Gust × Int × Unit) × Unit → Option (List Throw × Unit)) (t3 : Int × List Throw × Int × Int × Unit) (rec K : Int × List Throw × Int × Int × Unit → Option (Int × Unit)) : Option (Int × Unit) :=
  cond (decide (t3.2.2.2.1 < t3.2.2.1)) (rdL t3.2.1 t3.2.2.2.1 fun _ => (t3.2.1[(Int.toNat t3.2.2.2.1)]?).bind fun d4 => rec ((w64 (t3.1 + d4.jet.Lift)), t3.2.1, t3.2.2.1, (w64 (t3.2.2.2.1 + 1)), ())) (K (t3.1, t3.2.1, t3.2.2.1, t3.2.2.2.1, ()))
noncomputable def F22 (f38 : (List Device × List Cue × List Gust × Int × Unit) × Unit → Option (Bool × Unit)) (f57 : (List Device × List Cue × List Gust × Int × Unit) × Unit → Option (List Throw × Unit)) (a : (List Device × List Cue × List Gust × Int × Unit) × Unit) : Option (Int × Unit) :=
  (f38 ((a.1.1, a.1.2.1, a.1.2.2.1, a.1.2.2.2.1, ()), ())).bind fun x1 => cond (!x1.1) (some (0, ())) ((f57 ((a.1.1, a.1.2.1, a.1.2.2.1, a.1.2.2.2.1, ()), ())).bind fun x2 => iterF (s22_0 f38 f57) fuel (0, x2.1, (Int.ofNat (List.length x2.1)), 0, ()) fun t5 => some (t5.1, ()))
def E22 (f38 : (List Device × List Cue × List Gust × Int × Unit) × Unit → Option (Bool × Unit)) (f57 : (List Device × List Cue × List Gust × Int × Unit) × Unit → Option (List Throw × Unit)) : Env := envL [(38, mkE p38 r38 false f38), (57, mkE p57 r57 false f57)]
noncomputable def L22 (f38 : (List Device × List Cue × List Gust × Int × Unit) × Unit → Option (Bool × Unit)) (f57 : (List Device × List Cue × List Gust × Int × Unit) × Unit → Option (List Throw × Unit)) : LEnv (densS (muts p22 ++ r22)) := lenv [(0, loopL (R := densS (muts p22 ++ r22)) q22_0 (s22_0 f38 f57))]
theorem e22_0 (f38 : (List Device × List Cue × List Gust × Int × Unit) × Unit → Option (Bool × Unit)) (f57 : (List Device × List Cue × List Gust × Int × Unit) × Unit → Option (List Throw × Unit)) (X : Nat → St → Option (densS (muts p22 ++ r22))) (rec K : densS q22_0 → Option (densS (muts p22 ++ r22))) (t : densS q22_0) :
    ev (E22 f38 f57) tab (fun _ => false) (L22 f38 f57) (retK tab p22 r22 Proofs.Try.f22.results.toList) (loopC Proofs.Try.f22 0) (fun i s => cond (Nat.beq i 0) (decK 100 q22_0 s K) (X i s)) (fun s => decK 100 q22_0 s rec) (enc q22_0 t) = s22_0 f38 f57 t rec K := by kernel_rfl
theorem e22 (f38 : (List Device × List Cue × List Gust × Int × Unit) × Unit → Option (Bool × Unit)) (f57 : (List Device × List Cue × List Gust × Int × Unit) × Unit → Option (List Throw × Unit)) (a : densS p22) : runF (E22 f38 f57) tab (fun _ => false) p22 r22 Proofs.Try.f22 (L22 f38 f57) a = F22 f38 f57 a := by kernel_rfl
theorem ok22 {f38 : (List Device × List Cue × List Gust × Int × Unit) × Unit → Option (Bool × Unit)} {f57 : (List Device × List Cue × List Gust × Int × Unit) × Unit → Option (List Throw × Unit)} (h38 : OK Proofs.Try.prog 38 (mkE p38 r38 false f38)) (h57 : OK Proofs.Try.prog 57 (mkE p57 r57 false f57)) : OK Proofs.Try.prog 22 (mkE p22 r22 false (F22 f38 f57)) :=
  fn_ok tab_ok (envL_ok (l := [(38, mkE p38 r38 false f38), (57, mkE p57 r57 false f57)]) (OKs.cons h38 (OKs.cons h57 OKs.nil))) mixed (ann := (fun _ => false)) (L := L22 f38 f57) (fn := Proofs.Try.f22) (c := bodyC Proofs.Try.f22) (ls := [(0, loopC Proofs.Try.f22 0)]) Proofs.Try.func22 (by kernel_rfl) (by kernel_rfl) (by kernel_rfl) (by kernel_rfl)
    (LoopsP.cons q22_0 (s22_0 f38 f57) rfl (e22_0 f38 f57) LoopsP.nil) (e22 f38 f57)
/-! impl.throwsOf -/
def p58 : List SP := [.agg [.r .device, .r .cue, .r .gust, .int .i64]]
def r58 : List SP := [.one (.o 0 .throw)]
def q58_2 : List SP := pat 52 0 [(1, .box 5002001 [.r .device, .r .cue, .r .gust, .int .i64]), (3, .one (.o 5002002 .throw)), (4, .one (.int .i64)), (14, .one (.int .i64)), (15, .one (.int .i64)), (20, .one (.o 5002003 .int)), (21, .one (.int .i64)), (22, .one (.int .i64))]
noncomputable def s58_2 (f43 : (List Device × List Cue × List Gust × Int × Unit) × Unit → Option (Bool × Unit)) (f13 : (List Device × List Cue × List Gust × Int × Unit) × Int × Unit → Option (List Int × Unit)) (t4 : (List Device × List Cue × List Gust × Int × Unit) × List Throw × Int × Int × Int × List Int × Int × Int × Unit) (rec K : (List Device × List Cue × List Gust × Int × Unit) × List Throw × Int × Int × Int × List Int × Int × Int × Unit → Option (List Throw × Unit)) : Option (List Throw × Unit) :=
  cond (decide (t4.2.2.2.2.2.2.2.1 < t4.2.2.2.2.2.2.1)) (rdL t4.2.2.2.2.2.1 t4.2.2.2.2.2.2.2.1 fun _ => (t4.2.2.2.2.2.1[(Int.toNat t4.2.2.2.2.2.2.2.1)]?).bind fun d5 => cond (decide (d5 > 0)) (rdL t4.1.1 t4.2.2.2.2.2.2.2.1 fun d6 => capK (List.length t4.2.1 + List.length ([(⟨d6.Name, t4.2.2.1, ⟨⟨d6.At.X, d6.At.Y⟩, d6.Heading, d6.Tilt, d5⟩⟩ : Throw)] : List Throw)) (rec ((t4.1.1, t4.1.2.1, t4.1.2.2.1, t4.1.2.2.2.1, ()), (t4.2.1 ++ ([(⟨d6.Name, t4.2.2.1, ⟨⟨d6.At.X, d6.At.Y⟩, d6.Heading, d6.Tilt, d5⟩⟩ : Throw)] : List Throw)), t4.2.2.1, t4.2.2.2.1, t4.2.2.2.2.1, t4.2.2.2.2.2.1, t4.2.2.2.2.2.2.1, (w64 (t4.2.2.2.2.2.2.2.1 + 1)), ()))) (rec ((t4.1.1, t4.1.2.1, t4.1.2.2.1, t4.1.2.2.2.1, ()), t4.2.1, t4.2.2.1, t4.2.2.2.1, t4.2.2.2.2.1, t4.2.2.2.2.2.1, t4.2.2.2.2.2.2.1, (w64 (t4.2.2.2.2.2.2.2.1 + 1)), ()))) (K ((t4.1.1, t4.1.2.1, t4.1.2.2.1, t4.1.2.2.2.1, ()), t4.2.1, t4.2.2.1, t4.2.2.2.1, t4.2.2.2.2.1, t4.2.2.2.2.2.1, t4.2.2.2.2.2.2.1, t4.2.2.2.2.2.2.2.1, ()))
def q58_0 : List SP := pat 52 0 [(1, .box 5000001 [.r .device, .r .cue, .r .gust, .int .i64]), (3, .one (.o 5000002 .throw)), (14, .one (.int .i64)), (15, .one (.int .i64))]
noncomputable def s58_0 (f43 : (List Device × List Cue × List Gust × Int × Unit) × Unit → Option (Bool × Unit)) (f13 : (List Device × List Cue × List Gust × Int × Unit) × Int × Unit → Option (List Int × Unit)) (t2 : (List Device × List Cue × List Gust × Int × Unit) × List Throw × Int × Int × Unit) (rec K : (List Device × List Cue × List Gust × Int × Unit) × List Throw × Int × Int × Unit → Option (List Throw × Unit)) : Option (List Throw × Unit) :=
  cond (decide (t2.2.2.2.1 < t2.2.2.1)) ((f13 ((t2.1.1, t2.1.2.1, t2.1.2.2.1, t2.1.2.2.2.1, ()), t2.2.2.2.1, ())).bind fun x3 => iterF (s58_2 f43 f13) fuel ((t2.1.1, t2.1.2.1, t2.1.2.2.1, t2.1.2.2.2.1, ()), t2.2.1, t2.2.2.2.1, t2.2.2.1, t2.2.2.2.1, x3.1, (Int.ofNat (List.length x3.1)), 0, ()) fun t7 => rec ((t7.1.1, t7.1.2.1, t7.1.2.2.1, t7.1.2.2.2.1, ()), t7.2.1, t7.2.2.2.1, (w64 (t7.2.2.2.2.1 + 1)), ())) (K ((t2.1.1, t2.1.2.1, t2.1.2.2.1, t2.1.2.2.2.1, ()), t2.2.1, t2.2.2.1, t2.2.2.2.1, ()))
noncomputable def F58 (f43 : (List Device × List Cue × List Gust × Int × Unit) × Unit → Option (Bool × Unit)) (f13 : (List Device × List Cue × List Gust × Int × Unit) × Int × Unit → Option (List Int × Unit)) (a : (List Device × List Cue × List Gust × Int × Unit) × Unit) : Option (List Throw × Unit) :=
  (f43 ((a.1.1, a.1.2.1, a.1.2.2.1, a.1.2.2.2.1, ()), ())).bind fun x1 => cond (!x1.1) (some (([] : List Throw), ())) (iterF (s58_0 f43 f13) fuel ((a.1.1, a.1.2.1, a.1.2.2.1, a.1.2.2.2.1, ()), ([] : List Throw), a.1.2.2.2.1, 0, ()) fun t8 => some (t8.2.1, ()))
def E58 (f43 : (List Device × List Cue × List Gust × Int × Unit) × Unit → Option (Bool × Unit)) (f13 : (List Device × List Cue × List Gust × Int × Unit) × Int × Unit → Option (List Int × Unit)) : Env := envL [(43, mkE p43 r43 false f43), (13, mkE p13 r13 false f13)]
noncomputable def L58 (f43 : (List Device × List Cue × List Gust × Int × Unit) × Unit → Option (Bool × Unit)) (f13 : (List Device × List Cue × List Gust × Int × Unit) × Int × Unit → Option (List Int × Unit)) : LEnv (densS (muts p58 ++ r58)) := lenv [(0, loopL (R := densS (muts p58 ++ r58)) q58_0 (s58_0 f43 f13)), (2, loopL (R := densS (muts p58 ++ r58)) q58_2 (s58_2 f43 f13))]
theorem e58_0 (f43 : (List Device × List Cue × List Gust × Int × Unit) × Unit → Option (Bool × Unit)) (f13 : (List Device × List Cue × List Gust × Int × Unit) × Int × Unit → Option (List Int × Unit)) (X : Nat → St → Option (densS (muts p58 ++ r58))) (rec K : densS q58_0 → Option (densS (muts p58 ++ r58))) (t : densS q58_0) :
    ev (E58 f43 f13) tab (fun _ => false) (L58 f43 f13) (retK tab p58 r58 Proofs.Try.f58.results.toList) (loopC Proofs.Try.f58 0) (fun i s => cond (Nat.beq i 0) (decK 100 q58_0 s K) (X i s)) (fun s => decK 100 q58_0 s rec) (enc q58_0 t) = s58_0 f43 f13 t rec K := by kernel_rfl
theorem e58_2 (f43 : (List Device × List Cue × List Gust × Int × Unit) × Unit → Option (Bool × Unit)) (f13 : (List Device × List Cue × List Gust × Int × Unit) × Int × Unit → Option (List Int × Unit)) (X : Nat → St → Option (densS (muts p58 ++ r58))) (rec K : densS q58_2 → Option (densS (muts p58 ++ r58))) (t : densS q58_2) :
    ev (E58 f43 f13) tab (fun _ => false) (L58 f43 f13) (retK tab p58 r58 Proofs.Try.f58.results.toList) (loopC Proofs.Try.f58 1) (fun i s => cond (Nat.beq i 2) (decK 100 q58_2 s K) (X i s)) (fun s => decK 100 q58_2 s rec) (enc q58_2 t) = s58_2 f43 f13 t rec K := by kernel_rfl
theorem e58 (f43 : (List Device × List Cue × List Gust × Int × Unit) × Unit → Option (Bool × Unit)) (f13 : (List Device × List Cue × List Gust × Int × Unit) × Int × Unit → Option (List Int × Unit)) (a : densS p58) : runF (E58 f43 f13) tab (fun _ => false) p58 r58 Proofs.Try.f58 (L58 f43 f13) a = F58 f43 f13 a := by kernel_rfl
theorem ok58 {f43 : (List Device × List Cue × List Gust × Int × Unit) × Unit → Option (Bool × Unit)} {f13 : (List Device × List Cue × List Gust × Int × Unit) × Int × Unit → Option (List Int × Unit)} (h43 : OK Proofs.Try.prog 43 (mkE p43 r43 false f43)) (h13 : OK Proofs.Try.prog 13 (mkE p13 r13 false f13)) : OK Proofs.Try.prog 58 (mkE p58 r58 false (F58 f43 f13)) :=
  fn_ok tab_ok (envL_ok (l := [(43, mkE p43 r43 false f43), (13, mkE p13 r13 false f13)]) (OKs.cons h43 (OKs.cons h13 OKs.nil))) mixed (ann := (fun _ => false)) (L := L58 f43 f13) (fn := Proofs.Try.f58) (c := bodyC Proofs.Try.f58) (ls := [(0, loopC Proofs.Try.f58 0), (2, loopC Proofs.Try.f58 1)]) Proofs.Try.func58 (by kernel_rfl) (by kernel_rfl) (by kernel_rfl) (by kernel_rfl)
    (LoopsP.cons q58_0 (s58_0 f43 f13) rfl (e58_0 f43 f13) (LoopsP.cons q58_2 (s58_2 f43 f13) rfl (e58_2 f43 f13) LoopsP.nil)) (e58 f43 f13)
/-! impl.WaterOf -/
def p23 : List SP := [.agg [.r .device, .r .cue, .r .gust, .int .i64]]
def r23 : List SP := [.one (.int .i64)]
def q23_0 : List SP := pat 20 0 [(3, .one (.int .i64)), (7, .one (.o 5000001 .throw)), (8, .one (.int .i64)), (9, .one (.int .i64))]
noncomputable def s23_0 (f58 : (List Device × List Cue × List Gust × Int × Unit) × Unit → Option (List Throw × Unit)) (t2 : Int × List Throw × Int × Int × Unit) (rec K : Int × List Throw × Int × Int × Unit → Option (Int × Unit)) : Option (Int × Unit) :=
  cond (decide (t2.2.2.2.1 < t2.2.2.1)) (rdL t2.2.1 t2.2.2.2.1 fun _ => (t2.2.1[(Int.toNat t2.2.2.2.1)]?).bind fun d3 => rec ((w64 (t2.1 + d3.jet.Lift)), t2.2.1, t2.2.2.1, (w64 (t2.2.2.2.1 + 1)), ())) (K (t2.1, t2.2.1, t2.2.2.1, t2.2.2.2.1, ()))
noncomputable def F23 (f58 : (List Device × List Cue × List Gust × Int × Unit) × Unit → Option (List Throw × Unit)) (a : (List Device × List Cue × List Gust × Int × Unit) × Unit) : Option (Int × Unit) :=
  (f58 ((a.1.1, a.1.2.1, a.1.2.2.1, a.1.2.2.2.1, ()), ())).bind fun x1 => iterF (s23_0 f58) fuel (0, x1.1, (Int.ofNat (List.length x1.1)), 0, ()) fun t4 => some (t4.1, ())
def E23 (f58 : (List Device × List Cue × List Gust × Int × Unit) × Unit → Option (List Throw × Unit)) : Env := envL [(58, mkE p58 r58 false f58)]
noncomputable def L23 (f58 : (List Device × List Cue × List Gust × Int × Unit) × Unit → Option (List Throw × Unit)) : LEnv (densS (muts p23 ++ r23)) := lenv [(0, loopL (R := densS (muts p23 ++ r23)) q23_0 (s23_0 f58))]
theorem e23_0 (f58 : (List Device × List Cue × List Gust × Int × Unit) × Unit → Option (List Throw × Unit)) (X : Nat → St → Option (densS (muts p23 ++ r23))) (rec K : densS q23_0 → Option (densS (muts p23 ++ r23))) (t : densS q23_0) :
    ev (E23 f58) tab (fun _ => false) (L23 f58) (retK tab p23 r23 Proofs.Try.f23.results.toList) (loopC Proofs.Try.f23 0) (fun i s => cond (Nat.beq i 0) (decK 100 q23_0 s K) (X i s)) (fun s => decK 100 q23_0 s rec) (enc q23_0 t) = s23_0 f58 t rec K := by kernel_rfl
theorem e23 (f58 : (List Device × List Cue × List Gust × Int × Unit) × Unit → Option (List Throw × Unit)) (a : densS p23) : runF (E23 f58) tab (fun _ => false) p23 r23 Proofs.Try.f23 (L23 f58) a = F23 f58 a := by kernel_rfl
theorem ok23 {f58 : (List Device × List Cue × List Gust × Int × Unit) × Unit → Option (List Throw × Unit)} (h58 : OK Proofs.Try.prog 58 (mkE p58 r58 false f58)) : OK Proofs.Try.prog 23 (mkE p23 r23 false (F23 f58)) :=
  fn_ok tab_ok (envL_ok (l := [(58, mkE p58 r58 false f58)]) (OKs.cons h58 OKs.nil)) mixed (ann := (fun _ => false)) (L := L23 f58) (fn := Proofs.Try.f23) (c := bodyC Proofs.Try.f23) (ls := [(0, loopC Proofs.Try.f23 0)]) Proofs.Try.func23 (by kernel_rfl) (by kernel_rfl) (by kernel_rfl) (by kernel_rfl)
    (LoopsP.cons q23_0 (s23_0 f58) rfl (e23_0 f58) LoopsP.nil) (e23 f58)
/-! laws.FnExactWaterOf -/
def p5 : List SP := [.agg [.r .device, .r .cue, .r .gust, .int .i64]]
def r5 : List SP := [.one (.bool)]
noncomputable def F5 (f10 : (List Device × List Cue × List Gust × Int × Unit) × Int × Unit → Option (Int × Unit)) (f12 : (List Device × List Cue × List Gust × Int × Unit) × Unit → Option ((List Device × List Cue × List Gust × Int × Unit) × Unit)) (f22 : (List Device × List Cue × List Gust × Int × Unit) × Unit → Option (Int × Unit)) (f23 : (List Device × List Cue × List Gust × Int × Unit) × Unit → Option (Int × Unit)) (f15 : (List Device × List Cue × List Gust × Int × Unit) × (List Device × List Cue × List Gust × Int × Unit) × Unit → Option (Bool × Unit)) (a : (List Device × List Cue × List Gust × Int × Unit) × Unit) : Option (Bool × Unit) :=
  (f10 ((a.1.1, a.1.2.1, a.1.2.2.1, a.1.2.2.2.1, ()), 1048576, ())).bind fun x1 => cond (decide (x1.1 < 0)) (some (true, ())) ((f12 ((a.1.1, a.1.2.1, a.1.2.2.1, a.1.2.2.2.1, ()), ())).bind fun x2 => (f22 ((x2.1.1, x2.1.2.1, x2.1.2.2.1, x2.1.2.2.2.1, ()), ())).bind fun x3 => (f12 ((a.1.1, a.1.2.1, a.1.2.2.1, a.1.2.2.2.1, ()), ())).bind fun x4 => (f23 ((x4.1.1, x4.1.2.1, x4.1.2.2.1, x4.1.2.2.2.1, ()), ())).bind fun x5 => cond (!(decide (x5.1 = x3.1))) (some (false, ())) ((f12 ((a.1.1, a.1.2.1, a.1.2.2.1, a.1.2.2.2.1, ()), ())).bind fun x6 => (f15 ((x4.1.1, x4.1.2.1, x4.1.2.2.1, x4.1.2.2.2.1, ()), (x6.1.1, x6.1.2.1, x6.1.2.2.1, x6.1.2.2.2.1, ()), ())).bind fun x7 => cond (!x7.1) (some (false, ())) (some (true, ()))))
def E5 (f10 : (List Device × List Cue × List Gust × Int × Unit) × Int × Unit → Option (Int × Unit)) (f12 : (List Device × List Cue × List Gust × Int × Unit) × Unit → Option ((List Device × List Cue × List Gust × Int × Unit) × Unit)) (f22 : (List Device × List Cue × List Gust × Int × Unit) × Unit → Option (Int × Unit)) (f23 : (List Device × List Cue × List Gust × Int × Unit) × Unit → Option (Int × Unit)) (f15 : (List Device × List Cue × List Gust × Int × Unit) × (List Device × List Cue × List Gust × Int × Unit) × Unit → Option (Bool × Unit)) : Env := envL [(10, mkE p10 r10 false f10), (12, mkE p12 r12 false f12), (22, mkE p22 r22 false f22), (23, mkE p23 r23 false f23), (15, mkE p15 r15 false f15)]
noncomputable def L5 (f10 : (List Device × List Cue × List Gust × Int × Unit) × Int × Unit → Option (Int × Unit)) (f12 : (List Device × List Cue × List Gust × Int × Unit) × Unit → Option ((List Device × List Cue × List Gust × Int × Unit) × Unit)) (f22 : (List Device × List Cue × List Gust × Int × Unit) × Unit → Option (Int × Unit)) (f23 : (List Device × List Cue × List Gust × Int × Unit) × Unit → Option (Int × Unit)) (f15 : (List Device × List Cue × List Gust × Int × Unit) × (List Device × List Cue × List Gust × Int × Unit) × Unit → Option (Bool × Unit)) : LEnv (densS (muts p5 ++ r5)) := lenv []
theorem e5 (f10 : (List Device × List Cue × List Gust × Int × Unit) × Int × Unit → Option (Int × Unit)) (f12 : (List Device × List Cue × List Gust × Int × Unit) × Unit → Option ((List Device × List Cue × List Gust × Int × Unit) × Unit)) (f22 : (List Device × List Cue × List Gust × Int × Unit) × Unit → Option (Int × Unit)) (f23 : (List Device × List Cue × List Gust × Int × Unit) × Unit → Option (Int × Unit)) (f15 : (List Device × List Cue × List Gust × Int × Unit) × (List Device × List Cue × List Gust × Int × Unit) × Unit → Option (Bool × Unit)) (a : densS p5) : runF (E5 f10 f12 f22 f23 f15) tab (fun _ => false) p5 r5 Proofs.Try.f5 (L5 f10 f12 f22 f23 f15) a = F5 f10 f12 f22 f23 f15 a := by kernel_rfl
theorem ok5 {f10 : (List Device × List Cue × List Gust × Int × Unit) × Int × Unit → Option (Int × Unit)} {f12 : (List Device × List Cue × List Gust × Int × Unit) × Unit → Option ((List Device × List Cue × List Gust × Int × Unit) × Unit)} {f22 : (List Device × List Cue × List Gust × Int × Unit) × Unit → Option (Int × Unit)} {f23 : (List Device × List Cue × List Gust × Int × Unit) × Unit → Option (Int × Unit)} {f15 : (List Device × List Cue × List Gust × Int × Unit) × (List Device × List Cue × List Gust × Int × Unit) × Unit → Option (Bool × Unit)} (h10 : OK Proofs.Try.prog 10 (mkE p10 r10 false f10)) (h12 : OK Proofs.Try.prog 12 (mkE p12 r12 false f12)) (h22 : OK Proofs.Try.prog 22 (mkE p22 r22 false f22)) (h23 : OK Proofs.Try.prog 23 (mkE p23 r23 false f23)) (h15 : OK Proofs.Try.prog 15 (mkE p15 r15 false f15)) : OK Proofs.Try.prog 5 (mkE p5 r5 false (F5 f10 f12 f22 f23 f15)) :=
  fn_ok tab_ok (envL_ok (l := [(10, mkE p10 r10 false f10), (12, mkE p12 r12 false f12), (22, mkE p22 r22 false f22), (23, mkE p23 r23 false f23), (15, mkE p15 r15 false f15)]) (OKs.cons h10 (OKs.cons h12 (OKs.cons h22 (OKs.cons h23 (OKs.cons h15 OKs.nil)))))) mixed (ann := (fun _ => false)) (L := L5 f10 f12 f22 f23 f15) (fn := Proofs.Try.f5) (c := bodyC Proofs.Try.f5) (ls := []) Proofs.Try.func5 (by kernel_rfl) (by kernel_rfl) (by kernel_rfl) (by kernel_rfl)
    LoopsP.nil (e5 f10 f12 f22 f23 f15)
end Ev
