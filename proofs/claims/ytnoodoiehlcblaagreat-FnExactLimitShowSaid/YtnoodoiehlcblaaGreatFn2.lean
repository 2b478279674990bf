/- Functions of the program, as the evaluator sees them. -/
import Derived.Test.YtnoodoiehlcblaaGreatFn
set_option linter.unusedVariables false
set_option maxRecDepth 100000
namespace Ev
open Go
def tab2 : Tab := [(3, ⟨1, false, 8, [.int .i64 0], [], .int .i64, false⟩),
  (4, ⟨1, false, 1, [.bool false], [], .bool, false⟩),
  (5, ⟨1, false, 1, [.int .u8 0], [], .int .u8, false⟩),
  (9, ⟨1, false, 16, [.str []], [], .str, false⟩),
  (22, ⟨1, false, 24, [.nils], [], .sl .device, false⟩),
  (23, ⟨1, false, 24, [.nils], [], .sl .cue, false⟩),
  (24, ⟨1, false, 24, [.nils], [], .sl .gust, false⟩),
  (26, ⟨4, true, 80, [.nils, .nils, .nils, .int .i64 0], [(0, 1, false), (1, 1, false), (2, 1, false), (3, 1, false)], .struct, false⟩),
  (28, ⟨1, false, 24, [.nils], [], .sl .drop, false⟩),
  (30, ⟨1, false, 24, [.nils], [], .sl .device, false⟩),
  (31, ⟨1, false, 24, [.nils], [], .sl .cue, false⟩),
  (32, ⟨1, false, 24, [.nils], [], .sl .gust, false⟩),
  (34, ⟨4, true, 80, [.nils, .nils, .nils, .int .i64 0], [(0, 1, false), (1, 1, false), (2, 1, false), (3, 1, false)], .struct, false⟩),
  (44, ⟨2, true, 16, [.int .i64 0, .int .i64 0], [(0, 1, false), (1, 1, false)], .struct, false⟩),
  (46, ⟨4, true, 32, [.int .i64 0, .int .i64 0, .int .i64 0, .int .i64 0], [(0, 2, true), (2, 2, true)], .struct, false⟩),
  (48, ⟨2, true, 16, [.int .i64 0, .int .i64 0], [(0, 1, false), (1, 1, false)], .struct, false⟩),
  (50, ⟨4, true, 32, [.int .i64 0, .int .i64 0, .int .i64 0, .int .i64 0], [(0, 2, true), (2, 2, true)], .struct, false⟩),
  (76, ⟨1, false, 24, [.nils], [], .sl .throw, false⟩),
  (79, ⟨5, true, 40, [.int .i64 0, .int .i64 0, .int .i64 0, .int .i64 0, .int .i64 0], [(0, 2, true), (2, 1, false), (3, 1, false), (4, 1, false)], .struct, false⟩),
  (81, ⟨7, true, 64, [.str [], .int .i64 0, .int .i64 0, .int .i64 0, .int .i64 0, .int .i64 0, .int .i64 0], [(0, 1, false), (1, 1, false), (2, 5, true)], .struct, false⟩),
  (84, ⟨5, true, 48, [.str [], .int .i64 0, .int .i64 0, .int .i64 0, .int .i64 0], [(0, 1, false), (1, 1, false), (2, 2, true), (4, 1, false)], .struct, false⟩),
  (89, ⟨1, false, 24, [.nils], [], .sl .throw, false⟩),
  (92, ⟨7, true, 64, [.str [], .int .i64 0, .int .i64 0, .int .i64 0, .int .i64 0, .int .i64 0, .int .i64 0], [(0, 1, false), (1, 1, false), (2, 5, true)], .struct, false⟩),
  (116, ⟨3, true, 24, [.int .i64 0, .int .i64 0, .int .i64 0], [(0, 1, false), (1, 2, true)], .struct, false⟩),
  (120, ⟨8, true, 80, [.str [], .int .i64 0, .str [], .int .i64 0, .int .i64 0, .int .i64 0, .int .i64 0, .int .i64 0], [(0, 1, false), (1, 1, false), (2, 1, false), (3, 2, true), (5, 1, false), (6, 1, false), (7, 1, false)], .struct, true⟩),
  (124, ⟨8, true, 80, [.str [], .int .i64 0, .str [], .int .i64 0, .int .i64 0, .int .i64 0, .int .i64 0, .int .i64 0], [(0, 1, false), (1, 1, false), (2, 1, false), (3, 2, true), (5, 1, false), (6, 1, false), (7, 1, false)], .struct, false⟩),
  (127, ⟨4, true, 40, [.int .i64 0, .str [], .int .i64 0, .int .i64 0], [(0, 1, false), (1, 1, false), (2, 1, false), (3, 1, false)], .struct, false⟩),
  (142, ⟨4, true, 40, [.int .i64 0, .str [], .int .i64 0, .int .i64 0], [(0, 1, false), (1, 1, false), (2, 1, false), (3, 1, false)], .struct, false⟩),
  (146, ⟨3, true, 24, [.int .i64 0, .int .i64 0, .int .i64 0], [(0, 1, false), (1, 2, true)], .struct, false⟩),
  (150, ⟨1, false, 24, [.nils], [], .sl .u8, false⟩)]
theorem tab_ok2 : TabOK Proofs.Tryz.prog tab2 := tab_of2 (by kernel_rfl) (by kernel_rfl)
theorem mixed2 : Proofs.Tryz.prog.follows .mixedOrders = true := by kernel_rfl
/-! laws.szDevice -/
def p90 : List SP := [.t .device, .one (.int .i64)]
def r90 : List SP := [.one (.int .i64)]
noncomputable def F90 (a : Device × Int × Unit) : Option (Int × Unit) :=
  cond (decide ((w64 (a.2.1 - (Int.ofNat (List.length a.1.Name)))) < 0)) (some ((-1), ())) (cond (decide ((w64 ((w64 (a.2.1 - (Int.ofNat (List.length a.1.Name)))) - (Int.ofNat (List.length a.1.Line)))) < 0)) (some ((-1), ())) (some ((w64 ((w64 (a.2.1 - (Int.ofNat (List.length a.1.Name)))) - (Int.ofNat (List.length a.1.Line)))), ())))
def E90 : Env := envL []
noncomputable def L90 : LEnv (densS (muts p90 ++ r90)) := lenv []
theorem e90 (a : densS p90) : runF (E90) tab2 (fun _ => false) p90 r90 Proofs.Tryz.f90 (L90) a = F90 a := by kernel_rfl
theorem ok90 : OK Proofs.Tryz.prog 90 (mkE p90 r90 false (F90)) :=
  fn_ok tab_ok2 (envL_ok (l := []) OKs.nil) mixed2 (ann := (fun _ => false)) (L := L90) (fn := Proofs.Tryz.f90) (c := bodyC Proofs.Tryz.f90) (ls := []) Proofs.Tryz.func90 (by kernel_rfl) (by kernel_rfl) (by kernel_rfl) (by kernel_rfl)
    LoopsP.nil (e90)
/-! laws.szDeviceS -/
def p44 : List SP := [.one (.r .device), .one (.int .i64)]
def r44 : List SP := [.one (.int .i64)]
def q44_0 : List SP := pat 27 0 [(0, .one (.r .device)), (1, .one (.int .i64)), (5, .one (.int .i64))]
noncomputable def s44_0 (f90 : Device × Int × Unit → Option (Int × Unit)) (t1 : List Device × Int × Int × Unit) (rec K : List Device × Int × Int × Unit → Option (Int × Unit)) : Option (Int × Unit) :=
  cond (decide (t1.2.2.1 < (Int.ofNat (List.length t1.1)))) (rdL t1.1 t1.2.2.1 fun d2 => (f90 (d2, t1.2.1, ())).bind fun x3 => cond (decide (x3.1 < 0)) (some ((-1), ())) (rec (t1.1, x3.1, (w64 (t1.2.2.1 + 1)), ()))) (K (t1.1, t1.2.1, t1.2.2.1, ()))
noncomputable def F44 (f90 : Device × Int × Unit → Option (Int × Unit)) (a : List Device × Int × Unit) : Option (Int × Unit) :=
  cond (decide ((w64 (a.2.1 - (Int.ofNat (List.length a.1)))) < 0)) (some ((-1), ())) (iterF (s44_0 f90) fuel (a.1, (w64 (a.2.1 - (Int.ofNat (List.length a.1)))), 0, ()) fun t4 => some (t4.2.1, ()))
def E44 (f90 : Device × Int × Unit → Option (Int × Unit)) : Env := envL [(90, mkE p90 r90 false f90)]
noncomputable def L44 (f90 : Device × Int × Unit → Option (Int × Unit)) : LEnv (densS (muts p44 ++ r44)) := lenv [(0, loopL (R := densS (muts p44 ++ r44)) q44_0 (s44_0 f90))]
theorem e44_0 (f90 : Device × Int × Unit → Option (Int × Unit)) (X : Nat → St → Option (densS (muts p44 ++ r44))) (rec K : densS q44_0 → Option (densS (muts p44 ++ r44))) (t : densS q44_0) :
    ev (E44 f90) tab2 (fun _ => false) (L44 f90) (retK tab2 p44 r44 Proofs.Tryz.f44.results.toList) (loopC Proofs.Tryz.f44 0) (fun i s => cond (Nat.beq i 0) (decK 100 q44_0 s K) (X i s)) (fun s => decK 100 q44_0 s rec) (enc q44_0 t) = s44_0 f90 t rec K := by kernel_rfl
theorem e44 (f90 : Device × Int × Unit → Option (Int × Unit)) (a : densS p44) : runF (E44 f90) tab2 (fun _ => false) p44 r44 Proofs.Tryz.f44 (L44 f90) a = F44 f90 a := by kernel_rfl
theorem ok44 {f90 : Device × Int × Unit → Option (Int × Unit)} (h90 : OK Proofs.Tryz.prog 90 (mkE p90 r90 false f90)) : OK Proofs.Tryz.prog 44 (mkE p44 r44 false (F44 f90)) :=
  fn_ok tab_ok2 (envL_ok (l := [(90, mkE p90 r90 false f90)]) (OKs.cons h90 OKs.nil)) mixed2 (ann := (fun _ => false)) (L := L44 f90) (fn := Proofs.Tryz.f44) (c := bodyC Proofs.Tryz.f44) (ls := [(0, loopC Proofs.Tryz.f44 0)]) Proofs.Tryz.func44 (by kernel_rfl) (by kernel_rfl) (by kernel_rfl) (by kernel_rfl)
    (LoopsP.cons q44_0 (s44_0 f90) rfl (e44_0 f90) LoopsP.nil) (e44 f90)
/-! laws.szCue -/
def p91 : List SP := [.t .cue, .one (.int .i64)]
def r91 : List SP := [.one (.int .i64)]
noncomputable def F91 (a : Cue × Int × Unit) : Option (Int × Unit) :=
  cond (decide ((w64 (a.2.1 - (Int.ofNat (List.length a.1.Name)))) < 0)) (some ((-1), ())) (some ((w64 (a.2.1 - (Int.ofNat (List.length a.1.Name)))), ()))
def E91 : Env := envL []
noncomputable def L91 : LEnv (densS (muts p91 ++ r91)) := lenv []
theorem e91 (a : densS p91) : runF (E91) tab2 (fun _ => false) p91 r91 Proofs.Tryz.f91 (L91) a = F91 a := by kernel_rfl
theorem ok91 : OK Proofs.Tryz.prog 91 (mkE p91 r91 false (F91)) :=
  fn_ok tab_ok2 (envL_ok (l := []) OKs.nil) mixed2 (ann := (fun _ => false)) (L := L91) (fn := Proofs.Tryz.f91) (c := bodyC Proofs.Tryz.f91) (ls := []) Proofs.Tryz.func91 (by kernel_rfl) (by kernel_rfl) (by kernel_rfl) (by kernel_rfl)
    LoopsP.nil (e91)
/-! laws.szCueS -/
def p45 : List SP := [.one (.r .cue), .one (.int .i64)]
def r45 : List SP := [.one (.int .i64)]
def q45_0 : List SP := pat 27 0 [(0, .one (.r .cue)), (1, .one (.int .i64)), (5, .one (.int .i64))]
noncomputable def s45_0 (f91 : Cue × Int × Unit → Option (Int × Unit)) (t1 : List Cue × Int × Int × Unit) (rec K : List Cue × Int × Int × Unit → Option (Int × Unit)) : Option (Int × Unit) :=
  cond (decide (t1.2.2.1 < (Int.ofNat (List.length t1.1)))) (rdL t1.1 t1.2.2.1 fun d2 => (f91 (d2, t1.2.1, ())).bind fun x3 => cond (decide (x3.1 < 0)) (some ((-1), ())) (rec (t1.1, x3.1, (w64 (t1.2.2.1 + 1)), ()))) (K (t1.1, t1.2.1, t1.2.2.1, ()))
noncomputable def F45 (f91 : Cue × Int × Unit → Option (Int × Unit)) (a : List Cue × Int × Unit) : Option (Int × Unit) :=
  cond (decide ((w64 (a.2.1 - (Int.ofNat (List.length a.1)))) < 0)) (some ((-1), ())) (iterF (s45_0 f91) fuel (a.1, (w64 (a.2.1 - (Int.ofNat (List.length a.1)))), 0, ()) fun t4 => some (t4.2.1, ()))
def E45 (f91 : Cue × Int × Unit → Option (Int × Unit)) : Env := envL [(91, mkE p91 r91 false f91)]
noncomputable def L45 (f91 : Cue × Int × Unit → Option (Int × Unit)) : LEnv (densS (muts p45 ++ r45)) := lenv [(0, loopL (R := densS (muts p45 ++ r45)) q45_0 (s45_0 f91))]
theorem e45_0 (f91 : Cue × Int × Unit → Option (Int × Unit)) (X : Nat → St → Option (densS (muts p45 ++ r45))) (rec K : densS q45_0 → Option (densS (muts p45 ++ r45))) (t : densS q45_0) :
    ev (E45 f91) tab2 (fun _ => false) (L45 f91) (retK tab2 p45 r45 Proofs.Tryz.f45.results.toList) (loopC Proofs.Tryz.f45 0) (fun i s => cond (Nat.beq i 0) (decK 100 q45_0 s K) (X i s)) (fun s => decK 100 q45_0 s rec) (enc q45_0 t) = s45_0 f91 t rec K := by kernel_rfl
theorem e45 (f91 : Cue × Int × Unit → Option (Int × Unit)) (a : densS p45) : runF (E45 f91) tab2 (fun _ => false) p45 r45 Proofs.Tryz.f45 (L45 f91) a = F45 f91 a := by kernel_rfl
theorem ok45 {f91 : Cue × Int × Unit → Option (Int × Unit)} (h91 : OK Proofs.Tryz.prog 91 (mkE p91 r91 false f91)) : OK Proofs.Tryz.prog 45 (mkE p45 r45 false (F45 f91)) :=
  fn_ok tab_ok2 (envL_ok (l := [(91, mkE p91 r91 false f91)]) (OKs.cons h91 OKs.nil)) mixed2 (ann := (fun _ => false)) (L := L45 f91) (fn := Proofs.Tryz.f45) (c := bodyC Proofs.Tryz.f45) (ls := [(0, loopC Proofs.Tryz.f45 0)]) Proofs.Tryz.func45 (by kernel_rfl) (by kernel_rfl) (by kernel_rfl) (by kernel_rfl)
    (LoopsP.cons q45_0 (s45_0 f91) rfl (e45_0 f91) LoopsP.nil) (e45 f91)
/-! laws.szGustS -/
def p46 : List SP := [.one (.r .gust), .one (.int .i64)]
def r46 : List SP := [.one (.int .i64)]
noncomputable def F46 (a : List Gust × Int × Unit) : Option (Int × Unit) :=
  cond (decide ((w64 (a.2.1 - (Int.ofNat (List.length a.1)))) < 0)) (some ((-1), ())) (some ((w64 (a.2.1 - (Int.ofNat (List.length a.1)))), ()))
def E46 : Env := envL []
noncomputable def L46 : LEnv (densS (muts p46 ++ r46)) := lenv []
theorem e46 (a : densS p46) : runF (E46) tab2 (fun _ => false) p46 r46 Proofs.Tryz.f46 (L46) a = F46 a := by kernel_rfl
theorem ok46 : OK Proofs.Tryz.prog 46 (mkE p46 r46 false (F46)) :=
  fn_ok tab_ok2 (envL_ok (l := []) OKs.nil) mixed2 (ann := (fun _ => false)) (L := L46) (fn := Proofs.Tryz.f46) (c := bodyC Proofs.Tryz.f46) (ls := []) Proofs.Tryz.func46 (by kernel_rfl) (by kernel_rfl) (by kernel_rfl) (by kernel_rfl)
    LoopsP.nil (e46)
/-! laws.szShow -/
def p11 : List SP := [.agg [.r .device, .r .cue, .r .gust, .int .i64], .one (.int .i64)]
def r11 : List SP := [.one (.int .i64)]
noncomputable def F11 (f44 : List Device × Int × Unit → Option (Int × Unit)) (f45 : List Cue × Int × Unit → Option (Int × Unit)) (f46 : List Gust × Int × Unit → Option (Int × Unit)) (a : (List Device × List Cue × List Gust × Int × Unit) × Int × Unit) : Option (Int × Unit) :=
  (f44 (a.1.1, a.2.1, ())).bind fun x1 => cond (decide (x1.1 < 0)) (some ((-1), ())) ((f45 (a.1.2.1, x1.1, ())).bind fun x2 => cond (decide (x2.1 < 0)) (some ((-1), ())) ((f46 (a.1.2.2.1, x2.1, ())).bind fun x3 => cond (decide (x3.1 < 0)) (some ((-1), ())) (some (x3.1, ()))))
def E11 (f44 : List Device × Int × Unit → Option (Int × Unit)) (f45 : List Cue × Int × Unit → Option (Int × Unit)) (f46 : List Gust × Int × Unit → Option (Int × Unit)) : Env := envL [(44, mkE p44 r44 false f44), (45, mkE p45 r45 false f45), (46, mkE p46 r46 false f46)]
noncomputable def L11 (f44 : List Device × Int × Unit → Option (Int × Unit)) (f45 : List Cue × Int × Unit → Option (Int × Unit)) (f46 : List Gust × Int × Unit → Option (Int × Unit)) : LEnv (densS (muts p11 ++ r11)) := lenv []
theorem e11 (f44 : List Device × Int × Unit → Option (Int × Unit)) (f45 : List Cue × Int × Unit → Option (Int × Unit)) (f46 : List Gust × Int × Unit → Option (Int × Unit)) (a : densS p11) : runF (E11 f44 f45 f46) tab2 (fun _ => false) p11 r11 Proofs.Tryz.f11 (L11 f44 f45 f46) a = F11 f44 f45 f46 a := by kernel_rfl
theorem ok11 {f44 : List Device × Int × Unit → Option (Int × Unit)} {f45 : List Cue × Int × Unit → Option (Int × Unit)} {f46 : List Gust × Int × Unit → Option (Int × Unit)} (h44 : OK Proofs.Tryz.prog 44 (mkE p44 r44 false f44)) (h45 : OK Proofs.Tryz.prog 45 (mkE p45 r45 false f45)) (h46 : OK Proofs.Tryz.prog 46 (mkE p46 r46 false f46)) : OK Proofs.Tryz.prog 11 (mkE p11 r11 false (F11 f44 f45 f46)) :=
  fn_ok tab_ok2 (envL_ok (l := [(44, mkE p44 r44 false f44), (45, mkE p45 r45 false f45), (46, mkE p46 r46 false f46)]) (OKs.cons h44 (OKs.cons h45 (OKs.cons h46 OKs.nil)))) mixed2 (ann := (fun _ => false)) (L := L11 f44 f45 f46) (fn := Proofs.Tryz.f11) (c := bodyC Proofs.Tryz.f11) (ls := []) Proofs.Tryz.func11 (by kernel_rfl) (by kernel_rfl) (by kernel_rfl) (by kernel_rfl)
    LoopsP.nil (e11 f44 f45 f46)
/-! laws.toPlace -/
def p65 : List SP := [.t .place]
def r65 : List SP := [.t .place]
noncomputable def F65 (a : Place × Unit) : Option (Place × Unit) :=
  some (a.1, ())
def E65 : Env := envL []
noncomputable def L65 : LEnv (densS (muts p65 ++ r65)) := lenv []
theorem e65 (a : densS p65) : runF (E65) tab2 (fun _ => false) p65 r65 Proofs.Tryz.f65 (L65) a = F65 a := by kernel_rfl
theorem ok65 : OK Proofs.Tryz.prog 65 (mkE p65 r65 false (F65)) :=
  fn_ok tab_ok2 (envL_ok (l := []) OKs.nil) mixed2 (ann := (fun _ => false)) (L := L65) (fn := Proofs.Tryz.f65) (c := bodyC Proofs.Tryz.f65) (ls := []) Proofs.Tryz.func65 (by kernel_rfl) (by kernel_rfl) (by kernel_rfl) (by kernel_rfl)
    LoopsP.nil (e65)
/-! laws.toDevice -/
def p103 : List SP := [.t .device]
def r103 : List SP := [.t .device]
noncomputable def F103 (f65 : Place × Unit → Option (Place × Unit)) (a : Device × Unit) : Option (Device × Unit) :=
  (f65 (a.1.At, ())).bind fun x1 => some ((⟨a.1.Name, a.1.Kind, a.1.Line, ⟨x1.1.X, x1.1.Y⟩, a.1.Heading, a.1.Tilt, a.1.Most⟩ : Device), ())
def E103 (f65 : Place × Unit → Option (Place × Unit)) : Env := envL [(65, mkE p65 r65 false f65)]
noncomputable def L103 (f65 : Place × Unit → Option (Place × Unit)) : LEnv (densS (muts p103 ++ r103)) := lenv []
theorem e103 (f65 : Place × Unit → Option (Place × Unit)) (a : densS p103) : runF (E103 f65) tab2 (fun _ => false) p103 r103 Proofs.Tryz.f103 (L103 f65) a = F103 f65 a := by kernel_rfl
theorem ok103 {f65 : Place × Unit → Option (Place × Unit)} (h65 : OK Proofs.Tryz.prog 65 (mkE p65 r65 false f65)) : OK Proofs.Tryz.prog 103 (mkE p103 r103 false (F103 f65)) :=
  fn_ok tab_ok2 (envL_ok (l := [(65, mkE p65 r65 false f65)]) (OKs.cons h65 OKs.nil)) mixed2 (ann := (fun _ => false)) (L := L103 f65) (fn := Proofs.Tryz.f103) (c := bodyC Proofs.Tryz.f103) (ls := []) Proofs.Tryz.func103 (by kernel_rfl) (by kernel_rfl) (by kernel_rfl) (by kernel_rfl)
    LoopsP.nil (e103 f65)
/-! laws.toDeviceS -/
def p51 : List SP := [.one (.r .device)]
def r51 : List SP := [.one (.o 0 .device)]
def q51_0 : List SP := pat 23 0 [(0, .one (.r .device)), (3, .one (.o 5000001 .device)), (4, .one (.int .i64))]
noncomputable def s51_0 (f103 : Device × Unit → Option (Device × Unit)) (t1 : List Device × List Device × Int × Unit) (rec K : List Device × List Device × Int × Unit → Option (List Device × Unit)) : Option (List Device × Unit) :=
  cond (decide (t1.2.2.1 < (Int.ofNat (List.length t1.1)))) (rdL t1.1 t1.2.2.1 fun d2 => (f103 (d2, ())).bind fun x3 => rdL t1.2.1 t1.2.2.1 fun _ => (t1.2.1[(Int.toNat t1.2.2.1)]?).bind fun d4 => rec (t1.1, (List.set t1.2.1 (Int.toNat t1.2.2.1) x3.1), (w64 (t1.2.2.1 + 1)), ())) (K (t1.1, t1.2.1, t1.2.2.1, ()))
noncomputable def F51 (f103 : Device × Unit → Option (Device × Unit)) (a : List Device × Unit) : Option (List Device × Unit) :=
  okIf (0 ≤ (Int.ofNat (List.length a.1))) (capK (Int.toNat (Int.ofNat (List.length a.1))) (iterF (s51_0 f103) fuel (a.1, (List.replicate (Int.toNat (Int.ofNat (List.length a.1))) (Ty.zero .device)), 0, ()) fun t5 => some (t5.2.1, ())))
def E51 (f103 : Device × Unit → Option (Device × Unit)) : Env := envL [(103, mkE p103 r103 false f103)]
noncomputable def L51 (f103 : Device × Unit → Option (Device × Unit)) : LEnv (densS (muts p51 ++ r51)) := lenv [(0, loopL (R := densS (muts p51 ++ r51)) q51_0 (s51_0 f103))]
theorem e51_0 (f103 : Device × Unit → Option (Device × Unit)) (X : Nat → St → Option (densS (muts p51 ++ r51))) (rec K : densS q51_0 → Option (densS (muts p51 ++ r51))) (t : densS q51_0) :
    ev (E51 f103) tab2 (fun _ => false) (L51 f103) (retK tab2 p51 r51 Proofs.Tryz.f51.results.toList) (loopC Proofs.Tryz.f51 0) (fun i s => cond (Nat.beq i 0) (decK 100 q51_0 s K) (X i s)) (fun s => decK 100 q51_0 s rec) (enc q51_0 t) = s51_0 f103 t rec K := by kernel_rfl
theorem e51 (f103 : Device × Unit → Option (Device × Unit)) (a : densS p51) : runF (E51 f103) tab2 (fun _ => false) p51 r51 Proofs.Tryz.f51 (L51 f103) a = F51 f103 a := by kernel_rfl
theorem ok51 {f103 : Device × Unit → Option (Device × Unit)} (h103 : OK Proofs.Tryz.prog 103 (mkE p103 r103 false f103)) : OK Proofs.Tryz.prog 51 (mkE p51 r51 false (F51 f103)) :=
  fn_ok tab_ok2 (envL_ok (l := [(103, mkE p103 r103 false f103)]) (OKs.cons h103 OKs.nil)) mixed2 (ann := (fun _ => false)) (L := L51 f103) (fn := Proofs.Tryz.f51) (c := bodyC Proofs.Tryz.f51) (ls := [(0, loopC Proofs.Tryz.f51 0)]) Proofs.Tryz.func51 (by kernel_rfl) (by kernel_rfl) (by kernel_rfl) (by kernel_rfl)
    (LoopsP.cons q51_0 (s51_0 f103) rfl (e51_0 f103) LoopsP.nil) (e51 f103)
/-! laws.toCue -/
def p104 : List SP := [.t .cue]
def r104 : List SP := [.t .cue]
noncomputable def F104 (a : Cue × Unit) : Option (Cue × Unit) :=
  some (a.1, ())
def E104 : Env := envL []
noncomputable def L104 : LEnv (densS (muts p104 ++ r104)) := lenv []
theorem e104 (a : densS p104) : runF (E104) tab2 (fun _ => false) p104 r104 Proofs.Tryz.f104 (L104) a = F104 a := by kernel_rfl
theorem ok104 : OK Proofs.Tryz.prog 104 (mkE p104 r104 false (F104)) :=
  fn_ok tab_ok2 (envL_ok (l := []) OKs.nil) mixed2 (ann := (fun _ => false)) (L := L104) (fn := Proofs.Tryz.f104) (c := bodyC Proofs.Tryz.f104) (ls := []) Proofs.Tryz.func104 (by kernel_rfl) (by kernel_rfl) (by kernel_rfl) (by kernel_rfl)
    LoopsP.nil (e104)
/-! laws.toCueS -/
def p52 : List SP := [.one (.r .cue)]
def r52 : List SP := [.one (.o 0 .cue)]
def q52_0 : List SP := pat 23 0 [(0, .one (.r .cue)), (3, .one (.o 5000001 .cue)), (4, .one (.int .i64))]
noncomputable def s52_0 (f104 : Cue × Unit → Option (Cue × Unit)) (t1 : List Cue × List Cue × Int × Unit) (rec K : List Cue × List Cue × Int × Unit → Option (List Cue × Unit)) : Option (List Cue × Unit) :=
  cond (decide (t1.2.2.1 < (Int.ofNat (List.length t1.1)))) (rdL t1.1 t1.2.2.1 fun d2 => (f104 (d2, ())).bind fun x3 => rdL t1.2.1 t1.2.2.1 fun _ => (t1.2.1[(Int.toNat t1.2.2.1)]?).bind fun d4 => rec (t1.1, (List.set t1.2.1 (Int.toNat t1.2.2.1) x3.1), (w64 (t1.2.2.1 + 1)), ())) (K (t1.1, t1.2.1, t1.2.2.1, ()))
noncomputable def F52 (f104 : Cue × Unit → Option (Cue × Unit)) (a : List Cue × Unit) : Option (List Cue × Unit) :=
  okIf (0 ≤ (Int.ofNat (List.length a.1))) (capK (Int.toNat (Int.ofNat (List.length a.1))) (iterF (s52_0 f104) fuel (a.1, (List.replicate (Int.toNat (Int.ofNat (List.length a.1))) (Ty.zero .cue)), 0, ()) fun t5 => some (t5.2.1, ())))
def E52 (f104 : Cue × Unit → Option (Cue × Unit)) : Env := envL [(104, mkE p104 r104 false f104)]
noncomputable def L52 (f104 : Cue × Unit → Option (Cue × Unit)) : LEnv (densS (muts p52 ++ r52)) := lenv [(0, loopL (R := densS (muts p52 ++ r52)) q52_0 (s52_0 f104))]
theorem e52_0 (f104 : Cue × Unit → Option (Cue × Unit)) (X : Nat → St → Option (densS (muts p52 ++ r52))) (rec K : densS q52_0 → Option (densS (muts p52 ++ r52))) (t : densS q52_0) :
    ev (E52 f104) tab2 (fun _ => false) (L52 f104) (retK tab2 p52 r52 Proofs.Tryz.f52.results.toList) (loopC Proofs.Tryz.f52 0) (fun i s => cond (Nat.beq i 0) (decK 100 q52_0 s K) (X i s)) (fun s => decK 100 q52_0 s rec) (enc q52_0 t) = s52_0 f104 t rec K := by kernel_rfl
theorem e52 (f104 : Cue × Unit → Option (Cue × Unit)) (a : densS p52) : runF (E52 f104) tab2 (fun _ => false) p52 r52 Proofs.Tryz.f52 (L52 f104) a = F52 f104 a := by kernel_rfl
theorem ok52 {f104 : Cue × Unit → Option (Cue × Unit)} (h104 : OK Proofs.Tryz.prog 104 (mkE p104 r104 false f104)) : OK Proofs.Tryz.prog 52 (mkE p52 r52 false (F52 f104)) :=
  fn_ok tab_ok2 (envL_ok (l := [(104, mkE p104 r104 false f104)]) (OKs.cons h104 OKs.nil)) mixed2 (ann := (fun _ => false)) (L := L52 f104) (fn := Proofs.Tryz.f52) (c := bodyC Proofs.Tryz.f52) (ls := [(0, loopC Proofs.Tryz.f52 0)]) Proofs.Tryz.func52 (by kernel_rfl) (by kernel_rfl) (by kernel_rfl) (by kernel_rfl)
    (LoopsP.cons q52_0 (s52_0 f104) rfl (e52_0 f104) LoopsP.nil) (e52 f104)
/-! laws.toGust -/
def p105 : List SP := [.t .gust]
def r105 : List SP := [.t .gust]
noncomputable def F105 (f65 : Place × Unit → Option (Place × Unit)) (a : Gust × Unit) : Option (Gust × Unit) :=
  (f65 (a.1.Drift, ())).bind fun x1 => some ((⟨a.1.From, ⟨x1.1.X, x1.1.Y⟩⟩ : Gust), ())
def E105 (f65 : Place × Unit → Option (Place × Unit)) : Env := envL [(65, mkE p65 r65 false f65)]
noncomputable def L105 (f65 : Place × Unit → Option (Place × Unit)) : LEnv (densS (muts p105 ++ r105)) := lenv []
theorem e105 (f65 : Place × Unit → Option (Place × Unit)) (a : densS p105) : runF (E105 f65) tab2 (fun _ => false) p105 r105 Proofs.Tryz.f105 (L105 f65) a = F105 f65 a := by kernel_rfl
theorem ok105 {f65 : Place × Unit → Option (Place × Unit)} (h65 : OK Proofs.Tryz.prog 65 (mkE p65 r65 false f65)) : OK Proofs.Tryz.prog 105 (mkE p105 r105 false (F105 f65)) :=
  fn_ok tab_ok2 (envL_ok (l := [(65, mkE p65 r65 false f65)]) (OKs.cons h65 OKs.nil)) mixed2 (ann := (fun _ => false)) (L := L105 f65) (fn := Proofs.Tryz.f105) (c := bodyC Proofs.Tryz.f105) (ls := []) Proofs.Tryz.func105 (by kernel_rfl) (by kernel_rfl) (by kernel_rfl) (by kernel_rfl)
    LoopsP.nil (e105 f65)
/-! laws.toGustS -/
def p53 : List SP := [.one (.r .gust)]
def r53 : List SP := [.one (.o 0 .gust)]
def q53_0 : List SP := pat 23 0 [(0, .one (.r .gust)), (3, .one (.o 5000001 .gust)), (4, .one (.int .i64))]
noncomputable def s53_0 (f105 : Gust × Unit → Option (Gust × Unit)) (t1 : List Gust × List Gust × Int × Unit) (rec K : List Gust × List Gust × Int × Unit → Option (List Gust × Unit)) : Option (List Gust × Unit) :=
  cond (decide (t1.2.2.1 < (Int.ofNat (List.length t1.1)))) (rdL t1.1 t1.2.2.1 fun d2 => (f105 (d2, ())).bind fun x3 => rdL t1.2.1 t1.2.2.1 fun _ => (t1.2.1[(Int.toNat t1.2.2.1)]?).bind fun d4 => rec (t1.1, (List.set t1.2.1 (Int.toNat t1.2.2.1) x3.1), (w64 (t1.2.2.1 + 1)), ())) (K (t1.1, t1.2.1, t1.2.2.1, ()))
noncomputable def F53 (f105 : Gust × Unit → Option (Gust × Unit)) (a : List Gust × Unit) : Option (List Gust × Unit) :=
  okIf (0 ≤ (Int.ofNat (List.length a.1))) (capK (Int.toNat (Int.ofNat (List.length a.1))) (iterF (s53_0 f105) fuel (a.1, (List.replicate (Int.toNat (Int.ofNat (List.length a.1))) (Ty.zero .gust)), 0, ()) fun t5 => some (t5.2.1, ())))
def E53 (f105 : Gust × Unit → Option (Gust × Unit)) : Env := envL [(105, mkE p105 r105 false f105)]
noncomputable def L53 (f105 : Gust × Unit → Option (Gust × Unit)) : LEnv (densS (muts p53 ++ r53)) := lenv [(0, loopL (R := densS (muts p53 ++ r53)) q53_0 (s53_0 f105))]
theorem e53_0 (f105 : Gust × Unit → Option (Gust × Unit)) (X : Nat → St → Option (densS (muts p53 ++ r53))) (rec K : densS q53_0 → Option (densS (muts p53 ++ r53))) (t : densS q53_0) :
    ev (E53 f105) tab2 (fun _ => false) (L53 f105) (retK tab2 p53 r53 Proofs.Tryz.f53.results.toList) (loopC Proofs.Tryz.f53 0) (fun i s => cond (Nat.beq i 0) (decK 100 q53_0 s K) (X i s)) (fun s => decK 100 q53_0 s rec) (enc q53_0 t) = s53_0 f105 t rec K := by kernel_rfl
theorem e53 (f105 : Gust × Unit → Option (Gust × Unit)) (a : densS p53) : runF (E53 f105) tab2 (fun _ => false) p53 r53 Proofs.Tryz.f53 (L53 f105) a = F53 f105 a := by kernel_rfl
theorem ok53 {f105 : Gust × Unit → Option (Gust × Unit)} (h105 : OK Proofs.Tryz.prog 105 (mkE p105 r105 false f105)) : OK Proofs.Tryz.prog 53 (mkE p53 r53 false (F53 f105)) :=
  fn_ok tab_ok2 (envL_ok (l := [(105, mkE p105 r105 false f105)]) (OKs.cons h105 OKs.nil)) mixed2 (ann := (fun _ => false)) (L := L53 f105) (fn := Proofs.Tryz.f53) (c := bodyC Proofs.Tryz.f53) (ls := [(0, loopC Proofs.Tryz.f53 0)]) Proofs.Tryz.func53 (by kernel_rfl) (by kernel_rfl) (by kernel_rfl) (by kernel_rfl)
    (LoopsP.cons q53_0 (s53_0 f105) rfl (e53_0 f105) LoopsP.nil) (e53 f105)
/-! laws.toShow -/
def p13 : List SP := [.agg [.r .device, .r .cue, .r .gust, .int .i64]]
def r13 : List SP := [.agg [.o 0 .device, .o 1 .cue, .o 2 .gust, .int .i64]]
noncomputable def F13 (f51 : List Device × Unit → Option (List Device × Unit)) (f52 : List Cue × Unit → Option (List Cue × Unit)) (f53 : List Gust × Unit → Option (List Gust × Unit)) (a : (List Device × List Cue × List Gust × Int × Unit) × Unit) : Option ((List Device × List Cue × List Gust × Int × Unit) × Unit) :=
  (f51 (a.1.1, ())).bind fun x1 => (f52 (a.1.2.1, ())).bind fun x2 => (f53 (a.1.2.2.1, ())).bind fun x3 => some ((x1.1, x2.1, x3.1, a.1.2.2.2.1, ()), ())
def E13 (f51 : List Device × Unit → Option (List Device × Unit)) (f52 : List Cue × Unit → Option (List Cue × Unit)) (f53 : List Gust × Unit → Option (List Gust × Unit)) : Env := envL [(51, mkE p51 r51 false f51), (52, mkE p52 r52 false f52), (53, mkE p53 r53 false f53)]
noncomputable def L13 (f51 : List Device × Unit → Option (List Device × Unit)) (f52 : List Cue × Unit → Option (List Cue × Unit)) (f53 : List Gust × Unit → Option (List Gust × Unit)) : LEnv (densS (muts p13 ++ r13)) := lenv []
theorem e13 (f51 : List Device × Unit → Option (List Device × Unit)) (f52 : List Cue × Unit → Option (List Cue × Unit)) (f53 : List Gust × Unit → Option (List Gust × Unit)) (a : densS p13) : runF (E13 f51 f52 f53) tab2 (fun _ => false) p13 r13 Proofs.Tryz.f13 (L13 f51 f52 f53) a = F13 f51 f52 f53 a := by kernel_rfl
theorem ok13 {f51 : List Device × Unit → Option (List Device × Unit)} {f52 : List Cue × Unit → Option (List Cue × Unit)} {f53 : List Gust × Unit → Option (List Gust × Unit)} (h51 : OK Proofs.Tryz.prog 51 (mkE p51 r51 false f51)) (h52 : OK Proofs.Tryz.prog 52 (mkE p52 r52 false f52)) (h53 : OK Proofs.Tryz.prog 53 (mkE p53 r53 false f53)) : OK Proofs.Tryz.prog 13 (mkE p13 r13 false (F13 f51 f52 f53)) :=
  fn_ok tab_ok2 (envL_ok (l := [(51, mkE p51 r51 false f51), (52, mkE p52 r52 false f52), (53, mkE p53 r53 false f53)]) (OKs.cons h51 (OKs.cons h52 (OKs.cons h53 OKs.nil)))) mixed2 (ann := (fun _ => false)) (L := L13 f51 f52 f53) (fn := Proofs.Tryz.f13) (c := bodyC Proofs.Tryz.f13) (ls := []) Proofs.Tryz.func13 (by kernel_rfl) (by kernel_rfl) (by kernel_rfl) (by kernel_rfl)
    LoopsP.nil (e13 f51 f52 f53)
/-! spec.IsName -/
def p165 : List SP := [.one (.str)]
def r165 : List SP := [.one (.bool)]
def q165_0 : List SP := pat 50 0 [(0, .one (.str)), (3, .one (.int .i64))]
noncomputable def s165_0 (t1 : Str × Int × Unit) (rec K : Str × Int × Unit → Option (Bool × Unit)) : Option (Bool × Unit) :=
  cond (decide (t1.2.1 < (Int.ofNat (List.length t1.1)))) (rdL t1.1 t1.2.1 fun d2 => cond (decide ((Int.ofNat (UInt8.toNat d2)) ≥ 97)) (rdL t1.1 t1.2.1 fun d3 => rdL t1.1 t1.2.1 fun d4 => cond (decide ((Int.ofNat (UInt8.toNat d4)) ≥ 48)) (rdL t1.1 t1.2.1 fun d5 => cond (!(decide ((Int.ofNat (UInt8.toNat d3)) ≤ 122))) (cond (!(!(decide ((Int.ofNat (UInt8.toNat d5)) ≤ 57)))) (cond (decide (t1.2.1 = 0)) (some (false, ())) (rec (t1.1, (w64 (t1.2.1 + 1)), ()))) (some (false, ()))) (rec (t1.1, (w64 (t1.2.1 + 1)), ()))) (cond (!(decide ((Int.ofNat (UInt8.toNat d3)) ≤ 122))) (some (false, ())) (rec (t1.1, (w64 (t1.2.1 + 1)), ())))) (rdL t1.1 t1.2.1 fun d6 => cond (decide ((Int.ofNat (UInt8.toNat d6)) ≥ 48)) (rdL t1.1 t1.2.1 fun d7 => cond (!(!(decide ((Int.ofNat (UInt8.toNat d7)) ≤ 57)))) (cond (decide (t1.2.1 = 0)) (some (false, ())) (rec (t1.1, (w64 (t1.2.1 + 1)), ()))) (some (false, ()))) (some (false, ())))) (K (t1.1, t1.2.1, ()))
noncomputable def F165 (a : Str × Unit) : Option (Bool × Unit) :=
  iterF (s165_0) fuel (a.1, 0, ()) fun t8 => cond (decide ((Int.ofNat (List.length t8.1)) > 0)) (some ((decide ((Int.ofNat (List.length t8.1)) ≤ 8)), ())) (some (false, ()))
def E165 : Env := envL []
noncomputable def L165 : LEnv (densS (muts p165 ++ r165)) := lenv [(0, loopL (R := densS (muts p165 ++ r165)) q165_0 (s165_0))]
theorem e165_0 (X : Nat → St → Option (densS (muts p165 ++ r165))) (rec K : densS q165_0 → Option (densS (muts p165 ++ r165))) (t : densS q165_0) :
    ev (E165) tab2 (fun _ => false) (L165) (retK tab2 p165 r165 Proofs.Tryz.f165.results.toList) (loopC Proofs.Tryz.f165 0) (fun i s => cond (Nat.beq i 0) (decK 100 q165_0 s K) (X i s)) (fun s => decK 100 q165_0 s rec) (enc q165_0 t) = s165_0 t rec K := by kernel_rfl
theorem e165 (a : densS p165) : runF (E165) tab2 (fun _ => false) p165 r165 Proofs.Tryz.f165 (L165) a = F165 a := by kernel_rfl
theorem ok165 : OK Proofs.Tryz.prog 165 (mkE p165 r165 false (F165)) :=
  fn_ok tab_ok2 (envL_ok (l := []) OKs.nil) mixed2 (ann := (fun _ => false)) (L := L165) (fn := Proofs.Tryz.f165) (c := bodyC Proofs.Tryz.f165) (ls := [(0, loopC Proofs.Tryz.f165 0)]) Proofs.Tryz.func165 (by kernel_rfl) (by kernel_rfl) (by kernel_rfl) (by kernel_rfl)
    (LoopsP.cons q165_0 (s165_0) rfl (e165_0) LoopsP.nil) (e165)
/-! spec.IsHeading -/
def p131 : List SP := [.one (.int .i64)]
def r131 : List SP := [.one (.bool)]
noncomputable def F131 (a : Int × Unit) : Option (Bool × Unit) :=
  cond (decide (a.1 ≥ 0)) (some ((decide (a.1 ≤ 3)), ())) (some (false, ()))
def E131 : Env := envL []
noncomputable def L131 : LEnv (densS (muts p131 ++ r131)) := lenv []
theorem e131 (a : densS p131) : runF (E131) tab2 (fun _ => false) p131 r131 Proofs.Tryz.f131 (L131) a = F131 a := by kernel_rfl
theorem ok131 : OK Proofs.Tryz.prog 131 (mkE p131 r131 false (F131)) :=
  fn_ok tab_ok2 (envL_ok (l := []) OKs.nil) mixed2 (ann := (fun _ => false)) (L := L131) (fn := Proofs.Tryz.f131) (c := bodyC Proofs.Tryz.f131) (ls := []) Proofs.Tryz.func131 (by kernel_rfl) (by kernel_rfl) (by kernel_rfl) (by kernel_rfl)
    LoopsP.nil (e131)
/-! spec.IsJet -/
def p98 : List SP := [.t .jet]
def r98 : List SP := [.one (.bool)]
noncomputable def F98 (f95 : Int × Int × Int × Unit → Option (Bool × Unit)) (f131 : Int × Unit → Option (Bool × Unit)) (a : Jet × Unit) : Option (Bool × Unit) :=
  (f95 (a.1.At.X, (-1024), 1024, ())).bind fun x1 => cond x1.1 ((f95 (a.1.At.Y, (-1024), 1024, ())).bind fun x2 => cond x2.1 ((f131 (a.1.Heading, ())).bind fun x3 => cond x3.1 ((f95 (a.1.Tilt, 0, 16, ())).bind fun x4 => cond x4.1 ((f95 (a.1.Lift, 1, 32, ())).bind fun x5 => some (x5.1, ())) (some (false, ()))) (some (false, ()))) (some (false, ()))) (some (false, ()))
def E98 (f95 : Int × Int × Int × Unit → Option (Bool × Unit)) (f131 : Int × Unit → Option (Bool × Unit)) : Env := envL [(95, mkE p95 r95 false f95), (131, mkE p131 r131 false f131)]
noncomputable def L98 (f95 : Int × Int × Int × Unit → Option (Bool × Unit)) (f131 : Int × Unit → Option (Bool × Unit)) : LEnv (densS (muts p98 ++ r98)) := lenv []
theorem e98 (f95 : Int × Int × Int × Unit → Option (Bool × Unit)) (f131 : Int × Unit → Option (Bool × Unit)) (a : densS p98) : runF (E98 f95 f131) tab2 (fun _ => false) p98 r98 Proofs.Tryz.f98 (L98 f95 f131) a = F98 f95 f131 a := by kernel_rfl
theorem ok98 {f95 : Int × Int × Int × Unit → Option (Bool × Unit)} {f131 : Int × Unit → Option (Bool × Unit)} (h95 : OK Proofs.Tryz.prog 95 (mkE p95 r95 false f95)) (h131 : OK Proofs.Tryz.prog 131 (mkE p131 r131 false f131)) : OK Proofs.Tryz.prog 98 (mkE p98 r98 false (F98 f95 f131)) :=
  fn_ok tab_ok2 (envL_ok (l := [(95, mkE p95 r95 false f95), (131, mkE p131 r131 false f131)]) (OKs.cons h95 (OKs.cons h131 OKs.nil))) mixed2 (ann := (fun _ => false)) (L := L98 f95 f131) (fn := Proofs.Tryz.f98) (c := bodyC Proofs.Tryz.f98) (ls := []) Proofs.Tryz.func98 (by kernel_rfl) (by kernel_rfl) (by kernel_rfl) (by kernel_rfl)
    LoopsP.nil (e98 f95 f131)
/-! spec.l6Jet -/
def p167 : List SP := [.t .device]
def r167 : List SP := [.one (.bool)]
noncomputable def F167 (f98 : Jet × Unit → Option (Bool × Unit)) (a : Device × Unit) : Option (Bool × Unit) :=
  (f98 ((⟨⟨a.1.At.X, a.1.At.Y⟩, a.1.Heading, a.1.Tilt, 1⟩ : Jet), ())).bind fun x1 => some (x1.1, ())
def E167 (f98 : Jet × Unit → Option (Bool × Unit)) : Env := envL [(98, mkE p98 r98 false f98)]
noncomputable def L167 (f98 : Jet × Unit → Option (Bool × Unit)) : LEnv (densS (muts p167 ++ r167)) := lenv []
theorem e167 (f98 : Jet × Unit → Option (Bool × Unit)) (a : densS p167) : runF (E167 f98) tab2 (fun _ => false) p167 r167 Proofs.Tryz.f167 (L167 f98) a = F167 f98 a := by kernel_rfl
theorem ok167 {f98 : Jet × Unit → Option (Bool × Unit)} (h98 : OK Proofs.Tryz.prog 98 (mkE p98 r98 false f98)) : OK Proofs.Tryz.prog 167 (mkE p167 r167 false (F167 f98)) :=
  fn_ok tab_ok2 (envL_ok (l := [(98, mkE p98 r98 false f98)]) (OKs.cons h98 OKs.nil)) mixed2 (ann := (fun _ => false)) (L := L167 f98) (fn := Proofs.Tryz.f167) (c := bodyC Proofs.Tryz.f167) (ls := []) Proofs.Tryz.func167 (by kernel_rfl) (by kernel_rfl) (by kernel_rfl) (by kernel_rfl)
    LoopsP.nil (e167 f98)
/-! spec.IsPlace -/
def p113 : List SP := [.t .place]
def r113 : List SP := [.one (.bool)]
noncomputable def F113 (f154 : Int × Unit → Option (Bool × Unit)) (a : Place × Unit) : Option (Bool × Unit) :=
  (f154 (a.1.X, ())).bind fun x1 => cond x1.1 ((f154 (a.1.Y, ())).bind fun x2 => some (x2.1, ())) (some (false, ()))
def E113 (f154 : Int × Unit → Option (Bool × Unit)) : Env := envL [(154, mkE p154 r154 false f154)]
noncomputable def L113 (f154 : Int × Unit → Option (Bool × Unit)) : LEnv (densS (muts p113 ++ r113)) := lenv []
theorem e113 (f154 : Int × Unit → Option (Bool × Unit)) (a : densS p113) : runF (E113 f154) tab2 (fun _ => false) p113 r113 Proofs.Tryz.f113 (L113 f154) a = F113 f154 a := by kernel_rfl
theorem ok113 {f154 : Int × Unit → Option (Bool × Unit)} (h154 : OK Proofs.Tryz.prog 154 (mkE p154 r154 false f154)) : OK Proofs.Tryz.prog 113 (mkE p113 r113 false (F113 f154)) :=
  fn_ok tab_ok2 (envL_ok (l := [(154, mkE p154 r154 false f154)]) (OKs.cons h154 OKs.nil)) mixed2 (ann := (fun _ => false)) (L := L113 f154) (fn := Proofs.Tryz.f113) (c := bodyC Proofs.Tryz.f113) (ls := []) Proofs.Tryz.func113 (by kernel_rfl) (by kernel_rfl) (by kernel_rfl) (by kernel_rfl)
    LoopsP.nil (e113 f154)
/-! spec.IsDevice -/
def p137 : List SP := [.t .device]
def r137 : List SP := [.one (.bool)]
noncomputable def F137 (f165 : Str × Unit → Option (Bool × Unit)) (f166 : Int × Unit → Option (Bool × Unit)) (f167 : Device × Unit → Option (Bool × Unit)) (f95 : Int × Int × Int × Unit → Option (Bool × Unit)) (f113 : Place × Unit → Option (Bool × Unit)) (a : Device × Unit) : Option (Bool × Unit) :=
  (f165 (a.1.Line, ())).bind fun x1 => cond x1.1 ((f165 (a.1.Name, ())).bind fun x2 => cond (!x2.1) (some (false, ())) (cond (decide (a.1.Kind = 1)) ((f166 (a.1.Most, ())).bind fun x3 => cond x3.1 (some ((decide (a.1.Name = a.1.Name) && (decide (a.1.Kind = a.1.Kind) && (decide (a.1.Line = []) && (decide (a.1.At.X = 0) && (decide (a.1.At.Y = 0) && (decide (a.1.Heading = 0) && (decide (a.1.Tilt = 0) && (decide (a.1.Most = a.1.Most) && true)))))))), ())) (some (false, ()))) (cond (decide (a.1.Kind = 2)) (cond (!decide (a.1.Line = a.1.Name)) ((f167 (a.1, ())).bind fun x4 => cond x4.1 ((f95 (a.1.Most, 0, 32, ())).bind fun x5 => some (x5.1, ())) (some (false, ()))) (some (false, ()))) (cond (decide (a.1.Kind = 3)) (cond (!decide (a.1.Line = a.1.Name)) ((f113 (a.1.At, ())).bind fun x6 => cond x6.1 (some ((decide (a.1.Name = a.1.Name) && (decide (a.1.Kind = a.1.Kind) && (decide (a.1.Line = a.1.Line) && (decide (a.1.At.X = a.1.At.X) && (decide (a.1.At.Y = a.1.At.Y) && (decide (a.1.Heading = 0) && (decide (a.1.Tilt = 0) && (decide (a.1.Most = 0) && true)))))))), ())) (some (false, ()))) (some (false, ()))) (some (false, ())))))) ((f165 (a.1.Name, ())).bind fun x7 => cond (!x7.1) (some (false, ())) (cond (decide (a.1.Kind = 1)) ((f166 (a.1.Most, ())).bind fun x8 => cond x8.1 (some ((decide (a.1.Name = a.1.Name) && (decide (a.1.Kind = a.1.Kind) && (decide (a.1.Line = []) && (decide (a.1.At.X = 0) && (decide (a.1.At.Y = 0) && (decide (a.1.Heading = 0) && (decide (a.1.Tilt = 0) && (decide (a.1.Most = a.1.Most) && true)))))))), ())) (some (false, ()))) (cond (decide (a.1.Kind = 2)) (some (false, ())) (cond (decide (a.1.Kind = 3)) (some (false, ())) (some (false, ()))))))
def E137 (f165 : Str × Unit → Option (Bool × Unit)) (f166 : Int × Unit → Option (Bool × Unit)) (f167 : Device × Unit → Option (Bool × Unit)) (f95 : Int × Int × Int × Unit → Option (Bool × Unit)) (f113 : Place × Unit → Option (Bool × Unit)) : Env := envL [(165, mkE p165 r165 false f165), (166, mkE p166 r166 false f166), (167, mkE p167 r167 false f167), (95, mkE p95 r95 false f95), (113, mkE p113 r113 false f113)]
noncomputable def L137 (f165 : Str × Unit → Option (Bool × Unit)) (f166 : Int × Unit → Option (Bool × Unit)) (f167 : Device × Unit → Option (Bool × Unit)) (f95 : Int × Int × Int × Unit → Option (Bool × Unit)) (f113 : Place × Unit → Option (Bool × Unit)) : LEnv (densS (muts p137 ++ r137)) := lenv []
theorem e137 (f165 : Str × Unit → Option (Bool × Unit)) (f166 : Int × Unit → Option (Bool × Unit)) (f167 : Device × Unit → Option (Bool × Unit)) (f95 : Int × Int × Int × Unit → Option (Bool × Unit)) (f113 : Place × Unit → Option (Bool × Unit)) (a : densS p137) : runF (E137 f165 f166 f167 f95 f113) tab2 (fun _ => false) p137 r137 Proofs.Tryz.f137 (L137 f165 f166 f167 f95 f113) a = F137 f165 f166 f167 f95 f113 a := by kernel_rfl
theorem ok137 {f165 : Str × Unit → Option (Bool × Unit)} {f166 : Int × Unit → Option (Bool × Unit)} {f167 : Device × Unit → Option (Bool × Unit)} {f95 : Int × Int × Int × Unit → Option (Bool × Unit)} {f113 : Place × Unit → Option (Bool × Unit)} (h165 : OK Proofs.Tryz.prog 165 (mkE p165 r165 false f165)) (h166 : OK Proofs.Tryz.prog 166 (mkE p166 r166 false f166)) (h167 : OK Proofs.Tryz.prog 167 (mkE p167 r167 false f167)) (h95 : OK Proofs.Tryz.prog 95 (mkE p95 r95 false f95)) (h113 : OK Proofs.Tryz.prog 113 (mkE p113 r113 false f113)) : OK Proofs.Tryz.prog 137 (mkE p137 r137 false (F137 f165 f166 f167 f95 f113)) :=
  fn_ok tab_ok2 (envL_ok (l := [(165, mkE p165 r165 false f165), (166, mkE p166 r166 false f166), (167, mkE p167 r167 false f167), (95, mkE p95 r95 false f95), (113, mkE p113 r113 false f113)]) (OKs.cons h165 (OKs.cons h166 (OKs.cons h167 (OKs.cons h95 (OKs.cons h113 OKs.nil)))))) mixed2 (ann := (fun _ => false)) (L := L137 f165 f166 f167 f95 f113) (fn := Proofs.Tryz.f137) (c := bodyC Proofs.Tryz.f137) (ls := []) Proofs.Tryz.func137 (by kernel_rfl) (by kernel_rfl) (by kernel_rfl) (by kernel_rfl)
    LoopsP.nil (e137 f165 f166 f167 f95 f113)
/-! spec.FindDevice -/
def p170 : List SP := [.one (.r .device), .one (.str)]
def r170 : List SP := [.one (.int .i64)]
def q170_0 : List SP := pat 20 0 [(1, .one (.str)), (7, .one (.r .device)), (8, .one (.int .i64)), (9, .one (.int .i64))]
noncomputable def s170_0 (t1 : Str × List Device × Int × Int × Unit) (rec K : Str × List Device × Int × Int × Unit → Option (Int × Unit)) : Option (Int × Unit) :=
  cond (decide (t1.2.2.2.1 < t1.2.2.1)) (rdL t1.2.1 t1.2.2.2.1 fun d2 => cond (decide (d2.Name = t1.1)) (some (t1.2.2.2.1, ())) (rec (t1.1, t1.2.1, t1.2.2.1, (w64 (t1.2.2.2.1 + 1)), ()))) (K (t1.1, t1.2.1, t1.2.2.1, t1.2.2.2.1, ()))
noncomputable def F170 (a : List Device × Str × Unit) : Option (Int × Unit) :=
  iterF (s170_0) fuel (a.2.1, a.1, (Int.ofNat (List.length a.1)), 0, ()) fun t3 => some ((-1), ())
def E170 : Env := envL []
noncomputable def L170 : LEnv (densS (muts p170 ++ r170)) := lenv [(0, loopL (R := densS (muts p170 ++ r170)) q170_0 (s170_0))]
theorem e170_0 (X : Nat → St → Option (densS (muts p170 ++ r170))) (rec K : densS q170_0 → Option (densS (muts p170 ++ r170))) (t : densS q170_0) :
    ev (E170) tab2 (fun _ => false) (L170) (retK tab2 p170 r170 Proofs.Tryz.f170.results.toList) (loopC Proofs.Tryz.f170 0) (fun i s => cond (Nat.beq i 0) (decK 100 q170_0 s K) (X i s)) (fun s => decK 100 q170_0 s rec) (enc q170_0 t) = s170_0 t rec K := by kernel_rfl
theorem e170 (a : densS p170) : runF (E170) tab2 (fun _ => false) p170 r170 Proofs.Tryz.f170 (L170) a = F170 a := by kernel_rfl
theorem ok170 : OK Proofs.Tryz.prog 170 (mkE p170 r170 false (F170)) :=
  fn_ok tab_ok2 (envL_ok (l := []) OKs.nil) mixed2 (ann := (fun _ => false)) (L := L170) (fn := Proofs.Tryz.f170) (c := bodyC Proofs.Tryz.f170) (ls := [(0, loopC Proofs.Tryz.f170 0)]) Proofs.Tryz.func170 (by kernel_rfl) (by kernel_rfl) (by kernel_rfl) (by kernel_rfl)
    (LoopsP.cons q170_0 (s170_0) rfl (e170_0) LoopsP.nil) (e170)
/-! spec.l6Hangs -/
def p142 : List SP := [.one (.r .device), .t .device]
def r142 : List SP := [.one (.bool)]
noncomputable def F142 (f170 : List Device × Str × Unit → Option (Int × Unit)) (a : List Device × Device × Unit) : Option (Bool × Unit) :=
  (f170 (a.1, a.2.1.Line, ())).bind fun x1 => cond (decide (a.2.1.Kind = 2)) (cond (decide (x1.1 ≥ 0)) (rdL a.1 x1.1 fun d2 => some ((decide (d2.Kind = 1)), ())) (some (false, ()))) (cond (decide (a.2.1.Kind = 3)) (cond (decide (x1.1 ≥ 0)) (rdL a.1 x1.1 fun d3 => some ((decide (d3.Kind = 2)), ())) (some (false, ()))) (some (true, ())))
def E142 (f170 : List Device × Str × Unit → Option (Int × Unit)) : Env := envL [(170, mkE p170 r170 false f170)]
noncomputable def L142 (f170 : List Device × Str × Unit → Option (Int × Unit)) : LEnv (densS (muts p142 ++ r142)) := lenv []
theorem e142 (f170 : List Device × Str × Unit → Option (Int × Unit)) (a : densS p142) : runF (E142 f170) tab2 (fun _ => false) p142 r142 Proofs.Tryz.f142 (L142 f170) a = F142 f170 a := by kernel_rfl
theorem ok142 {f170 : List Device × Str × Unit → Option (Int × Unit)} (h170 : OK Proofs.Tryz.prog 170 (mkE p170 r170 false f170)) : OK Proofs.Tryz.prog 142 (mkE p142 r142 false (F142 f170)) :=
  fn_ok tab_ok2 (envL_ok (l := [(170, mkE p170 r170 false f170)]) (OKs.cons h170 OKs.nil)) mixed2 (ann := (fun _ => false)) (L := L142 f170) (fn := Proofs.Tryz.f142) (c := bodyC Proofs.Tryz.f142) (ls := []) Proofs.Tryz.func142 (by kernel_rfl) (by kernel_rfl) (by kernel_rfl) (by kernel_rfl)
    LoopsP.nil (e142 f170)
/-! spec.IsRig -/
def p92 : List SP := [.one (.r .device)]
def r92 : List SP := [.one (.bool)]
def q92_0 : List SP := pat 40 0 [(0, .one (.r .device)), (5, .one (.r .device)), (6, .one (.int .i64)), (7, .one (.int .i64))]
noncomputable def s92_0 (f137 : Device × Unit → Option (Bool × Unit)) (f142 : List Device × Device × Unit → Option (Bool × Unit)) (t1 : List Device × List Device × Int × Int × Unit) (rec K : List Device × List Device × Int × Int × Unit → Option (Bool × Unit)) : Option (Bool × Unit) :=
  cond (decide (t1.2.2.2.1 < t1.2.2.1)) (rdL t1.2.1 t1.2.2.2.1 fun d2 => (f137 (d2, ())).bind fun x3 => cond (!(!x3.1)) (cond (decide (t1.2.2.2.1 > 0)) (rdL t1.1 (w64 (t1.2.2.2.1 - 1)) fun d4 => cond (!(!Op.bytesLess d4.Name d2.Name)) ((f142 (t1.1, d2, ())).bind fun x5 => cond (!x5.1) (some (false, ())) (rec (t1.1, t1.2.1, t1.2.2.1, (w64 (t1.2.2.2.1 + 1)), ()))) (some (false, ()))) ((f142 (t1.1, d2, ())).bind fun x6 => cond (!x6.1) (some (false, ())) (rec (t1.1, t1.2.1, t1.2.2.1, (w64 (t1.2.2.2.1 + 1)), ())))) (some (false, ()))) (K (t1.1, t1.2.1, t1.2.2.1, t1.2.2.2.1, ()))
noncomputable def F92 (f137 : Device × Unit → Option (Bool × Unit)) (f142 : List Device × Device × Unit → Option (Bool × Unit)) (a : List Device × Unit) : Option (Bool × Unit) :=
  iterF (s92_0 f137 f142) fuel (a.1, a.1, (Int.ofNat (List.length a.1)), 0, ()) fun t7 => some ((decide ((Int.ofNat (List.length t7.1)) ≤ 8)), ())
def E92 (f137 : Device × Unit → Option (Bool × Unit)) (f142 : List Device × Device × Unit → Option (Bool × Unit)) : Env := envL [(137, mkE p137 r137 false f137), (142, mkE p142 r142 false f142)]
noncomputable def L92 (f137 : Device × Unit → Option (Bool × Unit)) (f142 : List Device × Device × Unit → Option (Bool × Unit)) : LEnv (densS (muts p92 ++ r92)) := lenv [(0, loopL (R := densS (muts p92 ++ r92)) q92_0 (s92_0 f137 f142))]
theorem e92_0 (f137 : Device × Unit → Option (Bool × Unit)) (f142 : List Device × Device × Unit → Option (Bool × Unit)) (X : Nat → St → Option (densS (muts p92 ++ r92))) (rec K : densS q92_0 → Option (densS (muts p92 ++ r92))) (t : densS q92_0) :
    ev (E92 f137 f142) tab2 (fun _ => false) (L92 f137 f142) (retK tab2 p92 r92 Proofs.Tryz.f92.results.toList) (loopC Proofs.Tryz.f92 0) (fun i s => cond (Nat.beq i 0) (decK 100 q92_0 s K) (X i s)) (fun s => decK 100 q92_0 s rec) (enc q92_0 t) = s92_0 f137 f142 t rec K := by kernel_rfl
theorem e92 (f137 : Device × Unit → Option (Bool × Unit)) (f142 : List Device × Device × Unit → Option (Bool × Unit)) (a : densS p92) : runF (E92 f137 f142) tab2 (fun _ => false) p92 r92 Proofs.Tryz.f92 (L92 f137 f142) a = F92 f137 f142 a := by kernel_rfl
theorem ok92 {f137 : Device × Unit → Option (Bool × Unit)} {f142 : List Device × Device × Unit → Option (Bool × Unit)} (h137 : OK Proofs.Tryz.prog 137 (mkE p137 r137 false f137)) (h142 : OK Proofs.Tryz.prog 142 (mkE p142 r142 false f142)) : OK Proofs.Tryz.prog 92 (mkE p92 r92 false (F92 f137 f142)) :=
  fn_ok tab_ok2 (envL_ok (l := [(137, mkE p137 r137 false f137), (142, mkE p142 r142 false f142)]) (OKs.cons h137 (OKs.cons h142 OKs.nil))) mixed2 (ann := (fun _ => false)) (L := L92 f137 f142) (fn := Proofs.Tryz.f92) (c := bodyC Proofs.Tryz.f92) (ls := [(0, loopC Proofs.Tryz.f92 0)]) Proofs.Tryz.func92 (by kernel_rfl) (by kernel_rfl) (by kernel_rfl) (by kernel_rfl)
    (LoopsP.cons q92_0 (s92_0 f137 f142) rfl (e92_0 f137 f142) LoopsP.nil) (e92 f137 f142)
/-! spec.IsCue -/
def p143 : List SP := [.t .cue]
def r143 : List SP := [.one (.bool)]
noncomputable def F143 (f95 : Int × Int × Int × Unit → Option (Bool × Unit)) (f165 : Str × Unit → Option (Bool × Unit)) (a : Cue × Unit) : Option (Bool × Unit) :=
  (f95 (a.1.Tick, 0, 64, ())).bind fun x1 => cond x1.1 ((f165 (a.1.Name, ())).bind fun x2 => cond x2.1 ((f95 (a.1.Level, 0, 32, ())).bind fun x3 => cond x3.1 ((f95 (a.1.Ramp, 0, 16, ())).bind fun x4 => some (x4.1, ())) (some (false, ()))) (some (false, ()))) (some (false, ()))
def E143 (f95 : Int × Int × Int × Unit → Option (Bool × Unit)) (f165 : Str × Unit → Option (Bool × Unit)) : Env := envL [(95, mkE p95 r95 false f95), (165, mkE p165 r165 false f165)]
noncomputable def L143 (f95 : Int × Int × Int × Unit → Option (Bool × Unit)) (f165 : Str × Unit → Option (Bool × Unit)) : LEnv (densS (muts p143 ++ r143)) := lenv []
theorem e143 (f95 : Int × Int × Int × Unit → Option (Bool × Unit)) (f165 : Str × Unit → Option (Bool × Unit)) (a : densS p143) : runF (E143 f95 f165) tab2 (fun _ => false) p143 r143 Proofs.Tryz.f143 (L143 f95 f165) a = F143 f95 f165 a := by kernel_rfl
theorem ok143 {f95 : Int × Int × Int × Unit → Option (Bool × Unit)} {f165 : Str × Unit → Option (Bool × Unit)} (h95 : OK Proofs.Tryz.prog 95 (mkE p95 r95 false f95)) (h165 : OK Proofs.Tryz.prog 165 (mkE p165 r165 false f165)) : OK Proofs.Tryz.prog 143 (mkE p143 r143 false (F143 f95 f165)) :=
  fn_ok tab_ok2 (envL_ok (l := [(95, mkE p95 r95 false f95), (165, mkE p165 r165 false f165)]) (OKs.cons h95 (OKs.cons h165 OKs.nil))) mixed2 (ann := (fun _ => false)) (L := L143 f95 f165) (fn := Proofs.Tryz.f143) (c := bodyC Proofs.Tryz.f143) (ls := []) Proofs.Tryz.func143 (by kernel_rfl) (by kernel_rfl) (by kernel_rfl) (by kernel_rfl)
    LoopsP.nil (e143 f95 f165)
/-! spec.CompareCues -/
def p144 : List SP := [.t .cue, .t .cue]
def r144 : List SP := [.one (.int .i64)]
noncomputable def F144 (a : Cue × Cue × Unit) : Option (Int × Unit) :=
  cond (decide (a.1.Tick < a.2.1.Tick)) (cond (decide (a.1.Tick < a.2.1.Tick)) (some ((-1), ())) (cond (decide (a.1.Tick = a.2.1.Tick)) (cond (decide (a.1.Name = a.2.1.Name)) (some (0, ())) (some (1, ()))) (some (1, ())))) (cond (decide (a.1.Tick = a.2.1.Tick)) (cond (Op.bytesLess a.1.Name a.2.1.Name) (some ((-1), ())) (cond (decide (a.1.Tick = a.2.1.Tick)) (cond (decide (a.1.Name = a.2.1.Name)) (some (0, ())) (some (1, ()))) (some (1, ())))) (cond (decide (a.1.Tick = a.2.1.Tick)) (cond (decide (a.1.Name = a.2.1.Name)) (some (0, ())) (some (1, ()))) (some (1, ()))))
def E144 : Env := envL []
noncomputable def L144 : LEnv (densS (muts p144 ++ r144)) := lenv []
theorem e144 (a : densS p144) : runF (E144) tab2 (fun _ => false) p144 r144 Proofs.Tryz.f144 (L144) a = F144 a := by kernel_rfl
theorem ok144 : OK Proofs.Tryz.prog 144 (mkE p144 r144 false (F144)) :=
  fn_ok tab_ok2 (envL_ok (l := []) OKs.nil) mixed2 (ann := (fun _ => false)) (L := L144) (fn := Proofs.Tryz.f144) (c := bodyC Proofs.Tryz.f144) (ls := []) Proofs.Tryz.func144 (by kernel_rfl) (by kernel_rfl) (by kernel_rfl) (by kernel_rfl)
    LoopsP.nil (e144)
/-! spec.IsScore -/
def p93 : List SP := [.one (.r .cue)]
def r93 : List SP := [.one (.bool)]
def q93_0 : List SP := pat 33 0 [(0, .one (.r .cue)), (5, .one (.r .cue)), (6, .one (.int .i64)), (7, .one (.int .i64))]
noncomputable def s93_0 (f143 : Cue × Unit → Option (Bool × Unit)) (f144 : Cue × Cue × Unit → Option (Int × Unit)) (t1 : List Cue × List Cue × Int × Int × Unit) (rec K : List Cue × List Cue × Int × Int × Unit → Option (Bool × Unit)) : Option (Bool × Unit) :=
  cond (decide (t1.2.2.2.1 < t1.2.2.1)) (rdL t1.2.1 t1.2.2.2.1 fun d2 => (f143 (d2, ())).bind fun x3 => cond (!(!x3.1)) (cond (decide (t1.2.2.2.1 > 0)) (rdL t1.1 (w64 (t1.2.2.2.1 - 1)) fun d4 => (f144 (d4, d2, ())).bind fun x5 => cond (decide (x5.1 ≥ 0)) (some (false, ())) (rec (t1.1, t1.2.1, t1.2.2.1, (w64 (t1.2.2.2.1 + 1)), ()))) (rec (t1.1, t1.2.1, t1.2.2.1, (w64 (t1.2.2.2.1 + 1)), ()))) (some (false, ()))) (K (t1.1, t1.2.1, t1.2.2.1, t1.2.2.2.1, ()))
noncomputable def F93 (f143 : Cue × Unit → Option (Bool × Unit)) (f144 : Cue × Cue × Unit → Option (Int × Unit)) (a : List Cue × Unit) : Option (Bool × Unit) :=
  iterF (s93_0 f143 f144) fuel (a.1, a.1, (Int.ofNat (List.length a.1)), 0, ()) fun t6 => some ((decide ((Int.ofNat (List.length t6.1)) ≤ 12)), ())
def E93 (f143 : Cue × Unit → Option (Bool × Unit)) (f144 : Cue × Cue × Unit → Option (Int × Unit)) : Env := envL [(143, mkE p143 r143 false f143), (144, mkE p144 r144 false f144)]
noncomputable def L93 (f143 : Cue × Unit → Option (Bool × Unit)) (f144 : Cue × Cue × Unit → Option (Int × Unit)) : LEnv (densS (muts p93 ++ r93)) := lenv [(0, loopL (R := densS (muts p93 ++ r93)) q93_0 (s93_0 f143 f144))]
theorem e93_0 (f143 : Cue × Unit → Option (Bool × Unit)) (f144 : Cue × Cue × Unit → Option (Int × Unit)) (X : Nat → St → Option (densS (muts p93 ++ r93))) (rec K : densS q93_0 → Option (densS (muts p93 ++ r93))) (t : densS q93_0) :
    ev (E93 f143 f144) tab2 (fun _ => false) (L93 f143 f144) (retK tab2 p93 r93 Proofs.Tryz.f93.results.toList) (loopC Proofs.Tryz.f93 0) (fun i s => cond (Nat.beq i 0) (decK 100 q93_0 s K) (X i s)) (fun s => decK 100 q93_0 s rec) (enc q93_0 t) = s93_0 f143 f144 t rec K := by kernel_rfl
theorem e93 (f143 : Cue × Unit → Option (Bool × Unit)) (f144 : Cue × Cue × Unit → Option (Int × Unit)) (a : densS p93) : runF (E93 f143 f144) tab2 (fun _ => false) p93 r93 Proofs.Tryz.f93 (L93 f143 f144) a = F93 f143 f144 a := by kernel_rfl
theorem ok93 {f143 : Cue × Unit → Option (Bool × Unit)} {f144 : Cue × Cue × Unit → Option (Int × Unit)} (h143 : OK Proofs.Tryz.prog 143 (mkE p143 r143 false f143)) (h144 : OK Proofs.Tryz.prog 144 (mkE p144 r144 false f144)) : OK Proofs.Tryz.prog 93 (mkE p93 r93 false (F93 f143 f144)) :=
  fn_ok tab_ok2 (envL_ok (l := [(143, mkE p143 r143 false f143), (144, mkE p144 r144 false f144)]) (OKs.cons h143 (OKs.cons h144 OKs.nil))) mixed2 (ann := (fun _ => false)) (L := L93 f143 f144) (fn := Proofs.Tryz.f93) (c := bodyC Proofs.Tryz.f93) (ls := [(0, loopC Proofs.Tryz.f93 0)]) Proofs.Tryz.func93 (by kernel_rfl) (by kernel_rfl) (by kernel_rfl) (by kernel_rfl)
    (LoopsP.cons q93_0 (s93_0 f143 f144) rfl (e93_0 f143 f144) LoopsP.nil) (e93 f143 f144)
/-! spec.l4Drift -/
def p119 : List SP := [.t .place]
def r119 : List SP := [.one (.bool)]
noncomputable def F119 (f95 : Int × Int × Int × Unit → Option (Bool × Unit)) (a : Place × Unit) : Option (Bool × Unit) :=
  (f95 (a.1.X, (-8), 8, ())).bind fun x1 => cond x1.1 ((f95 (a.1.Y, (-8), 8, ())).bind fun x2 => some (x2.1, ())) (some (false, ()))
def E119 (f95 : Int × Int × Int × Unit → Option (Bool × Unit)) : Env := envL [(95, mkE p95 r95 false f95)]
noncomputable def L119 (f95 : Int × Int × Int × Unit → Option (Bool × Unit)) : LEnv (densS (muts p119 ++ r119)) := lenv []
theorem e119 (f95 : Int × Int × Int × Unit → Option (Bool × Unit)) (a : densS p119) : runF (E119 f95) tab2 (fun _ => false) p119 r119 Proofs.Tryz.f119 (L119 f95) a = F119 f95 a := by kernel_rfl
theorem ok119 {f95 : Int × Int × Int × Unit → Option (Bool × Unit)} (h95 : OK Proofs.Tryz.prog 95 (mkE p95 r95 false f95)) : OK Proofs.Tryz.prog 119 (mkE p119 r119 false (F119 f95)) :=
  fn_ok tab_ok2 (envL_ok (l := [(95, mkE p95 r95 false f95)]) (OKs.cons h95 OKs.nil)) mixed2 (ann := (fun _ => false)) (L := L119 f95) (fn := Proofs.Tryz.f119) (c := bodyC Proofs.Tryz.f119) (ls := []) Proofs.Tryz.func119 (by kernel_rfl) (by kernel_rfl) (by kernel_rfl) (by kernel_rfl)
    LoopsP.nil (e119 f95)
/-! spec.IsWind -/
def p94 : List SP := [.one (.r .gust)]
def r94 : List SP := [.one (.bool)]
def q94_0 : List SP := pat 41 0 [(0, .one (.r .gust)), (5, .one (.r .gust)), (6, .one (.int .i64)), (7, .one (.int .i64))]
noncomputable def s94_0 (f95 : Int × Int × Int × Unit → Option (Bool × Unit)) (f119 : Place × Unit → Option (Bool × Unit)) (t1 : List Gust × List Gust × Int × Int × Unit) (rec K : List Gust × List Gust × Int × Int × Unit → Option (Bool × Unit)) : Option (Bool × Unit) :=
  cond (decide (t1.2.2.2.1 < t1.2.2.1)) (rdL t1.2.1 t1.2.2.2.1 fun d2 => (f95 (d2.From, 0, 64, ())).bind fun x3 => cond (!(!x3.1)) ((f119 (d2.Drift, ())).bind fun x4 => cond (!(!x4.1)) (cond (decide (t1.2.2.2.1 > 0)) (rdL t1.1 (w64 (t1.2.2.2.1 - 1)) fun d5 => cond (decide (d5.From ≥ d2.From)) (some (false, ())) (rec (t1.1, t1.2.1, t1.2.2.1, (w64 (t1.2.2.2.1 + 1)), ()))) (rec (t1.1, t1.2.1, t1.2.2.1, (w64 (t1.2.2.2.1 + 1)), ()))) (some (false, ()))) (some (false, ()))) (K (t1.1, t1.2.1, t1.2.2.1, t1.2.2.2.1, ()))
noncomputable def F94 (f95 : Int × Int × Int × Unit → Option (Bool × Unit)) (f119 : Place × Unit → Option (Bool × Unit)) (a : List Gust × Unit) : Option (Bool × Unit) :=
  iterF (s94_0 f95 f119) fuel (a.1, a.1, (Int.ofNat (List.length a.1)), 0, ()) fun t6 => some ((decide ((Int.ofNat (List.length t6.1)) ≤ 8)), ())
def E94 (f95 : Int × Int × Int × Unit → Option (Bool × Unit)) (f119 : Place × Unit → Option (Bool × Unit)) : Env := envL [(95, mkE p95 r95 false f95), (119, mkE p119 r119 false f119)]
noncomputable def L94 (f95 : Int × Int × Int × Unit → Option (Bool × Unit)) (f119 : Place × Unit → Option (Bool × Unit)) : LEnv (densS (muts p94 ++ r94)) := lenv [(0, loopL (R := densS (muts p94 ++ r94)) q94_0 (s94_0 f95 f119))]
theorem e94_0 (f95 : Int × Int × Int × Unit → Option (Bool × Unit)) (f119 : Place × Unit → Option (Bool × Unit)) (X : Nat → St → Option (densS (muts p94 ++ r94))) (rec K : densS q94_0 → Option (densS (muts p94 ++ r94))) (t : densS q94_0) :
    ev (E94 f95 f119) tab2 (fun _ => false) (L94 f95 f119) (retK tab2 p94 r94 Proofs.Tryz.f94.results.toList) (loopC Proofs.Tryz.f94 0) (fun i s => cond (Nat.beq i 0) (decK 100 q94_0 s K) (X i s)) (fun s => decK 100 q94_0 s rec) (enc q94_0 t) = s94_0 f95 f119 t rec K := by kernel_rfl
theorem e94 (f95 : Int × Int × Int × Unit → Option (Bool × Unit)) (f119 : Place × Unit → Option (Bool × Unit)) (a : densS p94) : runF (E94 f95 f119) tab2 (fun _ => false) p94 r94 Proofs.Tryz.f94 (L94 f95 f119) a = F94 f95 f119 a := by kernel_rfl
theorem ok94 {f95 : Int × Int × Int × Unit → Option (Bool × Unit)} {f119 : Place × Unit → Option (Bool × Unit)} (h95 : OK Proofs.Tryz.prog 95 (mkE p95 r95 false f95)) (h119 : OK Proofs.Tryz.prog 119 (mkE p119 r119 false f119)) : OK Proofs.Tryz.prog 94 (mkE p94 r94 false (F94 f95 f119)) :=
  fn_ok tab_ok2 (envL_ok (l := [(95, mkE p95 r95 false f95), (119, mkE p119 r119 false f119)]) (OKs.cons h95 (OKs.cons h119 OKs.nil))) mixed2 (ann := (fun _ => false)) (L := L94 f95 f119) (fn := Proofs.Tryz.f94) (c := bodyC Proofs.Tryz.f94) (ls := [(0, loopC Proofs.Tryz.f94 0)]) Proofs.Tryz.func94 (by kernel_rfl) (by kernel_rfl) (by kernel_rfl) (by kernel_rfl)
    (LoopsP.cons q94_0 (s94_0 f95 f119) rfl (e94_0 f95 f119) LoopsP.nil) (e94 f95 f119)
/-! spec.IsShow -/
def p47 : List SP := [.agg [.r .device, .r .cue, .r .gust, .int .i64]]
def r47 : List SP := [.one (.bool)]
noncomputable def F47 (f92 : List Device × Unit → Option (Bool × Unit)) (f93 : List Cue × Unit → Option (Bool × Unit)) (f94 : List Gust × Unit → Option (Bool × Unit)) (f95 : Int × Int × Int × Unit → Option (Bool × Unit)) (a : (List Device × List Cue × List Gust × Int × Unit) × Unit) : Option (Bool × Unit) :=
  (f92 (a.1.1, ())).bind fun x1 => cond x1.1 ((f93 (a.1.2.1, ())).bind fun x2 => cond x2.1 ((f94 (a.1.2.2.1, ())).bind fun x3 => cond x3.1 ((f95 (a.1.2.2.2.1, 0, 64, ())).bind fun x4 => some (x4.1, ())) (some (false, ()))) (some (false, ()))) (some (false, ()))
def E47 (f92 : List Device × Unit → Option (Bool × Unit)) (f93 : List Cue × Unit → Option (Bool × Unit)) (f94 : List Gust × Unit → Option (Bool × Unit)) (f95 : Int × Int × Int × Unit → Option (Bool × Unit)) : Env := envL [(92, mkE p92 r92 false f92), (93, mkE p93 r93 false f93), (94, mkE p94 r94 false f94), (95, mkE p95 r95 false f95)]
noncomputable def L47 (f92 : List Device × Unit → Option (Bool × Unit)) (f93 : List Cue × Unit → Option (Bool × Unit)) (f94 : List Gust × Unit → Option (Bool × Unit)) (f95 : Int × Int × Int × Unit → Option (Bool × Unit)) : LEnv (densS (muts p47 ++ r47)) := lenv []
theorem e47 (f92 : List Device × Unit → Option (Bool × Unit)) (f93 : List Cue × Unit → Option (Bool × Unit)) (f94 : List Gust × Unit → Option (Bool × Unit)) (f95 : Int × Int × Int × Unit → Option (Bool × Unit)) (a : densS p47) : runF (E47 f92 f93 f94 f95) tab2 (fun _ => false) p47 r47 Proofs.Tryz.f47 (L47 f92 f93 f94 f95) a = F47 f92 f93 f94 f95 a := by kernel_rfl
theorem ok47 {f92 : List Device × Unit → Option (Bool × Unit)} {f93 : List Cue × Unit → Option (Bool × Unit)} {f94 : List Gust × Unit → Option (Bool × Unit)} {f95 : Int × Int × Int × Unit → Option (Bool × Unit)} (h92 : OK Proofs.Tryz.prog 92 (mkE p92 r92 false f92)) (h93 : OK Proofs.Tryz.prog 93 (mkE p93 r93 false f93)) (h94 : OK Proofs.Tryz.prog 94 (mkE p94 r94 false f94)) (h95 : OK Proofs.Tryz.prog 95 (mkE p95 r95 false f95)) : OK Proofs.Tryz.prog 47 (mkE p47 r47 false (F47 f92 f93 f94 f95)) :=
  fn_ok tab_ok2 (envL_ok (l := [(92, mkE p92 r92 false f92), (93, mkE p93 r93 false f93), (94, mkE p94 r94 false f94), (95, mkE p95 r95 false f95)]) (OKs.cons h92 (OKs.cons h93 (OKs.cons h94 (OKs.cons h95 OKs.nil))))) mixed2 (ann := (fun _ => false)) (L := L47 f92 f93 f94 f95) (fn := Proofs.Tryz.f47) (c := bodyC Proofs.Tryz.f47) (ls := []) Proofs.Tryz.func47 (by kernel_rfl) (by kernel_rfl) (by kernel_rfl) (by kernel_rfl)
    LoopsP.nil (e47 f92 f93 f94 f95)
/-! spec.FlightOf -/
def p49 : List SP := [.t .jet]
def r49 : List SP := [.one (.int .i64)]
def q49_0 : List SP := pat 24 0 [(3, .one (.int .i64)), (4, .one (.int .i64)), (5, .one (.int .i64))]
noncomputable def s49_0 (f98 : Jet × Unit → Option (Bool × Unit)) (t2 : Int × Int × Int × Unit) (rec K : Int × Int × Int × Unit → Option (Int × Unit)) : Option (Int × Unit) :=
  cond (decide (t2.2.1 > 0)) (rec ((w64 (t2.1 + 1)), (w64 (t2.2.1 + t2.2.2.1)), (w64 (t2.2.2.1 - 2)), ())) (K (t2.1, t2.2.1, t2.2.2.1, ()))
noncomputable def F49 (f98 : Jet × Unit → Option (Bool × Unit)) (a : Jet × Unit) : Option (Int × Unit) :=
  (f98 (a.1, ())).bind fun x1 => cond (!x1.1) (some (0, ())) (iterF (s49_0 f98) fuel (1, a.1.Lift, (w64 (a.1.Lift - 2)), ()) fun t3 => some (t3.1, ()))
def E49 (f98 : Jet × Unit → Option (Bool × Unit)) : Env := envL [(98, mkE p98 r98 false f98)]
noncomputable def L49 (f98 : Jet × Unit → Option (Bool × Unit)) : LEnv (densS (muts p49 ++ r49)) := lenv [(0, loopL (R := densS (muts p49 ++ r49)) q49_0 (s49_0 f98))]
theorem e49_0 (f98 : Jet × Unit → Option (Bool × Unit)) (X : Nat → St → Option (densS (muts p49 ++ r49))) (rec K : densS q49_0 → Option (densS (muts p49 ++ r49))) (t : densS q49_0) :
    ev (E49 f98) tab2 (fun _ => false) (L49 f98) (retK tab2 p49 r49 Proofs.Tryz.f49.results.toList) (loopC Proofs.Tryz.f49 0) (fun i s => cond (Nat.beq i 0) (decK 100 q49_0 s K) (X i s)) (fun s => decK 100 q49_0 s rec) (enc q49_0 t) = s49_0 f98 t rec K := by kernel_rfl
theorem e49 (f98 : Jet × Unit → Option (Bool × Unit)) (a : densS p49) : runF (E49 f98) tab2 (fun _ => false) p49 r49 Proofs.Tryz.f49 (L49 f98) a = F49 f98 a := by kernel_rfl
theorem ok49 {f98 : Jet × Unit → Option (Bool × Unit)} (h98 : OK Proofs.Tryz.prog 98 (mkE p98 r98 false f98)) : OK Proofs.Tryz.prog 49 (mkE p49 r49 false (F49 f98)) :=
  fn_ok tab_ok2 (envL_ok (l := [(98, mkE p98 r98 false f98)]) (OKs.cons h98 OKs.nil)) mixed2 (ann := (fun _ => false)) (L := L49 f98) (fn := Proofs.Tryz.f49) (c := bodyC Proofs.Tryz.f49) (ls := [(0, loopC Proofs.Tryz.f49 0)]) Proofs.Tryz.func49 (by kernel_rfl) (by kernel_rfl) (by kernel_rfl) (by kernel_rfl)
    (LoopsP.cons q49_0 (s49_0 f98) rfl (e49_0 f98) LoopsP.nil) (e49 f98)
/-! spec.l4At -/
def p147 : List SP := [.one (.r .gust), .one (.int .i64)]
def r147 : List SP := [.t .place]
def q147_0 : List SP := pat 23 0 [(1, .one (.int .i64)), (4, .boxt 5000001 .place), (5, .boxt 5000002 .place), (9, .one (.r .gust)), (10, .one (.int .i64)), (11, .one (.int .i64))]
noncomputable def s147_0 (t1 : Int × Place × Place × List Gust × Int × Int × Unit) (rec K : Int × Place × Place × List Gust × Int × Int × Unit → Option (Place × Unit)) : Option (Place × Unit) :=
  cond (decide (t1.2.2.2.2.2.1 < t1.2.2.2.2.1)) (rdL t1.2.2.2.1 t1.2.2.2.2.2.1 fun d2 => cond (decide (d2.From ≤ t1.1)) (rec (t1.1, t1.2.1, d2.Drift, t1.2.2.2.1, t1.2.2.2.2.1, (w64 (t1.2.2.2.2.2.1 + 1)), ())) (rec (t1.1, t1.2.1, t1.2.2.1, t1.2.2.2.1, t1.2.2.2.2.1, (w64 (t1.2.2.2.2.2.1 + 1)), ()))) (K (t1.1, t1.2.1, t1.2.2.1, t1.2.2.2.1, t1.2.2.2.2.1, t1.2.2.2.2.2.1, ()))
noncomputable def F147 (a : List Gust × Int × Unit) : Option (Place × Unit) :=
  iterF (s147_0) fuel (a.2.1, (⟨0, 0⟩ : Place), (⟨0, 0⟩ : Place), a.1, (Int.ofNat (List.length a.1)), 0, ()) fun t3 => some (t3.2.2.1, ())
def E147 : Env := envL []
noncomputable def L147 : LEnv (densS (muts p147 ++ r147)) := lenv [(0, loopL (R := densS (muts p147 ++ r147)) q147_0 (s147_0))]
theorem e147_0 (X : Nat → St → Option (densS (muts p147 ++ r147))) (rec K : densS q147_0 → Option (densS (muts p147 ++ r147))) (t : densS q147_0) :
    ev (E147) tab2 (fun _ => false) (L147) (retK tab2 p147 r147 Proofs.Tryz.f147.results.toList) (loopC Proofs.Tryz.f147 0) (fun i s => cond (Nat.beq i 0) (decK 100 q147_0 s K) (X i s)) (fun s => decK 100 q147_0 s rec) (enc q147_0 t) = s147_0 t rec K := by kernel_rfl
theorem e147 (a : densS p147) : runF (E147) tab2 (fun _ => false) p147 r147 Proofs.Tryz.f147 (L147) a = F147 a := by kernel_rfl
theorem ok147 : OK Proofs.Tryz.prog 147 (mkE p147 r147 false (F147)) :=
  fn_ok tab_ok2 (envL_ok (l := []) OKs.nil) mixed2 (ann := (fun _ => false)) (L := L147) (fn := Proofs.Tryz.f147) (c := bodyC Proofs.Tryz.f147) (ls := [(0, loopC Proofs.Tryz.f147 0)]) Proofs.Tryz.func147 (by kernel_rfl) (by kernel_rfl) (by kernel_rfl) (by kernel_rfl)
    (LoopsP.cons q147_0 (s147_0) rfl (e147_0) LoopsP.nil) (e147)
/-! spec.l2Add -/
def p100 : List SP := [.t .place, .t .place]
def r100 : List SP := [.t .place]
noncomputable def F100 (a : Place × Place × Unit) : Option (Place × Unit) :=
  some ((⟨(w64 (a.1.X + a.2.1.X)), (w64 (a.1.Y + a.2.1.Y))⟩ : Place), ())
def E100 : Env := envL []
noncomputable def L100 : LEnv (densS (muts p100 ++ r100)) := lenv []
theorem e100 (a : densS p100) : runF (E100) tab2 (fun _ => false) p100 r100 Proofs.Tryz.f100 (L100) a = F100 a := by kernel_rfl
theorem ok100 : OK Proofs.Tryz.prog 100 (mkE p100 r100 false (F100)) :=
  fn_ok tab_ok2 (envL_ok (l := []) OKs.nil) mixed2 (ann := (fun _ => false)) (L := L100) (fn := Proofs.Tryz.f100) (c := bodyC Proofs.Tryz.f100) (ls := []) Proofs.Tryz.func100 (by kernel_rfl) (by kernel_rfl) (by kernel_rfl) (by kernel_rfl)
    LoopsP.nil (e100)
/-! spec.DriftOver -/
def p99 : List SP := [.one (.r .gust), .one (.int .i64), .one (.int .i64)]
def r99 : List SP := [.t .place, .one (.bool)]
def q99_0 : List SP := pat 40 0 [(0, .one (.r .gust)), (2, .one (.int .i64)), (6, .boxt 5000001 .place), (8, .boxt 5000002 .place), (9, .one (.int .i64))]
noncomputable def s99_0 (f94 : List Gust × Unit → Option (Bool × Unit)) (f147 : List Gust × Int × Unit → Option (Place × Unit)) (f100 : Place × Place × Unit → Option (Place × Unit)) (t2 : List Gust × Int × Place × Place × Int × Unit) (rec K : List Gust × Int × Place × Place × Int × Unit → Option (Place × Bool × Unit)) : Option (Place × Bool × Unit) :=
  cond (decide (t2.2.2.2.2.1 < t2.2.1)) ((f147 (t2.1, t2.2.2.2.2.1, ())).bind fun x3 => (f100 (t2.2.2.2.1, x3.1, ())).bind fun x4 => rec (t2.1, t2.2.1, t2.2.2.1, x4.1, (w64 (t2.2.2.2.2.1 + 1)), ())) (K (t2.1, t2.2.1, t2.2.2.1, t2.2.2.2.1, t2.2.2.2.2.1, ()))
noncomputable def F99 (f94 : List Gust × Unit → Option (Bool × Unit)) (f147 : List Gust × Int × Unit → Option (Place × Unit)) (f100 : Place × Place × Unit → Option (Place × Unit)) (a : List Gust × Int × Int × Unit) : Option (Place × Bool × Unit) :=
  (f94 (a.1, ())).bind fun x1 => cond (!(!x1.1)) (cond (!(decide (a.2.1 < 0))) (cond (!(decide (a.2.2.1 < a.2.1))) (cond (decide (a.2.2.1 > 128)) (some ((⟨0, 0⟩ : Place), false, ())) (iterF (s99_0 f94 f147 f100) fuel (a.1, a.2.2.1, (⟨0, 0⟩ : Place), (⟨0, 0⟩ : Place), a.2.1, ()) fun t5 => some (t5.2.2.2.1, true, ()))) (some ((⟨0, 0⟩ : Place), false, ()))) (some ((⟨0, 0⟩ : Place), false, ()))) (some ((⟨0, 0⟩ : Place), false, ()))
def E99 (f94 : List Gust × Unit → Option (Bool × Unit)) (f147 : List Gust × Int × Unit → Option (Place × Unit)) (f100 : Place × Place × Unit → Option (Place × Unit)) : Env := envL [(94, mkE p94 r94 false f94), (147, mkE p147 r147 false f147), (100, mkE p100 r100 false f100)]
noncomputable def L99 (f94 : List Gust × Unit → Option (Bool × Unit)) (f147 : List Gust × Int × Unit → Option (Place × Unit)) (f100 : Place × Place × Unit → Option (Place × Unit)) : LEnv (densS (muts p99 ++ r99)) := lenv [(0, loopL (R := densS (muts p99 ++ r99)) q99_0 (s99_0 f94 f147 f100))]
theorem e99_0 (f94 : List Gust × Unit → Option (Bool × Unit)) (f147 : List Gust × Int × Unit → Option (Place × Unit)) (f100 : Place × Place × Unit → Option (Place × Unit)) (X : Nat → St → Option (densS (muts p99 ++ r99))) (rec K : densS q99_0 → Option (densS (muts p99 ++ r99))) (t : densS q99_0) :
    ev (E99 f94 f147 f100) tab2 (fun _ => false) (L99 f94 f147 f100) (retK tab2 p99 r99 Proofs.Tryz.f99.results.toList) (loopC Proofs.Tryz.f99 0) (fun i s => cond (Nat.beq i 0) (decK 100 q99_0 s K) (X i s)) (fun s => decK 100 q99_0 s rec) (enc q99_0 t) = s99_0 f94 f147 f100 t rec K := by kernel_rfl
theorem e99 (f94 : List Gust × Unit → Option (Bool × Unit)) (f147 : List Gust × Int × Unit → Option (Place × Unit)) (f100 : Place × Place × Unit → Option (Place × Unit)) (a : densS p99) : runF (E99 f94 f147 f100) tab2 (fun _ => false) p99 r99 Proofs.Tryz.f99 (L99 f94 f147 f100) a = F99 f94 f147 f100 a := by kernel_rfl
theorem ok99 {f94 : List Gust × Unit → Option (Bool × Unit)} {f147 : List Gust × Int × Unit → Option (Place × Unit)} {f100 : Place × Place × Unit → Option (Place × Unit)} (h94 : OK Proofs.Tryz.prog 94 (mkE p94 r94 false f94)) (h147 : OK Proofs.Tryz.prog 147 (mkE p147 r147 false f147)) (h100 : OK Proofs.Tryz.prog 100 (mkE p100 r100 false f100)) : OK Proofs.Tryz.prog 99 (mkE p99 r99 false (F99 f94 f147 f100)) :=
  fn_ok tab_ok2 (envL_ok (l := [(94, mkE p94 r94 false f94), (147, mkE p147 r147 false f147), (100, mkE p100 r100 false f100)]) (OKs.cons h94 (OKs.cons h147 (OKs.cons h100 OKs.nil)))) mixed2 (ann := (fun _ => false)) (L := L99 f94 f147 f100) (fn := Proofs.Tryz.f99) (c := bodyC Proofs.Tryz.f99) (ls := [(0, loopC Proofs.Tryz.f99 0)]) Proofs.Tryz.func99 (by kernel_rfl) (by kernel_rfl) (by kernel_rfl) (by kernel_rfl)
    (LoopsP.cons q99_0 (s99_0 f94 f147 f100) rfl (e99_0 f94 f147 f100) LoopsP.nil) (e99 f94 f147 f100)
/-! spec.l2Mod -/
def p162 : List SP := [.one (.int .i64)]
def r162 : List SP := [.one (.int .i64)]
noncomputable def F162 (a : Int × Unit) : Option (Int × Unit) :=
  cond (decide ((Int.tmod a.1 4) < 0)) (some ((w64 ((Int.tmod a.1 4) + 4)), ())) (some ((Int.tmod a.1 4), ()))
def E162 : Env := envL []
noncomputable def L162 : LEnv (densS (muts p162 ++ r162)) := lenv []
theorem e162 (a : densS p162) : runF (E162) tab2 (fun _ => false) p162 r162 Proofs.Tryz.f162 (L162) a = F162 a := by kernel_rfl
theorem ok162 : OK Proofs.Tryz.prog 162 (mkE p162 r162 false (F162)) :=
  fn_ok tab_ok2 (envL_ok (l := []) OKs.nil) mixed2 (ann := (fun _ => false)) (L := L162) (fn := Proofs.Tryz.f162) (c := bodyC Proofs.Tryz.f162) (ls := []) Proofs.Tryz.func162 (by kernel_rfl) (by kernel_rfl) (by kernel_rfl) (by kernel_rfl)
    LoopsP.nil (e162)
/-! spec.l2Turn -/
def p132 : List SP := [.t .place, .one (.int .i64)]
def r132 : List SP := [.t .place]
def q132_0 : List SP := pat 19 0 [(2, .boxt 5000001 .place), (4, .boxt 5000002 .place), (5, .one (.int .i64))]
noncomputable def s132_0 (f162 : Int × Unit → Option (Int × Unit)) (t2 : Place × Place × Int × Unit) (rec K : Place × Place × Int × Unit → Option (Place × Unit)) : Option (Place × Unit) :=
  cond (decide (t2.2.2.1 > 0)) (rec ((⟨(w64 (0 - t2.1.Y)), t2.1.X⟩ : Place), t2.2.1, (w64 (t2.2.2.1 - 1)), ())) (K (t2.1, t2.2.1, t2.2.2.1, ()))
noncomputable def F132 (f162 : Int × Unit → Option (Int × Unit)) (a : Place × Int × Unit) : Option (Place × Unit) :=
  (f162 (a.2.1, ())).bind fun x1 => iterF (s132_0 f162) fuel (a.1, (⟨0, 0⟩ : Place), x1.1, ()) fun t3 => some (t3.1, ())
def E132 (f162 : Int × Unit → Option (Int × Unit)) : Env := envL [(162, mkE p162 r162 false f162)]
noncomputable def L132 (f162 : Int × Unit → Option (Int × Unit)) : LEnv (densS (muts p132 ++ r132)) := lenv [(0, loopL (R := densS (muts p132 ++ r132)) q132_0 (s132_0 f162))]
theorem e132_0 (f162 : Int × Unit → Option (Int × Unit)) (X : Nat → St → Option (densS (muts p132 ++ r132))) (rec K : densS q132_0 → Option (densS (muts p132 ++ r132))) (t : densS q132_0) :
    ev (E132 f162) tab2 (fun _ => false) (L132 f162) (retK tab2 p132 r132 Proofs.Tryz.f132.results.toList) (loopC Proofs.Tryz.f132 0) (fun i s => cond (Nat.beq i 0) (decK 100 q132_0 s K) (X i s)) (fun s => decK 100 q132_0 s rec) (enc q132_0 t) = s132_0 f162 t rec K := by kernel_rfl
theorem e132 (f162 : Int × Unit → Option (Int × Unit)) (a : densS p132) : runF (E132 f162) tab2 (fun _ => false) p132 r132 Proofs.Tryz.f132 (L132 f162) a = F132 f162 a := by kernel_rfl
theorem ok132 {f162 : Int × Unit → Option (Int × Unit)} (h162 : OK Proofs.Tryz.prog 162 (mkE p162 r162 false f162)) : OK Proofs.Tryz.prog 132 (mkE p132 r132 false (F132 f162)) :=
  fn_ok tab_ok2 (envL_ok (l := [(162, mkE p162 r162 false f162)]) (OKs.cons h162 OKs.nil)) mixed2 (ann := (fun _ => false)) (L := L132 f162) (fn := Proofs.Tryz.f132) (c := bodyC Proofs.Tryz.f132) (ls := [(0, loopC Proofs.Tryz.f132 0)]) Proofs.Tryz.func132 (by kernel_rfl) (by kernel_rfl) (by kernel_rfl) (by kernel_rfl)
    (LoopsP.cons q132_0 (s132_0 f162) rfl (e132_0 f162) LoopsP.nil) (e132 f162)
/-! spec.l3Place -/
def p101 : List SP := [.t .jet, .one (.int .i64)]
def r101 : List SP := [.t .place]
noncomputable def F101 (f132 : Place × Int × Unit → Option (Place × Unit)) (f100 : Place × Place × Unit → Option (Place × Unit)) (a : Jet × Int × Unit) : Option (Place × Unit) :=
  (f132 ((⟨(w64 (a.2.1 * a.1.Tilt)), 0⟩ : Place), a.1.Heading, ())).bind fun x1 => (f100 (a.1.At, x1.1, ())).bind fun x2 => some (x2.1, ())
def E101 (f132 : Place × Int × Unit → Option (Place × Unit)) (f100 : Place × Place × Unit → Option (Place × Unit)) : Env := envL [(132, mkE p132 r132 false f132), (100, mkE p100 r100 false f100)]
noncomputable def L101 (f132 : Place × Int × Unit → Option (Place × Unit)) (f100 : Place × Place × Unit → Option (Place × Unit)) : LEnv (densS (muts p101 ++ r101)) := lenv []
theorem e101 (f132 : Place × Int × Unit → Option (Place × Unit)) (f100 : Place × Place × Unit → Option (Place × Unit)) (a : densS p101) : runF (E101 f132 f100) tab2 (fun _ => false) p101 r101 Proofs.Tryz.f101 (L101 f132 f100) a = F101 f132 f100 a := by kernel_rfl
theorem ok101 {f132 : Place × Int × Unit → Option (Place × Unit)} {f100 : Place × Place × Unit → Option (Place × Unit)} (h132 : OK Proofs.Tryz.prog 132 (mkE p132 r132 false f132)) (h100 : OK Proofs.Tryz.prog 100 (mkE p100 r100 false f100)) : OK Proofs.Tryz.prog 101 (mkE p101 r101 false (F101 f132 f100)) :=
  fn_ok tab_ok2 (envL_ok (l := [(132, mkE p132 r132 false f132), (100, mkE p100 r100 false f100)]) (OKs.cons h132 (OKs.cons h100 OKs.nil))) mixed2 (ann := (fun _ => false)) (L := L101 f132 f100) (fn := Proofs.Tryz.f101) (c := bodyC Proofs.Tryz.f101) (ls := []) Proofs.Tryz.func101 (by kernel_rfl) (by kernel_rfl) (by kernel_rfl) (by kernel_rfl)
    LoopsP.nil (e101 f132 f100)
/-! spec.HeightAt -/
def p102 : List SP := [.t .jet, .one (.int .i64)]
def r102 : List SP := [.one (.int .i64)]
def q102_0 : List SP := pat 24 0 [(1, .one (.int .i64)), (2, .boxt 5000001 .jet), (5, .one (.int .i64)), (6, .one (.int .i64))]
noncomputable def s102_0 (f49 : Jet × Unit → Option (Int × Unit)) (t2 : Int × Jet × Int × Int × Unit) (rec K : Int × Jet × Int × Int × Unit → Option (Int × Unit)) : Option (Int × Unit) :=
  cond (decide (t2.2.2.2.1 < t2.1)) (rec (t2.1, t2.2.1, (w64 ((w64 (t2.2.2.1 + t2.2.1.Lift)) - (w64 (2 * t2.2.2.2.1)))), (w64 (t2.2.2.2.1 + 1)), ())) (K (t2.1, t2.2.1, t2.2.2.1, t2.2.2.2.1, ()))
noncomputable def F102 (f49 : Jet × Unit → Option (Int × Unit)) (a : Jet × Int × Unit) : Option (Int × Unit) :=
  (f49 (a.1, ())).bind fun x1 => cond (decide (a.2.1 > x1.1)) (some (0, ())) (iterF (s102_0 f49) fuel (a.2.1, a.1, 0, 0, ()) fun t3 => some (t3.2.2.1, ()))
def E102 (f49 : Jet × Unit → Option (Int × Unit)) : Env := envL [(49, mkE p49 r49 false f49)]
noncomputable def L102 (f49 : Jet × Unit → Option (Int × Unit)) : LEnv (densS (muts p102 ++ r102)) := lenv [(0, loopL (R := densS (muts p102 ++ r102)) q102_0 (s102_0 f49))]
theorem e102_0 (f49 : Jet × Unit → Option (Int × Unit)) (X : Nat → St → Option (densS (muts p102 ++ r102))) (rec K : densS q102_0 → Option (densS (muts p102 ++ r102))) (t : densS q102_0) :
    ev (E102 f49) tab2 (fun _ => false) (L102 f49) (retK tab2 p102 r102 Proofs.Tryz.f102.results.toList) (loopC Proofs.Tryz.f102 0) (fun i s => cond (Nat.beq i 0) (decK 100 q102_0 s K) (X i s)) (fun s => decK 100 q102_0 s rec) (enc q102_0 t) = s102_0 f49 t rec K := by kernel_rfl
theorem e102 (f49 : Jet × Unit → Option (Int × Unit)) (a : densS p102) : runF (E102 f49) tab2 (fun _ => false) p102 r102 Proofs.Tryz.f102 (L102 f49) a = F102 f49 a := by kernel_rfl
theorem ok102 {f49 : Jet × Unit → Option (Int × Unit)} (h49 : OK Proofs.Tryz.prog 49 (mkE p49 r49 false f49)) : OK Proofs.Tryz.prog 102 (mkE p102 r102 false (F102 f49)) :=
  fn_ok tab_ok2 (envL_ok (l := [(49, mkE p49 r49 false f49)]) (OKs.cons h49 OKs.nil)) mixed2 (ann := (fun _ => false)) (L := L102 f49) (fn := Proofs.Tryz.f102) (c := bodyC Proofs.Tryz.f102) (ls := [(0, loopC Proofs.Tryz.f102 0)]) Proofs.Tryz.func102 (by kernel_rfl) (by kernel_rfl) (by kernel_rfl) (by kernel_rfl)
    (LoopsP.cons q102_0 (s102_0 f49) rfl (e102_0 f49) LoopsP.nil) (e102 f49)
/-! spec.l9Drop -/
def p50 : List SP := [.agg [.r .device, .r .cue, .r .gust, .int .i64], .t .throw, .one (.int .i64)]
def r50 : List SP := [.t .drop]
noncomputable def F50 (f99 : List Gust × Int × Int × Unit → Option (Place × Bool × Unit)) (f101 : Jet × Int × Unit → Option (Place × Unit)) (f100 : Place × Place × Unit → Option (Place × Unit)) (f102 : Jet × Int × Unit → Option (Int × Unit)) (a : (List Device × List Cue × List Gust × Int × Unit) × Throw × Int × Unit) : Option (Drop × Unit) :=
  (f99 (a.1.2.2.1, a.2.1.born, a.2.2.1, ())).bind fun x1 => (f101 (a.2.1.jet, (w64 (a.2.2.1 - a.2.1.born)), ())).bind fun x2 => (f100 (x2.1, x1.1, ())).bind fun x3 => (f102 (a.2.1.jet, (w64 (a.2.2.1 - a.2.1.born)), ())).bind fun x4 => some ((⟨a.2.1.name, a.2.1.born, ⟨x3.1.X, x3.1.Y⟩, x4.1⟩ : Drop), ())
def E50 (f99 : List Gust × Int × Int × Unit → Option (Place × Bool × Unit)) (f101 : Jet × Int × Unit → Option (Place × Unit)) (f100 : Place × Place × Unit → Option (Place × Unit)) (f102 : Jet × Int × Unit → Option (Int × Unit)) : Env := envL [(99, mkE p99 r99 false f99), (101, mkE p101 r101 false f101), (100, mkE p100 r100 false f100), (102, mkE p102 r102 false f102)]
noncomputable def L50 (f99 : List Gust × Int × Int × Unit → Option (Place × Bool × Unit)) (f101 : Jet × Int × Unit → Option (Place × Unit)) (f100 : Place × Place × Unit → Option (Place × Unit)) (f102 : Jet × Int × Unit → Option (Int × Unit)) : LEnv (densS (muts p50 ++ r50)) := lenv []
theorem e50 (f99 : List Gust × Int × Int × Unit → Option (Place × Bool × Unit)) (f101 : Jet × Int × Unit → Option (Place × Unit)) (f100 : Place × Place × Unit → Option (Place × Unit)) (f102 : Jet × Int × Unit → Option (Int × Unit)) (a : densS p50) : runF (E50 f99 f101 f100 f102) tab2 (fun _ => false) p50 r50 Proofs.Tryz.f50 (L50 f99 f101 f100 f102) a = F50 f99 f101 f100 f102 a := by kernel_rfl
theorem ok50 {f99 : List Gust × Int × Int × Unit → Option (Place × Bool × Unit)} {f101 : Jet × Int × Unit → Option (Place × Unit)} {f100 : Place × Place × Unit → Option (Place × Unit)} {f102 : Jet × Int × Unit → Option (Int × Unit)} (h99 : OK Proofs.Tryz.prog 99 (mkE p99 r99 false f99)) (h101 : OK Proofs.Tryz.prog 101 (mkE p101 r101 false f101)) (h100 : OK Proofs.Tryz.prog 100 (mkE p100 r100 false f100)) (h102 : OK Proofs.Tryz.prog 102 (mkE p102 r102 false f102)) : OK Proofs.Tryz.prog 50 (mkE p50 r50 false (F50 f99 f101 f100 f102)) :=
  fn_ok tab_ok2 (envL_ok (l := [(99, mkE p99 r99 false f99), (101, mkE p101 r101 false f101), (100, mkE p100 r100 false f100), (102, mkE p102 r102 false f102)]) (OKs.cons h99 (OKs.cons h101 (OKs.cons h100 (OKs.cons h102 OKs.nil))))) mixed2 (ann := (fun _ => false)) (L := L50 f99 f101 f100 f102) (fn := Proofs.Tryz.f50) (c := bodyC Proofs.Tryz.f50) (ls := []) Proofs.Tryz.func50 (by kernel_rfl) (by kernel_rfl) (by kernel_rfl) (by kernel_rfl)
    LoopsP.nil (e50 f99 f101 f100 f102)
/-! spec.DropsAt -/
def p12 : List SP := [.agg [.r .device, .r .cue, .r .gust, .int .i64], .one (.int .i64)]
def r12 : List SP := [.one (.o 0 .drop)]
def q12_0 : List SP := pat 43 0 [(1, .one (.int .i64)), (2, .box 5000001 [.r .device, .r .cue, .r .gust, .int .i64]), (5, .one (.o 5000002 .drop)), (14, .one (.o 5000003 .throw)), (15, .one (.int .i64)), (16, .one (.int .i64))]
noncomputable def s12_0 (f47 : (List Device × List Cue × List Gust × Int × Unit) × Unit → Option (Bool × Unit)) (f48 : (List Device × List Cue × List Gust × Int × Unit) × Unit → Option (List Throw × Unit)) (f49 : Jet × Unit → Option (Int × Unit)) (f50 : (List Device × List Cue × List Gust × Int × Unit) × Throw × Int × Unit → Option (Drop × Unit)) (t3 : Int × (List Device × List Cue × List Gust × Int × Unit) × List Drop × List Throw × Int × Int × Unit) (rec K : Int × (List Device × List Cue × List Gust × Int × Unit) × List Drop × List Throw × Int × Int × Unit → Option (List Drop × Unit)) : Option (List Drop × Unit) :=
  cond (decide (t3.2.2.2.2.2.1 < t3.2.2.2.2.1)) (rdL t3.2.2.2.1 t3.2.2.2.2.2.1 fun _ => (t3.2.2.2.1[(Int.toNat t3.2.2.2.2.2.1)]?).bind fun d4 => cond (decide (t3.1 ≥ d4.born)) ((f49 (d4.jet, ())).bind fun x5 => cond (decide (t3.1 < (w64 (d4.born + x5.1)))) ((f50 ((t3.2.1.1, t3.2.1.2.1, t3.2.1.2.2.1, t3.2.1.2.2.2.1, ()), d4, t3.1, ())).bind fun x6 => capK (List.length t3.2.2.1 + List.length ([x6.1] : List Drop)) (rec (t3.1, (t3.2.1.1, t3.2.1.2.1, t3.2.1.2.2.1, t3.2.1.2.2.2.1, ()), (t3.2.2.1 ++ ([x6.1] : List Drop)), t3.2.2.2.1, t3.2.2.2.2.1, (w64 (t3.2.2.2.2.2.1 + 1)), ()))) (rec (t3.1, (t3.2.1.1, t3.2.1.2.1, t3.2.1.2.2.1, t3.2.1.2.2.2.1, ()), t3.2.2.1, t3.2.2.2.1, t3.2.2.2.2.1, (w64 (t3.2.2.2.2.2.1 + 1)), ()))) (rec (t3.1, (t3.2.1.1, t3.2.1.2.1, t3.2.1.2.2.1, t3.2.1.2.2.2.1, ()), t3.2.2.1, t3.2.2.2.1, t3.2.2.2.2.1, (w64 (t3.2.2.2.2.2.1 + 1)), ()))) (K (t3.1, (t3.2.1.1, t3.2.1.2.1, t3.2.1.2.2.1, t3.2.1.2.2.2.1, ()), t3.2.2.1, t3.2.2.2.1, t3.2.2.2.2.1, t3.2.2.2.2.2.1, ()))
noncomputable def F12 (f47 : (List Device × List Cue × List Gust × Int × Unit) × Unit → Option (Bool × Unit)) (f48 : (List Device × List Cue × List Gust × Int × Unit) × Unit → Option (List Throw × Unit)) (f49 : Jet × Unit → Option (Int × Unit)) (f50 : (List Device × List Cue × List Gust × Int × Unit) × Throw × Int × Unit → Option (Drop × Unit)) (a : (List Device × List Cue × List Gust × Int × Unit) × Int × Unit) : Option (List Drop × Unit) :=
  (f47 ((a.1.1, a.1.2.1, a.1.2.2.1, a.1.2.2.2.1, ()), ())).bind fun x1 => cond (!x1.1) (some (([] : List Drop), ())) ((f48 ((a.1.1, a.1.2.1, a.1.2.2.1, a.1.2.2.2.1, ()), ())).bind fun x2 => iterF (s12_0 f47 f48 f49 f50) fuel (a.2.1, (a.1.1, a.1.2.1, a.1.2.2.1, a.1.2.2.2.1, ()), ([] : List Drop), x2.1, (Int.ofNat (List.length x2.1)), 0, ()) fun t7 => some (t7.2.2.1, ()))
def E12 (f47 : (List Device × List Cue × List Gust × Int × Unit) × Unit → Option (Bool × Unit)) (f48 : (List Device × List Cue × List Gust × Int × Unit) × Unit → Option (List Throw × Unit)) (f49 : Jet × Unit → Option (Int × Unit)) (f50 : (List Device × List Cue × List Gust × Int × Unit) × Throw × Int × Unit → Option (Drop × Unit)) : Env := envL [(47, mkE p47 r47 false f47), (48, mkE p48 r48 false f48), (49, mkE p49 r49 false f49), (50, mkE p50 r50 false f50)]
noncomputable def L12 (f47 : (List Device × List Cue × List Gust × Int × Unit) × Unit → Option (Bool × Unit)) (f48 : (List Device × List Cue × List Gust × Int × Unit) × Unit → Option (List Throw × Unit)) (f49 : Jet × Unit → Option (Int × Unit)) (f50 : (List Device × List Cue × List Gust × Int × Unit) × Throw × Int × Unit → Option (Drop × Unit)) : LEnv (densS (muts p12 ++ r12)) := lenv [(0, loopL (R := densS (muts p12 ++ r12)) q12_0 (s12_0 f47 f48 f49 f50))]
theorem e12_0 (f47 : (List Device × List Cue × List Gust × Int × Unit) × Unit → Option (Bool × Unit)) (f48 : (List Device × List Cue × List Gust × Int × Unit) × Unit → Option (List Throw × Unit)) (f49 : Jet × Unit → Option (Int × Unit)) (f50 : (List Device × List Cue × List Gust × Int × Unit) × Throw × Int × Unit → Option (Drop × Unit)) (X : Nat → St → Option (densS (muts p12 ++ r12))) (rec K : densS q12_0 → Option (densS (muts p12 ++ r12))) (t : densS q12_0) :
    ev (E12 f47 f48 f49 f50) tab2 (fun _ => false) (L12 f47 f48 f49 f50) (retK tab2 p12 r12 Proofs.Tryz.f12.results.toList) (loopC Proofs.Tryz.f12 0) (fun i s => cond (Nat.beq i 0) (decK 100 q12_0 s K) (X i s)) (fun s => decK 100 q12_0 s rec) (enc q12_0 t) = s12_0 f47 f48 f49 f50 t rec K := by kernel_rfl
theorem e12 (f47 : (List Device × List Cue × List Gust × Int × Unit) × Unit → Option (Bool × Unit)) (f48 : (List Device × List Cue × List Gust × Int × Unit) × Unit → Option (List Throw × Unit)) (f49 : Jet × Unit → Option (Int × Unit)) (f50 : (List Device × List Cue × List Gust × Int × Unit) × Throw × Int × Unit → Option (Drop × Unit)) (a : densS p12) : runF (E12 f47 f48 f49 f50) tab2 (fun _ => false) p12 r12 Proofs.Tryz.f12 (L12 f47 f48 f49 f50) a = F12 f47 f48 f49 f50 a := by kernel_rfl
theorem ok12 {f47 : (List Device × List Cue × List Gust × Int × Unit) × Unit → Option (Bool × Unit)} {f48 : (List Device × List Cue × List Gust × Int × Unit) × Unit → Option (List Throw × Unit)} {f49 : Jet × Unit → Option (Int × Unit)} {f50 : (List Device × List Cue × List Gust × Int × Unit) × Throw × Int × Unit → Option (Drop × Unit)} (h47 : OK Proofs.Tryz.prog 47 (mkE p47 r47 false f47)) (h48 : OK Proofs.Tryz.prog 48 (mkE p48 r48 false f48)) (h49 : OK Proofs.Tryz.prog 49 (mkE p49 r49 false f49)) (h50 : OK Proofs.Tryz.prog 50 (mkE p50 r50 false f50)) : OK Proofs.Tryz.prog 12 (mkE p12 r12 false (F12 f47 f48 f49 f50)) :=
  fn_ok tab_ok2 (envL_ok (l := [(47, mkE p47 r47 false f47), (48, mkE p48 r48 false f48), (49, mkE p49 r49 false f49), (50, mkE p50 r50 false f50)]) (OKs.cons h47 (OKs.cons h48 (OKs.cons h49 (OKs.cons h50 OKs.nil))))) mixed2 (ann := (fun _ => false)) (L := L12 f47 f48 f49 f50) (fn := Proofs.Tryz.f12) (c := bodyC Proofs.Tryz.f12) (ls := [(0, loopC Proofs.Tryz.f12 0)]) Proofs.Tryz.func12 (by kernel_rfl) (by kernel_rfl) (by kernel_rfl) (by kernel_rfl)
    (LoopsP.cons q12_0 (s12_0 f47 f48 f49 f50) rfl (e12_0 f47 f48 f49 f50) LoopsP.nil) (e12 f47 f48 f49 f50)
/-! impl.FlightOf -/
def p107 : List SP := [.t .jet]
def r107 : List SP := [.one (.int .i64)]
noncomputable def F107 (f150 : Jet × Unit → Option (Bool × Unit)) (a : Jet × Unit) : Option (Int × Unit) :=
  (f150 (a.1, ())).bind fun x1 => cond (!x1.1) (some (0, ())) (some ((w64 (a.1.Lift + 1)), ()))
def E107 (f150 : Jet × Unit → Option (Bool × Unit)) : Env := envL [(150, mkE p150 r150 false f150)]
noncomputable def L107 (f150 : Jet × Unit → Option (Bool × Unit)) : LEnv (densS (muts p107 ++ r107)) := lenv []
theorem e107 (f150 : Jet × Unit → Option (Bool × Unit)) (a : densS p107) : runF (E107 f150) tab2 (fun _ => false) p107 r107 Proofs.Tryz.f107 (L107 f150) a = F107 f150 a := by kernel_rfl
theorem ok107 {f150 : Jet × Unit → Option (Bool × Unit)} (h150 : OK Proofs.Tryz.prog 150 (mkE p150 r150 false f150)) : OK Proofs.Tryz.prog 107 (mkE p107 r107 false (F107 f150)) :=
  fn_ok tab_ok2 (envL_ok (l := [(150, mkE p150 r150 false f150)]) (OKs.cons h150 OKs.nil)) mixed2 (ann := (fun _ => false)) (L := L107 f150) (fn := Proofs.Tryz.f107) (c := bodyC Proofs.Tryz.f107) (ls := []) Proofs.Tryz.func107 (by kernel_rfl) (by kernel_rfl) (by kernel_rfl) (by kernel_rfl)
    LoopsP.nil (e107 f150)
/-! (impl.throw).lands -/
def p55 : List SP := [.t .throw]
def r55 : List SP := [.one (.int .i64)]
noncomputable def F55 (f107 : Jet × Unit → Option (Int × Unit)) (a : Throw × Unit) : Option (Int × Unit) :=
  (f107 (a.1.jet, ())).bind fun x1 => some ((w64 (a.1.born + x1.1)), ())
def E55 (f107 : Jet × Unit → Option (Int × Unit)) : Env := envL [(107, mkE p107 r107 false f107)]
noncomputable def L55 (f107 : Jet × Unit → Option (Int × Unit)) : LEnv (densS (muts p55 ++ r55)) := lenv []
theorem e55 (f107 : Jet × Unit → Option (Int × Unit)) (a : densS p55) : runF (E55 f107) tab2 (fun _ => false) p55 r55 Proofs.Tryz.f55 (L55 f107) a = F55 f107 a := by kernel_rfl
theorem ok55 {f107 : Jet × Unit → Option (Int × Unit)} (h107 : OK Proofs.Tryz.prog 107 (mkE p107 r107 false f107)) : OK Proofs.Tryz.prog 55 (mkE p55 r55 false (F55 f107)) :=
  fn_ok tab_ok2 (envL_ok (l := [(107, mkE p107 r107 false f107)]) (OKs.cons h107 OKs.nil)) mixed2 (ann := (fun _ => false)) (L := L55 f107) (fn := Proofs.Tryz.f55) (c := bodyC Proofs.Tryz.f55) (ls := []) Proofs.Tryz.func55 (by kernel_rfl) (by kernel_rfl) (by kernel_rfl) (by kernel_rfl)
    LoopsP.nil (e55 f107)
/-! impl.isInAir -/
def p151 : List SP := [.t .jet, .one (.int .i64)]
def r151 : List SP := [.one (.bool)]
noncomputable def F151 (f150 : Jet × Unit → Option (Bool × Unit)) (f107 : Jet × Unit → Option (Int × Unit)) (f117 : Int × Int × Int × Unit → Option (Bool × Unit)) (a : Jet × Int × Unit) : Option (Bool × Unit) :=
  (f150 (a.1, ())).bind fun x1 => cond x1.1 ((f107 (a.1, ())).bind fun x2 => (f117 (a.2.1, 0, x2.1, ())).bind fun x3 => some (x3.1, ())) (some (false, ()))
def E151 (f150 : Jet × Unit → Option (Bool × Unit)) (f107 : Jet × Unit → Option (Int × Unit)) (f117 : Int × Int × Int × Unit → Option (Bool × Unit)) : Env := envL [(150, mkE p150 r150 false f150), (107, mkE p107 r107 false f107), (117, mkE p117 r117 false f117)]
noncomputable def L151 (f150 : Jet × Unit → Option (Bool × Unit)) (f107 : Jet × Unit → Option (Int × Unit)) (f117 : Int × Int × Int × Unit → Option (Bool × Unit)) : LEnv (densS (muts p151 ++ r151)) := lenv []
theorem e151 (f150 : Jet × Unit → Option (Bool × Unit)) (f107 : Jet × Unit → Option (Int × Unit)) (f117 : Int × Int × Int × Unit → Option (Bool × Unit)) (a : densS p151) : runF (E151 f150 f107 f117) tab2 (fun _ => false) p151 r151 Proofs.Tryz.f151 (L151 f150 f107 f117) a = F151 f150 f107 f117 a := by kernel_rfl
theorem ok151 {f150 : Jet × Unit → Option (Bool × Unit)} {f107 : Jet × Unit → Option (Int × Unit)} {f117 : Int × Int × Int × Unit → Option (Bool × Unit)} (h150 : OK Proofs.Tryz.prog 150 (mkE p150 r150 false f150)) (h107 : OK Proofs.Tryz.prog 107 (mkE p107 r107 false f107)) (h117 : OK Proofs.Tryz.prog 117 (mkE p117 r117 false f117)) : OK Proofs.Tryz.prog 151 (mkE p151 r151 false (F151 f150 f107 f117)) :=
  fn_ok tab_ok2 (envL_ok (l := [(150, mkE p150 r150 false f150), (107, mkE p107 r107 false f107), (117, mkE p117 r117 false f117)]) (OKs.cons h150 (OKs.cons h107 (OKs.cons h117 OKs.nil)))) mixed2 (ann := (fun _ => false)) (L := L151 f150 f107 f117) (fn := Proofs.Tryz.f151) (c := bodyC Proofs.Tryz.f151) (ls := []) Proofs.Tryz.func151 (by kernel_rfl) (by kernel_rfl) (by kernel_rfl) (by kernel_rfl)
    LoopsP.nil (e151 f150 f107 f117)
/-! impl.turns -/
def p185 : List SP := [.one (.int .i64)]
def r185 : List SP := [.one (.int .i64)]
noncomputable def F185 (a : Int × Unit) : Option (Int × Unit) :=
  some ((Int.tmod (w64 ((Int.tmod a.1 4) + 4)) 4), ())
def E185 : Env := envL []
noncomputable def L185 : LEnv (densS (muts p185 ++ r185)) := lenv []
theorem e185 (a : densS p185) : runF (E185) tab2 (fun _ => false) p185 r185 Proofs.Tryz.f185 (L185) a = F185 a := by kernel_rfl
theorem ok185 : OK Proofs.Tryz.prog 185 (mkE p185 r185 false (F185)) :=
  fn_ok tab_ok2 (envL_ok (l := []) OKs.nil) mixed2 (ann := (fun _ => false)) (L := L185) (fn := Proofs.Tryz.f185) (c := bodyC Proofs.Tryz.f185) (ls := []) Proofs.Tryz.func185 (by kernel_rfl) (by kernel_rfl) (by kernel_rfl) (by kernel_rfl)
    LoopsP.nil (e185)
/-! impl.turned -/
def p164 : List SP := [.t .place, .one (.int .i64)]
def r164 : List SP := [.t .place]
def q164_0 : List SP := pat 17 0 [(2, .boxt 5000001 .place), (4, .boxt 5000002 .place), (6, .one (.int .i64)), (7, .one (.int .i64))]
noncomputable def s164_0 (f185 : Int × Unit → Option (Int × Unit)) (t2 : Place × Place × Int × Int × Unit) (rec K : Place × Place × Int × Int × Unit → Option (Place × Unit)) : Option (Place × Unit) :=
  cond (decide (t2.2.2.2.1 < t2.2.2.1)) (rec ((⟨(w64 (0 - t2.1.Y)), t2.1.X⟩ : Place), t2.2.1, t2.2.2.1, (w64 (t2.2.2.2.1 + 1)), ())) (K (t2.1, t2.2.1, t2.2.2.1, t2.2.2.2.1, ()))
noncomputable def F164 (f185 : Int × Unit → Option (Int × Unit)) (a : Place × Int × Unit) : Option (Place × Unit) :=
  (f185 (a.2.1, ())).bind fun x1 => iterF (s164_0 f185) fuel (a.1, (⟨0, 0⟩ : Place), x1.1, 0, ()) fun t3 => some (t3.1, ())
def E164 (f185 : Int × Unit → Option (Int × Unit)) : Env := envL [(185, mkE p185 r185 false f185)]
noncomputable def L164 (f185 : Int × Unit → Option (Int × Unit)) : LEnv (densS (muts p164 ++ r164)) := lenv [(0, loopL (R := densS (muts p164 ++ r164)) q164_0 (s164_0 f185))]
theorem e164_0 (f185 : Int × Unit → Option (Int × Unit)) (X : Nat → St → Option (densS (muts p164 ++ r164))) (rec K : densS q164_0 → Option (densS (muts p164 ++ r164))) (t : densS q164_0) :
    ev (E164 f185) tab2 (fun _ => false) (L164 f185) (retK tab2 p164 r164 Proofs.Tryz.f164.results.toList) (loopC Proofs.Tryz.f164 0) (fun i s => cond (Nat.beq i 0) (decK 100 q164_0 s K) (X i s)) (fun s => decK 100 q164_0 s rec) (enc q164_0 t) = s164_0 f185 t rec K := by kernel_rfl
theorem e164 (f185 : Int × Unit → Option (Int × Unit)) (a : densS p164) : runF (E164 f185) tab2 (fun _ => false) p164 r164 Proofs.Tryz.f164 (L164 f185) a = F164 f185 a := by kernel_rfl
theorem ok164 {f185 : Int × Unit → Option (Int × Unit)} (h185 : OK Proofs.Tryz.prog 185 (mkE p185 r185 false f185)) : OK Proofs.Tryz.prog 164 (mkE p164 r164 false (F164 f185)) :=
  fn_ok tab_ok2 (envL_ok (l := [(185, mkE p185 r185 false f185)]) (OKs.cons h185 OKs.nil)) mixed2 (ann := (fun _ => false)) (L := L164 f185) (fn := Proofs.Tryz.f164) (c := bodyC Proofs.Tryz.f164) (ls := [(0, loopC Proofs.Tryz.f164 0)]) Proofs.Tryz.func164 (by kernel_rfl) (by kernel_rfl) (by kernel_rfl) (by kernel_rfl)
    (LoopsP.cons q164_0 (s164_0 f185) rfl (e164_0 f185) LoopsP.nil) (e164 f185)
/-! impl.checked -/
def p181 : List SP := [.t .place]
def r181 : List SP := [.t .place, .one (.bool)]
noncomputable def F181 (f118 : Place × Unit → Option (Bool × Unit)) (a : Place × Unit) : Option (Place × Bool × Unit) :=
  (f118 (a.1, ())).bind fun x1 => cond (!x1.1) (some ((⟨0, 0⟩ : Place), false, ())) (some (a.1, true, ()))
def E181 (f118 : Place × Unit → Option (Bool × Unit)) : Env := envL [(118, mkE p118 r118 false f118)]
noncomputable def L181 (f118 : Place × Unit → Option (Bool × Unit)) : LEnv (densS (muts p181 ++ r181)) := lenv []
theorem e181 (f118 : Place × Unit → Option (Bool × Unit)) (a : densS p181) : runF (E181 f118) tab2 (fun _ => false) p181 r181 Proofs.Tryz.f181 (L181 f118) a = F181 f118 a := by kernel_rfl
theorem ok181 {f118 : Place × Unit → Option (Bool × Unit)} (h118 : OK Proofs.Tryz.prog 118 (mkE p118 r118 false f118)) : OK Proofs.Tryz.prog 181 (mkE p181 r181 false (F181 f118)) :=
  fn_ok tab_ok2 (envL_ok (l := [(118, mkE p118 r118 false f118)]) (OKs.cons h118 OKs.nil)) mixed2 (ann := (fun _ => false)) (L := L181 f118) (fn := Proofs.Tryz.f181) (c := bodyC Proofs.Tryz.f181) (ls := []) Proofs.Tryz.func181 (by kernel_rfl) (by kernel_rfl) (by kernel_rfl) (by kernel_rfl)
    LoopsP.nil (e181 f118)
/-! impl.StepFrom -/
def p152 : List SP := [.t .place, .one (.int .i64), .one (.int .i64)]
def r152 : List SP := [.t .place, .one (.bool)]
noncomputable def F152 (f118 : Place × Unit → Option (Bool × Unit)) (f163 : Int × Unit → Option (Bool × Unit)) (f158 : Int × Unit → Option (Bool × Unit)) (f164 : Place × Int × Unit → Option (Place × Unit)) (f181 : Place × Unit → Option (Place × Bool × Unit)) (a : Place × Int × Int × Unit) : Option (Place × Bool × Unit) :=
  (f118 (a.1, ())).bind fun x1 => cond (!(!x1.1)) ((f163 (a.2.1, ())).bind fun x2 => cond (!(!x2.1)) ((f158 (a.2.2.1, ())).bind fun x3 => cond (!x3.1) (some ((⟨0, 0⟩ : Place), false, ())) ((f164 ((⟨a.2.2.1, 0⟩ : Place), a.2.1, ())).bind fun x4 => (f181 ((⟨(w64 (a.1.X + x4.1.X)), (w64 (a.1.Y + x4.1.Y))⟩ : Place), ())).bind fun x5 => some (x5.1, x5.2.1, ()))) (some ((⟨0, 0⟩ : Place), false, ()))) (some ((⟨0, 0⟩ : Place), false, ()))
def E152 (f118 : Place × Unit → Option (Bool × Unit)) (f163 : Int × Unit → Option (Bool × Unit)) (f158 : Int × Unit → Option (Bool × Unit)) (f164 : Place × Int × Unit → Option (Place × Unit)) (f181 : Place × Unit → Option (Place × Bool × Unit)) : Env := envL [(118, mkE p118 r118 false f118), (163, mkE p163 r163 false f163), (158, mkE p158 r158 false f158), (164, mkE p164 r164 false f164), (181, mkE p181 r181 false f181)]
noncomputable def L152 (f118 : Place × Unit → Option (Bool × Unit)) (f163 : Int × Unit → Option (Bool × Unit)) (f158 : Int × Unit → Option (Bool × Unit)) (f164 : Place × Int × Unit → Option (Place × Unit)) (f181 : Place × Unit → Option (Place × Bool × Unit)) : LEnv (densS (muts p152 ++ r152)) := lenv []
theorem e152 (f118 : Place × Unit → Option (Bool × Unit)) (f163 : Int × Unit → Option (Bool × Unit)) (f158 : Int × Unit → Option (Bool × Unit)) (f164 : Place × Int × Unit → Option (Place × Unit)) (f181 : Place × Unit → Option (Place × Bool × Unit)) (a : densS p152) : runF (E152 f118 f163 f158 f164 f181) tab2 (fun _ => false) p152 r152 Proofs.Tryz.f152 (L152 f118 f163 f158 f164 f181) a = F152 f118 f163 f158 f164 f181 a := by kernel_rfl
theorem ok152 {f118 : Place × Unit → Option (Bool × Unit)} {f163 : Int × Unit → Option (Bool × Unit)} {f158 : Int × Unit → Option (Bool × Unit)} {f164 : Place × Int × Unit → Option (Place × Unit)} {f181 : Place × Unit → Option (Place × Bool × Unit)} (h118 : OK Proofs.Tryz.prog 118 (mkE p118 r118 false f118)) (h163 : OK Proofs.Tryz.prog 163 (mkE p163 r163 false f163)) (h158 : OK Proofs.Tryz.prog 158 (mkE p158 r158 false f158)) (h164 : OK Proofs.Tryz.prog 164 (mkE p164 r164 false f164)) (h181 : OK Proofs.Tryz.prog 181 (mkE p181 r181 false f181)) : OK Proofs.Tryz.prog 152 (mkE p152 r152 false (F152 f118 f163 f158 f164 f181)) :=
  fn_ok tab_ok2 (envL_ok (l := [(118, mkE p118 r118 false f118), (163, mkE p163 r163 false f163), (158, mkE p158 r158 false f158), (164, mkE p164 r164 false f164), (181, mkE p181 r181 false f181)]) (OKs.cons h118 (OKs.cons h163 (OKs.cons h158 (OKs.cons h164 (OKs.cons h181 OKs.nil)))))) mixed2 (ann := (fun _ => false)) (L := L152 f118 f163 f158 f164 f181) (fn := Proofs.Tryz.f152) (c := bodyC Proofs.Tryz.f152) (ls := []) Proofs.Tryz.func152 (by kernel_rfl) (by kernel_rfl) (by kernel_rfl) (by kernel_rfl)
    LoopsP.nil (e152 f118 f163 f158 f164 f181)
/-! impl.PlaceAt -/
def p108 : List SP := [.t .jet, .one (.int .i64)]
def r108 : List SP := [.t .place, .one (.bool)]
noncomputable def F108 (f151 : Jet × Int × Unit → Option (Bool × Unit)) (f152 : Place × Int × Int × Unit → Option (Place × Bool × Unit)) (a : Jet × Int × Unit) : Option (Place × Bool × Unit) :=
  (f151 (a.1, a.2.1, ())).bind fun x1 => cond (!x1.1) (some ((⟨0, 0⟩ : Place), false, ())) ((f152 (a.1.At, a.1.Heading, (w64 (a.2.1 * a.1.Tilt)), ())).bind fun x2 => some (x2.1, x2.2.1, ()))
def E108 (f151 : Jet × Int × Unit → Option (Bool × Unit)) (f152 : Place × Int × Int × Unit → Option (Place × Bool × Unit)) : Env := envL [(151, mkE p151 r151 false f151), (152, mkE p152 r152 false f152)]
noncomputable def L108 (f151 : Jet × Int × Unit → Option (Bool × Unit)) (f152 : Place × Int × Int × Unit → Option (Place × Bool × Unit)) : LEnv (densS (muts p108 ++ r108)) := lenv []
theorem e108 (f151 : Jet × Int × Unit → Option (Bool × Unit)) (f152 : Place × Int × Int × Unit → Option (Place × Bool × Unit)) (a : densS p108) : runF (E108 f151 f152) tab2 (fun _ => false) p108 r108 Proofs.Tryz.f108 (L108 f151 f152) a = F108 f151 f152 a := by kernel_rfl
theorem ok108 {f151 : Jet × Int × Unit → Option (Bool × Unit)} {f152 : Place × Int × Int × Unit → Option (Place × Bool × Unit)} (h151 : OK Proofs.Tryz.prog 151 (mkE p151 r151 false f151)) (h152 : OK Proofs.Tryz.prog 152 (mkE p152 r152 false f152)) : OK Proofs.Tryz.prog 108 (mkE p108 r108 false (F108 f151 f152)) :=
  fn_ok tab_ok2 (envL_ok (l := [(151, mkE p151 r151 false f151), (152, mkE p152 r152 false f152)]) (OKs.cons h151 (OKs.cons h152 OKs.nil))) mixed2 (ann := (fun _ => false)) (L := L108 f151 f152) (fn := Proofs.Tryz.f108) (c := bodyC Proofs.Tryz.f108) (ls := []) Proofs.Tryz.func108 (by kernel_rfl) (by kernel_rfl) (by kernel_rfl) (by kernel_rfl)
    LoopsP.nil (e108 f151 f152)
/-! impl.DriftAt -/
def p153 : List SP := [.one (.r .gust), .one (.int .i64)]
def r153 : List SP := [.t .place]
def q153_0 : List SP := pat 27 0 [(1, .one (.int .i64)), (4, .boxt 5000001 .place), (5, .boxt 5000002 .place), (13, .one (.r .gust)), (14, .one (.int .i64)), (15, .one (.int .i64))]
noncomputable def s153_0 (f116 : List Gust × Unit → Option (Bool × Unit)) (t2 : Int × Place × Place × List Gust × Int × Int × Unit) (rec K : Int × Place × Place × List Gust × Int × Int × Unit → Option (Place × Unit)) : Option (Place × Unit) :=
  cond (decide (t2.2.2.2.2.2.1 < t2.2.2.2.2.1)) (rdL t2.2.2.2.1 t2.2.2.2.2.2.1 fun d3 => cond (decide (d3.From ≤ t2.1)) (rec (t2.1, t2.2.1, d3.Drift, t2.2.2.2.1, t2.2.2.2.2.1, (w64 (t2.2.2.2.2.2.1 + 1)), ())) (rec (t2.1, t2.2.1, t2.2.2.1, t2.2.2.2.1, t2.2.2.2.2.1, (w64 (t2.2.2.2.2.2.1 + 1)), ()))) (K (t2.1, t2.2.1, t2.2.2.1, t2.2.2.2.1, t2.2.2.2.2.1, t2.2.2.2.2.2.1, ()))
noncomputable def F153 (f116 : List Gust × Unit → Option (Bool × Unit)) (a : List Gust × Int × Unit) : Option (Place × Unit) :=
  (f116 (a.1, ())).bind fun x1 => cond (!x1.1) (some ((⟨0, 0⟩ : Place), ())) (iterF (s153_0 f116) fuel (a.2.1, (⟨0, 0⟩ : Place), (⟨0, 0⟩ : Place), a.1, (Int.ofNat (List.length a.1)), 0, ()) fun t4 => some (t4.2.2.1, ()))
def E153 (f116 : List Gust × Unit → Option (Bool × Unit)) : Env := envL [(116, mkE p116 r116 false f116)]
noncomputable def L153 (f116 : List Gust × Unit → Option (Bool × Unit)) : LEnv (densS (muts p153 ++ r153)) := lenv [(0, loopL (R := densS (muts p153 ++ r153)) q153_0 (s153_0 f116))]
theorem e153_0 (f116 : List Gust × Unit → Option (Bool × Unit)) (X : Nat → St → Option (densS (muts p153 ++ r153))) (rec K : densS q153_0 → Option (densS (muts p153 ++ r153))) (t : densS q153_0) :
    ev (E153 f116) tab2 (fun _ => false) (L153 f116) (retK tab2 p153 r153 Proofs.Tryz.f153.results.toList) (loopC Proofs.Tryz.f153 0) (fun i s => cond (Nat.beq i 0) (decK 100 q153_0 s K) (X i s)) (fun s => decK 100 q153_0 s rec) (enc q153_0 t) = s153_0 f116 t rec K := by kernel_rfl
theorem e153 (f116 : List Gust × Unit → Option (Bool × Unit)) (a : densS p153) : runF (E153 f116) tab2 (fun _ => false) p153 r153 Proofs.Tryz.f153 (L153 f116) a = F153 f116 a := by kernel_rfl
theorem ok153 {f116 : List Gust × Unit → Option (Bool × Unit)} (h116 : OK Proofs.Tryz.prog 116 (mkE p116 r116 false f116)) : OK Proofs.Tryz.prog 153 (mkE p153 r153 false (F153 f116)) :=
  fn_ok tab_ok2 (envL_ok (l := [(116, mkE p116 r116 false f116)]) (OKs.cons h116 OKs.nil)) mixed2 (ann := (fun _ => false)) (L := L153 f116) (fn := Proofs.Tryz.f153) (c := bodyC Proofs.Tryz.f153) (ls := [(0, loopC Proofs.Tryz.f153 0)]) Proofs.Tryz.func153 (by kernel_rfl) (by kernel_rfl) (by kernel_rfl) (by kernel_rfl)
    (LoopsP.cons q153_0 (s153_0 f116) rfl (e153_0 f116) LoopsP.nil) (e153 f116)
/-! impl.DriftOver -/
def p109 : List SP := [.one (.r .gust), .one (.int .i64), .one (.int .i64)]
def r109 : List SP := [.t .place, .one (.bool)]
def q109_0 : List SP := pat 50 0 [(0, .one (.r .gust)), (2, .one (.int .i64)), (6, .boxt 5000001 .place), (8, .boxt 5000002 .place), (9, .one (.int .i64))]
noncomputable def s109_0 (f116 : List Gust × Unit → Option (Bool × Unit)) (f153 : List Gust × Int × Unit → Option (Place × Unit)) (t2 : List Gust × Int × Place × Place × Int × Unit) (rec K : List Gust × Int × Place × Place × Int × Unit → Option (Place × Bool × Unit)) : Option (Place × Bool × Unit) :=
  cond (decide (t2.2.2.2.2.1 < t2.2.1)) ((f153 (t2.1, t2.2.2.2.2.1, ())).bind fun x3 => rec (t2.1, t2.2.1, t2.2.2.1, (⟨(w64 (t2.2.2.2.1.X + x3.1.X)), (w64 (t2.2.2.2.1.Y + x3.1.Y))⟩ : Place), (w64 (t2.2.2.2.2.1 + 1)), ())) (K (t2.1, t2.2.1, t2.2.2.1, t2.2.2.2.1, t2.2.2.2.2.1, ()))
noncomputable def F109 (f116 : List Gust × Unit → Option (Bool × Unit)) (f153 : List Gust × Int × Unit → Option (Place × Unit)) (a : List Gust × Int × Int × Unit) : Option (Place × Bool × Unit) :=
  (f116 (a.1, ())).bind fun x1 => cond (!(!x1.1)) (cond (!(decide (a.2.1 < 0))) (cond (!(decide (a.2.2.1 < a.2.1))) (cond (decide (a.2.2.1 > 128)) (some ((⟨0, 0⟩ : Place), false, ())) (iterF (s109_0 f116 f153) fuel (a.1, a.2.2.1, (⟨0, 0⟩ : Place), (⟨0, 0⟩ : Place), a.2.1, ()) fun t4 => some (t4.2.2.2.1, true, ()))) (some ((⟨0, 0⟩ : Place), false, ()))) (some ((⟨0, 0⟩ : Place), false, ()))) (some ((⟨0, 0⟩ : Place), false, ()))
def E109 (f116 : List Gust × Unit → Option (Bool × Unit)) (f153 : List Gust × Int × Unit → Option (Place × Unit)) : Env := envL [(116, mkE p116 r116 false f116), (153, mkE p153 r153 false f153)]
noncomputable def L109 (f116 : List Gust × Unit → Option (Bool × Unit)) (f153 : List Gust × Int × Unit → Option (Place × Unit)) : LEnv (densS (muts p109 ++ r109)) := lenv [(0, loopL (R := densS (muts p109 ++ r109)) q109_0 (s109_0 f116 f153))]
theorem e109_0 (f116 : List Gust × Unit → Option (Bool × Unit)) (f153 : List Gust × Int × Unit → Option (Place × Unit)) (X : Nat → St → Option (densS (muts p109 ++ r109))) (rec K : densS q109_0 → Option (densS (muts p109 ++ r109))) (t : densS q109_0) :
    ev (E109 f116 f153) tab2 (fun _ => false) (L109 f116 f153) (retK tab2 p109 r109 Proofs.Tryz.f109.results.toList) (loopC Proofs.Tryz.f109 0) (fun i s => cond (Nat.beq i 0) (decK 100 q109_0 s K) (X i s)) (fun s => decK 100 q109_0 s rec) (enc q109_0 t) = s109_0 f116 f153 t rec K := by kernel_rfl
theorem e109 (f116 : List Gust × Unit → Option (Bool × Unit)) (f153 : List Gust × Int × Unit → Option (Place × Unit)) (a : densS p109) : runF (E109 f116 f153) tab2 (fun _ => false) p109 r109 Proofs.Tryz.f109 (L109 f116 f153) a = F109 f116 f153 a := by kernel_rfl
theorem ok109 {f116 : List Gust × Unit → Option (Bool × Unit)} {f153 : List Gust × Int × Unit → Option (Place × Unit)} (h116 : OK Proofs.Tryz.prog 116 (mkE p116 r116 false f116)) (h153 : OK Proofs.Tryz.prog 153 (mkE p153 r153 false f153)) : OK Proofs.Tryz.prog 109 (mkE p109 r109 false (F109 f116 f153)) :=
  fn_ok tab_ok2 (envL_ok (l := [(116, mkE p116 r116 false f116), (153, mkE p153 r153 false f153)]) (OKs.cons h116 (OKs.cons h153 OKs.nil))) mixed2 (ann := (fun _ => false)) (L := L109 f116 f153) (fn := Proofs.Tryz.f109) (c := bodyC Proofs.Tryz.f109) (ls := [(0, loopC Proofs.Tryz.f109 0)]) Proofs.Tryz.func109 (by kernel_rfl) (by kernel_rfl) (by kernel_rfl) (by kernel_rfl)
    (LoopsP.cons q109_0 (s109_0 f116 f153) rfl (e109_0 f116 f153) LoopsP.nil) (e109 f116 f153)
/-! impl.HeightAt -/
def p110 : List SP := [.t .jet, .one (.int .i64)]
def r110 : List SP := [.one (.int .i64)]
noncomputable def F110 (f151 : Jet × Int × Unit → Option (Bool × Unit)) (a : Jet × Int × Unit) : Option (Int × Unit) :=
  (f151 (a.1, a.2.1, ())).bind fun x1 => cond (!x1.1) (some (0, ())) (some ((w64 (a.2.1 * (w64 ((w64 (a.1.Lift + 1)) - a.2.1)))), ()))
def E110 (f151 : Jet × Int × Unit → Option (Bool × Unit)) : Env := envL [(151, mkE p151 r151 false f151)]
noncomputable def L110 (f151 : Jet × Int × Unit → Option (Bool × Unit)) : LEnv (densS (muts p110 ++ r110)) := lenv []
theorem e110 (f151 : Jet × Int × Unit → Option (Bool × Unit)) (a : densS p110) : runF (E110 f151) tab2 (fun _ => false) p110 r110 Proofs.Tryz.f110 (L110 f151) a = F110 f151 a := by kernel_rfl
theorem ok110 {f151 : Jet × Int × Unit → Option (Bool × Unit)} (h151 : OK Proofs.Tryz.prog 151 (mkE p151 r151 false f151)) : OK Proofs.Tryz.prog 110 (mkE p110 r110 false (F110 f151)) :=
  fn_ok tab_ok2 (envL_ok (l := [(151, mkE p151 r151 false f151)]) (OKs.cons h151 OKs.nil)) mixed2 (ann := (fun _ => false)) (L := L110 f151) (fn := Proofs.Tryz.f110) (c := bodyC Proofs.Tryz.f110) (ls := []) Proofs.Tryz.func110 (by kernel_rfl) (by kernel_rfl) (by kernel_rfl) (by kernel_rfl)
    LoopsP.nil (e110 f151)
/-! (impl.throw).dropAt -/
def p56 : List SP := [.t .throw, .one (.r .gust), .one (.int .i64)]
def r56 : List SP := [.t .drop]
noncomputable def F56 (f108 : Jet × Int × Unit → Option (Place × Bool × Unit)) (f109 : List Gust × Int × Int × Unit → Option (Place × Bool × Unit)) (f110 : Jet × Int × Unit → Option (Int × Unit)) (a : Throw × List Gust × Int × Unit) : Option (Drop × Unit) :=
  (f108 (a.1.jet, (w64 (a.2.2.1 - a.1.born)), ())).bind fun x1 => (f109 (a.2.1, a.1.born, a.2.2.1, ())).bind fun x2 => (f110 (a.1.jet, (w64 (a.2.2.1 - a.1.born)), ())).bind fun x3 => some ((⟨a.1.name, a.1.born, ⟨(w64 (x1.1.X + x2.1.X)), (w64 (x1.1.Y + x2.1.Y))⟩, x3.1⟩ : Drop), ())
def E56 (f108 : Jet × Int × Unit → Option (Place × Bool × Unit)) (f109 : List Gust × Int × Int × Unit → Option (Place × Bool × Unit)) (f110 : Jet × Int × Unit → Option (Int × Unit)) : Env := envL [(108, mkE p108 r108 false f108), (109, mkE p109 r109 false f109), (110, mkE p110 r110 false f110)]
noncomputable def L56 (f108 : Jet × Int × Unit → Option (Place × Bool × Unit)) (f109 : List Gust × Int × Int × Unit → Option (Place × Bool × Unit)) (f110 : Jet × Int × Unit → Option (Int × Unit)) : LEnv (densS (muts p56 ++ r56)) := lenv []
theorem e56 (f108 : Jet × Int × Unit → Option (Place × Bool × Unit)) (f109 : List Gust × Int × Int × Unit → Option (Place × Bool × Unit)) (f110 : Jet × Int × Unit → Option (Int × Unit)) (a : densS p56) : runF (E56 f108 f109 f110) tab2 (fun _ => false) p56 r56 Proofs.Tryz.f56 (L56 f108 f109 f110) a = F56 f108 f109 f110 a := by kernel_rfl
theorem ok56 {f108 : Jet × Int × Unit → Option (Place × Bool × Unit)} {f109 : List Gust × Int × Int × Unit → Option (Place × Bool × Unit)} {f110 : Jet × Int × Unit → Option (Int × Unit)} (h108 : OK Proofs.Tryz.prog 108 (mkE p108 r108 false f108)) (h109 : OK Proofs.Tryz.prog 109 (mkE p109 r109 false f109)) (h110 : OK Proofs.Tryz.prog 110 (mkE p110 r110 false f110)) : OK Proofs.Tryz.prog 56 (mkE p56 r56 false (F56 f108 f109 f110)) :=
  fn_ok tab_ok2 (envL_ok (l := [(108, mkE p108 r108 false f108), (109, mkE p109 r109 false f109), (110, mkE p110 r110 false f110)]) (OKs.cons h108 (OKs.cons h109 (OKs.cons h110 OKs.nil)))) mixed2 (ann := (fun _ => false)) (L := L56 f108 f109 f110) (fn := Proofs.Tryz.f56) (c := bodyC Proofs.Tryz.f56) (ls := []) Proofs.Tryz.func56 (by kernel_rfl) (by kernel_rfl) (by kernel_rfl) (by kernel_rfl)
    LoopsP.nil (e56 f108 f109 f110)
/-! impl.DropsAt -/
def p14 : List SP := [.agg [.r .device, .r .cue, .r .gust, .int .i64], .one (.int .i64)]
def r14 : List SP := [.one (.o 0 .drop)]
def q14_0 : List SP := pat 36 0 [(1, .one (.int .i64)), (2, .box 5000001 [.r .device, .r .cue, .r .gust, .int .i64]), (5, .one (.o 5000002 .drop)), (10, .one (.o 5000003 .throw)), (11, .one (.int .i64)), (12, .one (.int .i64))]
noncomputable def s14_0 (f54 : (List Device × List Cue × List Gust × Int × Unit) × Unit → Option (List Throw × Unit)) (f55 : Throw × Unit → Option (Int × Unit)) (f56 : Throw × List Gust × Int × Unit → Option (Drop × Unit)) (t2 : Int × (List Device × List Cue × List Gust × Int × Unit) × List Drop × List Throw × Int × Int × Unit) (rec K : Int × (List Device × List Cue × List Gust × Int × Unit) × List Drop × List Throw × Int × Int × Unit → Option (List Drop × Unit)) : Option (List Drop × Unit) :=
  cond (decide (t2.2.2.2.2.2.1 < t2.2.2.2.2.1)) (rdL t2.2.2.2.1 t2.2.2.2.2.2.1 fun _ => (t2.2.2.2.1[(Int.toNat t2.2.2.2.2.2.1)]?).bind fun d3 => cond (decide (d3.born ≤ t2.1)) ((f55 (d3, ())).bind fun x4 => cond (decide (t2.1 < x4.1)) ((f56 (d3, t2.2.1.2.2.1, t2.1, ())).bind fun x5 => capK (List.length t2.2.2.1 + List.length ([x5.1] : List Drop)) (rec (t2.1, (t2.2.1.1, t2.2.1.2.1, t2.2.1.2.2.1, t2.2.1.2.2.2.1, ()), (t2.2.2.1 ++ ([x5.1] : List Drop)), t2.2.2.2.1, t2.2.2.2.2.1, (w64 (t2.2.2.2.2.2.1 + 1)), ()))) (rec (t2.1, (t2.2.1.1, t2.2.1.2.1, t2.2.1.2.2.1, t2.2.1.2.2.2.1, ()), t2.2.2.1, t2.2.2.2.1, t2.2.2.2.2.1, (w64 (t2.2.2.2.2.2.1 + 1)), ()))) (rec (t2.1, (t2.2.1.1, t2.2.1.2.1, t2.2.1.2.2.1, t2.2.1.2.2.2.1, ()), t2.2.2.1, t2.2.2.2.1, t2.2.2.2.2.1, (w64 (t2.2.2.2.2.2.1 + 1)), ()))) (K (t2.1, (t2.2.1.1, t2.2.1.2.1, t2.2.1.2.2.1, t2.2.1.2.2.2.1, ()), t2.2.2.1, t2.2.2.2.1, t2.2.2.2.2.1, t2.2.2.2.2.2.1, ()))
noncomputable def F14 (f54 : (List Device × List Cue × List Gust × Int × Unit) × Unit → Option (List Throw × Unit)) (f55 : Throw × Unit → Option (Int × Unit)) (f56 : Throw × List Gust × Int × Unit → Option (Drop × Unit)) (a : (List Device × List Cue × List Gust × Int × Unit) × Int × Unit) : Option (List Drop × Unit) :=
  (f54 ((a.1.1, a.1.2.1, a.1.2.2.1, a.1.2.2.2.1, ()), ())).bind fun x1 => iterF (s14_0 f54 f55 f56) fuel (a.2.1, (a.1.1, a.1.2.1, a.1.2.2.1, a.1.2.2.2.1, ()), ([] : List Drop), x1.1, (Int.ofNat (List.length x1.1)), 0, ()) fun t6 => some (t6.2.2.1, ())
def E14 (f54 : (List Device × List Cue × List Gust × Int × Unit) × Unit → Option (List Throw × Unit)) (f55 : Throw × Unit → Option (Int × Unit)) (f56 : Throw × List Gust × Int × Unit → Option (Drop × Unit)) : Env := envL [(54, mkE p54 r54 false f54), (55, mkE p55 r55 false f55), (56, mkE p56 r56 false f56)]
noncomputable def L14 (f54 : (List Device × List Cue × List Gust × Int × Unit) × Unit → Option (List Throw × Unit)) (f55 : Throw × Unit → Option (Int × Unit)) (f56 : Throw × List Gust × Int × Unit → Option (Drop × Unit)) : LEnv (densS (muts p14 ++ r14)) := lenv [(0, loopL (R := densS (muts p14 ++ r14)) q14_0 (s14_0 f54 f55 f56))]
theorem e14_0 (f54 : (List Device × List Cue × List Gust × Int × Unit) × Unit → Option (List Throw × Unit)) (f55 : Throw × Unit → Option (Int × Unit)) (f56 : Throw × List Gust × Int × Unit → Option (Drop × Unit)) (X : Nat → St → Option (densS (muts p14 ++ r14))) (rec K : densS q14_0 → Option (densS (muts p14 ++ r14))) (t : densS q14_0) :
    ev (E14 f54 f55 f56) tab2 (fun _ => false) (L14 f54 f55 f56) (retK tab2 p14 r14 Proofs.Tryz.f14.results.toList) (loopC Proofs.Tryz.f14 0) (fun i s => cond (Nat.beq i 0) (decK 100 q14_0 s K) (X i s)) (fun s => decK 100 q14_0 s rec) (enc q14_0 t) = s14_0 f54 f55 f56 t rec K := by kernel_rfl
theorem e14 (f54 : (List Device × List Cue × List Gust × Int × Unit) × Unit → Option (List Throw × Unit)) (f55 : Throw × Unit → Option (Int × Unit)) (f56 : Throw × List Gust × Int × Unit → Option (Drop × Unit)) (a : densS p14) : runF (E14 f54 f55 f56) tab2 (fun _ => false) p14 r14 Proofs.Tryz.f14 (L14 f54 f55 f56) a = F14 f54 f55 f56 a := by kernel_rfl
theorem ok14 {f54 : (List Device × List Cue × List Gust × Int × Unit) × Unit → Option (List Throw × Unit)} {f55 : Throw × Unit → Option (Int × Unit)} {f56 : Throw × List Gust × Int × Unit → Option (Drop × Unit)} (h54 : OK Proofs.Tryz.prog 54 (mkE p54 r54 false f54)) (h55 : OK Proofs.Tryz.prog 55 (mkE p55 r55 false f55)) (h56 : OK Proofs.Tryz.prog 56 (mkE p56 r56 false f56)) : OK Proofs.Tryz.prog 14 (mkE p14 r14 false (F14 f54 f55 f56)) :=
  fn_ok tab_ok2 (envL_ok (l := [(54, mkE p54 r54 false f54), (55, mkE p55 r55 false f55), (56, mkE p56 r56 false f56)]) (OKs.cons h54 (OKs.cons h55 (OKs.cons h56 OKs.nil)))) mixed2 (ann := (fun _ => false)) (L := L14 f54 f55 f56) (fn := Proofs.Tryz.f14) (c := bodyC Proofs.Tryz.f14) (ls := [(0, loopC Proofs.Tryz.f14 0)]) Proofs.Tryz.func14 (by kernel_rfl) (by kernel_rfl) (by kernel_rfl) (by kernel_rfl)
    (LoopsP.cons q14_0 (s14_0 f54 f55 f56) rfl (e14_0 f54 f55 f56) LoopsP.nil) (e14 f54 f55 f56)
/-! laws.eqPlace -/
def p75 : List SP := [.t .place, .t .place]
def r75 : List SP := [.one (.bool)]
noncomputable def F75 (a : Place × Place × Unit) : Option (Bool × Unit) :=
  cond (!(decide (a.1.X = a.2.1.X))) (some (false, ())) (cond (!(decide (a.1.Y = a.2.1.Y))) (some (false, ())) (some (true, ())))
def E75 : Env := envL []
noncomputable def L75 : LEnv (densS (muts p75 ++ r75)) := lenv []
theorem e75 (a : densS p75) : runF (E75) tab2 (fun _ => false) p75 r75 Proofs.Tryz.f75 (L75) a = F75 a := by kernel_rfl
theorem ok75 : OK Proofs.Tryz.prog 75 (mkE p75 r75 false (F75)) :=
  fn_ok tab_ok2 (envL_ok (l := []) OKs.nil) mixed2 (ann := (fun _ => false)) (L := L75) (fn := Proofs.Tryz.f75) (c := bodyC Proofs.Tryz.f75) (ls := []) Proofs.Tryz.func75 (by kernel_rfl) (by kernel_rfl) (by kernel_rfl) (by kernel_rfl)
    LoopsP.nil (e75)
/-! laws.eqDrop -/
def p57 : List SP := [.t .drop, .t .drop]
def r57 : List SP := [.one (.bool)]
noncomputable def F57 (f75 : Place × Place × Unit → Option (Bool × Unit)) (a : Drop × Drop × Unit) : Option (Bool × Unit) :=
  cond (!decide (a.1.From = a.2.1.From)) (some (false, ())) (cond (!(decide (a.1.Born = a.2.1.Born))) (some (false, ())) ((f75 (a.1.At, a.2.1.At, ())).bind fun x1 => cond (!x1.1) (some (false, ())) (cond (!(decide (a.1.Height = a.2.1.Height))) (some (false, ())) (some (true, ())))))
def E57 (f75 : Place × Place × Unit → Option (Bool × Unit)) : Env := envL [(75, mkE p75 r75 false f75)]
noncomputable def L57 (f75 : Place × Place × Unit → Option (Bool × Unit)) : LEnv (densS (muts p57 ++ r57)) := lenv []
theorem e57 (f75 : Place × Place × Unit → Option (Bool × Unit)) (a : densS p57) : runF (E57 f75) tab2 (fun _ => false) p57 r57 Proofs.Tryz.f57 (L57 f75) a = F57 f75 a := by kernel_rfl
theorem ok57 {f75 : Place × Place × Unit → Option (Bool × Unit)} (h75 : OK Proofs.Tryz.prog 75 (mkE p75 r75 false f75)) : OK Proofs.Tryz.prog 57 (mkE p57 r57 false (F57 f75)) :=
  fn_ok tab_ok2 (envL_ok (l := [(75, mkE p75 r75 false f75)]) (OKs.cons h75 OKs.nil)) mixed2 (ann := (fun _ => false)) (L := L57 f75) (fn := Proofs.Tryz.f57) (c := bodyC Proofs.Tryz.f57) (ls := []) Proofs.Tryz.func57 (by kernel_rfl) (by kernel_rfl) (by kernel_rfl) (by kernel_rfl)
    LoopsP.nil (e57 f75)
/-! laws.eqDropS -/
def p15 : List SP := [.one (.r .drop), .one (.r .drop)]
def r15 : List SP := [.one (.bool)]
def q15_0 : List SP := pat 27 0 [(0, .one (.r .drop)), (1, .one (.r .drop)), (5, .one (.int .i64))]
noncomputable def s15_0 (f57 : Drop × Drop × Unit → Option (Bool × Unit)) (t1 : List Drop × List Drop × Int × Unit) (rec K : List Drop × List Drop × Int × Unit → Option (Bool × Unit)) : Option (Bool × Unit) :=
  cond (decide (t1.2.2.1 < (Int.ofNat (List.length t1.1)))) (rdL t1.1 t1.2.2.1 fun d2 => rdL t1.2.1 t1.2.2.1 fun d3 => (f57 (d2, d3, ())).bind fun x4 => cond (!x4.1) (some (false, ())) (rec (t1.1, t1.2.1, (w64 (t1.2.2.1 + 1)), ()))) (K (t1.1, t1.2.1, t1.2.2.1, ()))
noncomputable def F15 (f57 : Drop × Drop × Unit → Option (Bool × Unit)) (a : List Drop × List Drop × Unit) : Option (Bool × Unit) :=
  cond (!(decide ((Int.ofNat (List.length a.1)) = (Int.ofNat (List.length a.2.1))))) (some (false, ())) (iterF (s15_0 f57) fuel (a.1, a.2.1, 0, ()) fun t5 => some (true, ()))
def E15 (f57 : Drop × Drop × Unit → Option (Bool × Unit)) : Env := envL [(57, mkE p57 r57 false f57)]
noncomputable def L15 (f57 : Drop × Drop × Unit → Option (Bool × Unit)) : LEnv (densS (muts p15 ++ r15)) := lenv [(0, loopL (R := densS (muts p15 ++ r15)) q15_0 (s15_0 f57))]
theorem e15_0 (f57 : Drop × Drop × Unit → Option (Bool × Unit)) (X : Nat → St → Option (densS (muts p15 ++ r15))) (rec K : densS q15_0 → Option (densS (muts p15 ++ r15))) (t : densS q15_0) :
    ev (E15 f57) tab2 (fun _ => false) (L15 f57) (retK tab2 p15 r15 Proofs.Tryz.f15.results.toList) (loopC Proofs.Tryz.f15 0) (fun i s => cond (Nat.beq i 0) (decK 100 q15_0 s K) (X i s)) (fun s => decK 100 q15_0 s rec) (enc q15_0 t) = s15_0 f57 t rec K := by kernel_rfl
theorem e15 (f57 : Drop × Drop × Unit → Option (Bool × Unit)) (a : densS p15) : runF (E15 f57) tab2 (fun _ => false) p15 r15 Proofs.Tryz.f15 (L15 f57) a = F15 f57 a := by kernel_rfl
theorem ok15 {f57 : Drop × Drop × Unit → Option (Bool × Unit)} (h57 : OK Proofs.Tryz.prog 57 (mkE p57 r57 false f57)) : OK Proofs.Tryz.prog 15 (mkE p15 r15 false (F15 f57)) :=
  fn_ok tab_ok2 (envL_ok (l := [(57, mkE p57 r57 false f57)]) (OKs.cons h57 OKs.nil)) mixed2 (ann := (fun _ => false)) (L := L15 f57) (fn := Proofs.Tryz.f15) (c := bodyC Proofs.Tryz.f15) (ls := [(0, loopC Proofs.Tryz.f15 0)]) Proofs.Tryz.func15 (by kernel_rfl) (by kernel_rfl) (by kernel_rfl) (by kernel_rfl)
    (LoopsP.cons q15_0 (s15_0 f57) rfl (e15_0 f57) LoopsP.nil) (e15 f57)
/-! laws.eqDevice -/
def p111 : List SP := [.t .device, .t .device]
def r111 : List SP := [.one (.bool)]
noncomputable def F111 (f75 : Place × Place × Unit → Option (Bool × Unit)) (a : Device × Device × Unit) : Option (Bool × Unit) :=
  cond (!decide (a.1.Name = a.2.1.Name)) (some (false, ())) (cond (!(decide (a.1.Kind = a.2.1.Kind))) (some (false, ())) (cond (!decide (a.1.Line = a.2.1.Line)) (some (false, ())) ((f75 (a.1.At, a.2.1.At, ())).bind fun x1 => cond (!x1.1) (some (false, ())) (cond (!(decide (a.1.Heading = a.2.1.Heading))) (some (false, ())) (cond (!(decide (a.1.Tilt = a.2.1.Tilt))) (some (false, ())) (cond (!(decide (a.1.Most = a.2.1.Most))) (some (false, ())) (some (true, ()))))))))
def E111 (f75 : Place × Place × Unit → Option (Bool × Unit)) : Env := envL [(75, mkE p75 r75 false f75)]
noncomputable def L111 (f75 : Place × Place × Unit → Option (Bool × Unit)) : LEnv (densS (muts p111 ++ r111)) := lenv []
theorem e111 (f75 : Place × Place × Unit → Option (Bool × Unit)) (a : densS p111) : runF (E111 f75) tab2 (fun _ => false) p111 r111 Proofs.Tryz.f111 (L111 f75) a = F111 f75 a := by kernel_rfl
theorem ok111 {f75 : Place × Place × Unit → Option (Bool × Unit)} (h75 : OK Proofs.Tryz.prog 75 (mkE p75 r75 false f75)) : OK Proofs.Tryz.prog 111 (mkE p111 r111 false (F111 f75)) :=
  fn_ok tab_ok2 (envL_ok (l := [(75, mkE p75 r75 false f75)]) (OKs.cons h75 OKs.nil)) mixed2 (ann := (fun _ => false)) (L := L111 f75) (fn := Proofs.Tryz.f111) (c := bodyC Proofs.Tryz.f111) (ls := []) Proofs.Tryz.func111 (by kernel_rfl) (by kernel_rfl) (by kernel_rfl) (by kernel_rfl)
    LoopsP.nil (e111 f75)
/-! laws.eqDeviceS -/
def p58 : List SP := [.one (.r .device), .one (.r .device)]
def r58 : List SP := [.one (.bool)]
def q58_0 : List SP := pat 27 0 [(0, .one (.r .device)), (1, .one (.r .device)), (5, .one (.int .i64))]
noncomputable def s58_0 (f111 : Device × Device × Unit → Option (Bool × Unit)) (t1 : List Device × List Device × Int × Unit) (rec K : List Device × List Device × Int × Unit → Option (Bool × Unit)) : Option (Bool × Unit) :=
  cond (decide (t1.2.2.1 < (Int.ofNat (List.length t1.1)))) (rdL t1.1 t1.2.2.1 fun d2 => rdL t1.2.1 t1.2.2.1 fun d3 => (f111 (d2, d3, ())).bind fun x4 => cond (!x4.1) (some (false, ())) (rec (t1.1, t1.2.1, (w64 (t1.2.2.1 + 1)), ()))) (K (t1.1, t1.2.1, t1.2.2.1, ()))
noncomputable def F58 (f111 : Device × Device × Unit → Option (Bool × Unit)) (a : List Device × List Device × Unit) : Option (Bool × Unit) :=
  cond (!(decide ((Int.ofNat (List.length a.1)) = (Int.ofNat (List.length a.2.1))))) (some (false, ())) (iterF (s58_0 f111) fuel (a.1, a.2.1, 0, ()) fun t5 => some (true, ()))
def E58 (f111 : Device × Device × Unit → Option (Bool × Unit)) : Env := envL [(111, mkE p111 r111 false f111)]
noncomputable def L58 (f111 : Device × Device × Unit → Option (Bool × Unit)) : LEnv (densS (muts p58 ++ r58)) := lenv [(0, loopL (R := densS (muts p58 ++ r58)) q58_0 (s58_0 f111))]
theorem e58_0 (f111 : Device × Device × Unit → Option (Bool × Unit)) (X : Nat → St → Option (densS (muts p58 ++ r58))) (rec K : densS q58_0 → Option (densS (muts p58 ++ r58))) (t : densS q58_0) :
    ev (E58 f111) tab2 (fun _ => false) (L58 f111) (retK tab2 p58 r58 Proofs.Tryz.f58.results.toList) (loopC Proofs.Tryz.f58 0) (fun i s => cond (Nat.beq i 0) (decK 100 q58_0 s K) (X i s)) (fun s => decK 100 q58_0 s rec) (enc q58_0 t) = s58_0 f111 t rec K := by kernel_rfl
theorem e58 (f111 : Device × Device × Unit → Option (Bool × Unit)) (a : densS p58) : runF (E58 f111) tab2 (fun _ => false) p58 r58 Proofs.Tryz.f58 (L58 f111) a = F58 f111 a := by kernel_rfl
theorem ok58 {f111 : Device × Device × Unit → Option (Bool × Unit)} (h111 : OK Proofs.Tryz.prog 111 (mkE p111 r111 false f111)) : OK Proofs.Tryz.prog 58 (mkE p58 r58 false (F58 f111)) :=
  fn_ok tab_ok2 (envL_ok (l := [(111, mkE p111 r111 false f111)]) (OKs.cons h111 OKs.nil)) mixed2 (ann := (fun _ => false)) (L := L58 f111) (fn := Proofs.Tryz.f58) (c := bodyC Proofs.Tryz.f58) (ls := [(0, loopC Proofs.Tryz.f58 0)]) Proofs.Tryz.func58 (by kernel_rfl) (by kernel_rfl) (by kernel_rfl) (by kernel_rfl)
    (LoopsP.cons q58_0 (s58_0 f111) rfl (e58_0 f111) LoopsP.nil) (e58 f111)
/-! laws.eqCue -/
def p112 : List SP := [.t .cue, .t .cue]
def r112 : List SP := [.one (.bool)]
noncomputable def F112 (a : Cue × Cue × Unit) : Option (Bool × Unit) :=
  cond (!(decide (a.1.Tick = a.2.1.Tick))) (some (false, ())) (cond (!decide (a.1.Name = a.2.1.Name)) (some (false, ())) (cond (!(decide (a.1.Level = a.2.1.Level))) (some (false, ())) (cond (!(decide (a.1.Ramp = a.2.1.Ramp))) (some (false, ())) (some (true, ())))))
def E112 : Env := envL []
noncomputable def L112 : LEnv (densS (muts p112 ++ r112)) := lenv []
theorem e112 (a : densS p112) : runF (E112) tab2 (fun _ => false) p112 r112 Proofs.Tryz.f112 (L112) a = F112 a := by kernel_rfl
theorem ok112 : OK Proofs.Tryz.prog 112 (mkE p112 r112 false (F112)) :=
  fn_ok tab_ok2 (envL_ok (l := []) OKs.nil) mixed2 (ann := (fun _ => false)) (L := L112) (fn := Proofs.Tryz.f112) (c := bodyC Proofs.Tryz.f112) (ls := []) Proofs.Tryz.func112 (by kernel_rfl) (by kernel_rfl) (by kernel_rfl) (by kernel_rfl)
    LoopsP.nil (e112)
/-! laws.eqCueS -/
def p59 : List SP := [.one (.r .cue), .one (.r .cue)]
def r59 : List SP := [.one (.bool)]
def q59_0 : List SP := pat 27 0 [(0, .one (.r .cue)), (1, .one (.r .cue)), (5, .one (.int .i64))]
noncomputable def s59_0 (f112 : Cue × Cue × Unit → Option (Bool × Unit)) (t1 : List Cue × List Cue × Int × Unit) (rec K : List Cue × List Cue × Int × Unit → Option (Bool × Unit)) : Option (Bool × Unit) :=
  cond (decide (t1.2.2.1 < (Int.ofNat (List.length t1.1)))) (rdL t1.1 t1.2.2.1 fun d2 => rdL t1.2.1 t1.2.2.1 fun d3 => (f112 (d2, d3, ())).bind fun x4 => cond (!x4.1) (some (false, ())) (rec (t1.1, t1.2.1, (w64 (t1.2.2.1 + 1)), ()))) (K (t1.1, t1.2.1, t1.2.2.1, ()))
noncomputable def F59 (f112 : Cue × Cue × Unit → Option (Bool × Unit)) (a : List Cue × List Cue × Unit) : Option (Bool × Unit) :=
  cond (!(decide ((Int.ofNat (List.length a.1)) = (Int.ofNat (List.length a.2.1))))) (some (false, ())) (iterF (s59_0 f112) fuel (a.1, a.2.1, 0, ()) fun t5 => some (true, ()))
def E59 (f112 : Cue × Cue × Unit → Option (Bool × Unit)) : Env := envL [(112, mkE p112 r112 false f112)]
noncomputable def L59 (f112 : Cue × Cue × Unit → Option (Bool × Unit)) : LEnv (densS (muts p59 ++ r59)) := lenv [(0, loopL (R := densS (muts p59 ++ r59)) q59_0 (s59_0 f112))]
theorem e59_0 (f112 : Cue × Cue × Unit → Option (Bool × Unit)) (X : Nat → St → Option (densS (muts p59 ++ r59))) (rec K : densS q59_0 → Option (densS (muts p59 ++ r59))) (t : densS q59_0) :
    ev (E59 f112) tab2 (fun _ => false) (L59 f112) (retK tab2 p59 r59 Proofs.Tryz.f59.results.toList) (loopC Proofs.Tryz.f59 0) (fun i s => cond (Nat.beq i 0) (decK 100 q59_0 s K) (X i s)) (fun s => decK 100 q59_0 s rec) (enc q59_0 t) = s59_0 f112 t rec K := by kernel_rfl
theorem e59 (f112 : Cue × Cue × Unit → Option (Bool × Unit)) (a : densS p59) : runF (E59 f112) tab2 (fun _ => false) p59 r59 Proofs.Tryz.f59 (L59 f112) a = F59 f112 a := by kernel_rfl
theorem ok59 {f112 : Cue × Cue × Unit → Option (Bool × Unit)} (h112 : OK Proofs.Tryz.prog 112 (mkE p112 r112 false f112)) : OK Proofs.Tryz.prog 59 (mkE p59 r59 false (F59 f112)) :=
  fn_ok tab_ok2 (envL_ok (l := [(112, mkE p112 r112 false f112)]) (OKs.cons h112 OKs.nil)) mixed2 (ann := (fun _ => false)) (L := L59 f112) (fn := Proofs.Tryz.f59) (c := bodyC Proofs.Tryz.f59) (ls := [(0, loopC Proofs.Tryz.f59 0)]) Proofs.Tryz.func59 (by kernel_rfl) (by kernel_rfl) (by kernel_rfl) (by kernel_rfl)
    (LoopsP.cons q59_0 (s59_0 f112) rfl (e59_0 f112) LoopsP.nil) (e59 f112)
/-! laws.eqGust -/
def p83 : List SP := [.t .gust, .t .gust]
def r83 : List SP := [.one (.bool)]
noncomputable def F83 (f75 : Place × Place × Unit → Option (Bool × Unit)) (a : Gust × Gust × Unit) : Option (Bool × Unit) :=
  cond (!(decide (a.1.From = a.2.1.From))) (some (false, ())) ((f75 (a.1.Drift, a.2.1.Drift, ())).bind fun x1 => cond (!x1.1) (some (false, ())) (some (true, ())))
def E83 (f75 : Place × Place × Unit → Option (Bool × Unit)) : Env := envL [(75, mkE p75 r75 false f75)]
noncomputable def L83 (f75 : Place × Place × Unit → Option (Bool × Unit)) : LEnv (densS (muts p83 ++ r83)) := lenv []
theorem e83 (f75 : Place × Place × Unit → Option (Bool × Unit)) (a : densS p83) : runF (E83 f75) tab2 (fun _ => false) p83 r83 Proofs.Tryz.f83 (L83 f75) a = F83 f75 a := by kernel_rfl
theorem ok83 {f75 : Place × Place × Unit → Option (Bool × Unit)} (h75 : OK Proofs.Tryz.prog 75 (mkE p75 r75 false f75)) : OK Proofs.Tryz.prog 83 (mkE p83 r83 false (F83 f75)) :=
  fn_ok tab_ok2 (envL_ok (l := [(75, mkE p75 r75 false f75)]) (OKs.cons h75 OKs.nil)) mixed2 (ann := (fun _ => false)) (L := L83 f75) (fn := Proofs.Tryz.f83) (c := bodyC Proofs.Tryz.f83) (ls := []) Proofs.Tryz.func83 (by kernel_rfl) (by kernel_rfl) (by kernel_rfl) (by kernel_rfl)
    LoopsP.nil (e83 f75)
/-! laws.eqGustS -/
def p37 : List SP := [.one (.r .gust), .one (.r .gust)]
def r37 : List SP := [.one (.bool)]
def q37_0 : List SP := pat 27 0 [(0, .one (.r .gust)), (1, .one (.r .gust)), (5, .one (.int .i64))]
noncomputable def s37_0 (f83 : Gust × Gust × Unit → Option (Bool × Unit)) (t1 : List Gust × List Gust × Int × Unit) (rec K : List Gust × List Gust × Int × Unit → Option (Bool × Unit)) : Option (Bool × Unit) :=
  cond (decide (t1.2.2.1 < (Int.ofNat (List.length t1.1)))) (rdL t1.1 t1.2.2.1 fun d2 => rdL t1.2.1 t1.2.2.1 fun d3 => (f83 (d2, d3, ())).bind fun x4 => cond (!x4.1) (some (false, ())) (rec (t1.1, t1.2.1, (w64 (t1.2.2.1 + 1)), ()))) (K (t1.1, t1.2.1, t1.2.2.1, ()))
noncomputable def F37 (f83 : Gust × Gust × Unit → Option (Bool × Unit)) (a : List Gust × List Gust × Unit) : Option (Bool × Unit) :=
  cond (!(decide ((Int.ofNat (List.length a.1)) = (Int.ofNat (List.length a.2.1))))) (some (false, ())) (iterF (s37_0 f83) fuel (a.1, a.2.1, 0, ()) fun t5 => some (true, ()))
def E37 (f83 : Gust × Gust × Unit → Option (Bool × Unit)) : Env := envL [(83, mkE p83 r83 false f83)]
noncomputable def L37 (f83 : Gust × Gust × Unit → Option (Bool × Unit)) : LEnv (densS (muts p37 ++ r37)) := lenv [(0, loopL (R := densS (muts p37 ++ r37)) q37_0 (s37_0 f83))]
theorem e37_0 (f83 : Gust × Gust × Unit → Option (Bool × Unit)) (X : Nat → St → Option (densS (muts p37 ++ r37))) (rec K : densS q37_0 → Option (densS (muts p37 ++ r37))) (t : densS q37_0) :
    ev (E37 f83) tab2 (fun _ => false) (L37 f83) (retK tab2 p37 r37 Proofs.Tryz.f37.results.toList) (loopC Proofs.Tryz.f37 0) (fun i s => cond (Nat.beq i 0) (decK 100 q37_0 s K) (X i s)) (fun s => decK 100 q37_0 s rec) (enc q37_0 t) = s37_0 f83 t rec K := by kernel_rfl
theorem e37 (f83 : Gust × Gust × Unit → Option (Bool × Unit)) (a : densS p37) : runF (E37 f83) tab2 (fun _ => false) p37 r37 Proofs.Tryz.f37 (L37 f83) a = F37 f83 a := by kernel_rfl
theorem ok37 {f83 : Gust × Gust × Unit → Option (Bool × Unit)} (h83 : OK Proofs.Tryz.prog 83 (mkE p83 r83 false f83)) : OK Proofs.Tryz.prog 37 (mkE p37 r37 false (F37 f83)) :=
  fn_ok tab_ok2 (envL_ok (l := [(83, mkE p83 r83 false f83)]) (OKs.cons h83 OKs.nil)) mixed2 (ann := (fun _ => false)) (L := L37 f83) (fn := Proofs.Tryz.f37) (c := bodyC Proofs.Tryz.f37) (ls := [(0, loopC Proofs.Tryz.f37 0)]) Proofs.Tryz.func37 (by kernel_rfl) (by kernel_rfl) (by kernel_rfl) (by kernel_rfl)
    (LoopsP.cons q37_0 (s37_0 f83) rfl (e37_0 f83) LoopsP.nil) (e37 f83)
/-! laws.eqShow -/
def p16 : List SP := [.agg [.r .device, .r .cue, .r .gust, .int .i64], .agg [.r .device, .r .cue, .r .gust, .int .i64]]
def r16 : List SP := [.one (.bool)]
noncomputable def F16 (f58 : List Device × List Device × Unit → Option (Bool × Unit)) (f59 : List Cue × List Cue × Unit → Option (Bool × Unit)) (f37 : List Gust × List Gust × Unit → Option (Bool × Unit)) (a : (List Device × List Cue × List Gust × Int × Unit) × (List Device × List Cue × List Gust × Int × Unit) × Unit) : Option (Bool × Unit) :=
  (f58 (a.1.1, a.2.1.1, ())).bind fun x1 => cond (!x1.1) (some (false, ())) ((f59 (a.1.2.1, a.2.1.2.1, ())).bind fun x2 => cond (!x2.1) (some (false, ())) ((f37 (a.1.2.2.1, a.2.1.2.2.1, ())).bind fun x3 => cond (!x3.1) (some (false, ())) (cond (!(decide (a.1.2.2.2.1 = a.2.1.2.2.2.1))) (some (false, ())) (some (true, ())))))
def E16 (f58 : List Device × List Device × Unit → Option (Bool × Unit)) (f59 : List Cue × List Cue × Unit → Option (Bool × Unit)) (f37 : List Gust × List Gust × Unit → Option (Bool × Unit)) : Env := envL [(58, mkE p58 r58 false f58), (59, mkE p59 r59 false f59), (37, mkE p37 r37 false f37)]
noncomputable def L16 (f58 : List Device × List Device × Unit → Option (Bool × Unit)) (f59 : List Cue × List Cue × Unit → Option (Bool × Unit)) (f37 : List Gust × List Gust × Unit → Option (Bool × Unit)) : LEnv (densS (muts p16 ++ r16)) := lenv []
theorem e16 (f58 : List Device × List Device × Unit → Option (Bool × Unit)) (f59 : List Cue × List Cue × Unit → Option (Bool × Unit)) (f37 : List Gust × List Gust × Unit → Option (Bool × Unit)) (a : densS p16) : runF (E16 f58 f59 f37) tab2 (fun _ => false) p16 r16 Proofs.Tryz.f16 (L16 f58 f59 f37) a = F16 f58 f59 f37 a := by kernel_rfl
theorem ok16 {f58 : List Device × List Device × Unit → Option (Bool × Unit)} {f59 : List Cue × List Cue × Unit → Option (Bool × Unit)} {f37 : List Gust × List Gust × Unit → Option (Bool × Unit)} (h58 : OK Proofs.Tryz.prog 58 (mkE p58 r58 false f58)) (h59 : OK Proofs.Tryz.prog 59 (mkE p59 r59 false f59)) (h37 : OK Proofs.Tryz.prog 37 (mkE p37 r37 false f37)) : OK Proofs.Tryz.prog 16 (mkE p16 r16 false (F16 f58 f59 f37)) :=
  fn_ok tab_ok2 (envL_ok (l := [(58, mkE p58 r58 false f58), (59, mkE p59 r59 false f59), (37, mkE p37 r37 false f37)]) (OKs.cons h58 (OKs.cons h59 (OKs.cons h37 OKs.nil)))) mixed2 (ann := (fun _ => false)) (L := L16 f58 f59 f37) (fn := Proofs.Tryz.f16) (c := bodyC Proofs.Tryz.f16) (ls := []) Proofs.Tryz.func16 (by kernel_rfl) (by kernel_rfl) (by kernel_rfl) (by kernel_rfl)
    LoopsP.nil (e16 f58 f59 f37)
/-! laws.markText -/
def p62 : List SP := [.one (.int .i64)]
def r62 : List SP := [.one (.str)]
def q62_0 : List SP := pat 20 0 [(0, .one (.int .i64)), (3, .one (.str))]
noncomputable def s62_0 (t1 : Int × Str × Unit) (rec K : Int × Str × Unit → Option (Str × Unit)) : Option (Str × Unit) :=
  cond (decide (t1.1 > 0)) (capK (List.length (List.map (fun n => UInt8.ofNat (Int.toNat n)) ([(IntKind.wrap .u8 (w64 (48 + (Int.tmod t1.1 10))))] : List Int)) + List.length t1.2.1) (rec ((w64 (Int.tdiv t1.1 10)), ((List.map (fun n => UInt8.ofNat (Int.toNat n)) ([(IntKind.wrap .u8 (w64 (48 + (Int.tmod t1.1 10))))] : List Int)) ++ t1.2.1), ()))) (K (t1.1, t1.2.1, ()))
noncomputable def F62 (a : Int × Unit) : Option (Str × Unit) :=
  cond (decide (a.1 ≤ 0)) (some ([109, 48], ())) (iterF (s62_0) fuel (a.1, [], ()) fun t2 => capK (List.length [109] + List.length t2.2.1) (some (([109] ++ t2.2.1), ())))
def E62 : Env := envL []
noncomputable def L62 : LEnv (densS (muts p62 ++ r62)) := lenv [(0, loopL (R := densS (muts p62 ++ r62)) q62_0 (s62_0))]
theorem e62_0 (X : Nat → St → Option (densS (muts p62 ++ r62))) (rec K : densS q62_0 → Option (densS (muts p62 ++ r62))) (t : densS q62_0) :
    ev (E62) tab2 (fun _ => false) (L62) (retK tab2 p62 r62 Proofs.Tryz.f62.results.toList) (loopC Proofs.Tryz.f62 0) (fun i s => cond (Nat.beq i 0) (decK 100 q62_0 s K) (X i s)) (fun s => decK 100 q62_0 s rec) (enc q62_0 t) = s62_0 t rec K := by kernel_rfl
theorem e62 (a : densS p62) : runF (E62) tab2 (fun _ => false) p62 r62 Proofs.Tryz.f62 (L62) a = F62 a := by kernel_rfl
theorem ok62 : OK Proofs.Tryz.prog 62 (mkE p62 r62 false (F62)) :=
  fn_ok tab_ok2 (envL_ok (l := []) OKs.nil) mixed2 (ann := (fun _ => false)) (L := L62) (fn := Proofs.Tryz.f62) (c := bodyC Proofs.Tryz.f62) (ls := [(0, loopC Proofs.Tryz.f62 0)]) Proofs.Tryz.func62 (by kernel_rfl) (by kernel_rfl) (by kernel_rfl) (by kernel_rfl)
    (LoopsP.cons q62_0 (s62_0) rfl (e62_0) LoopsP.nil) (e62)
/-! laws.markDeviceS -/
def p60 : List SP := [.one (.o 0 .device), .one (.int .i64)]
def r60 : List SP := [.one (.int .i64)]
def q60_0 : List SP := pat 73 0 [(0, .one (.o 0 .device)), (1, .one (.int .i64)), (5, .one (.int .i64))]
noncomputable def s60_0 (f62 : Int × Unit → Option (Str × Unit)) (t1 : List Device × Int × Int × Unit) (rec K : List Device × Int × Int × Unit → Option (List Device × Int × Unit)) : Option (List Device × Int × Unit) :=
  cond (decide (t1.2.2.1 < (Int.ofNat (List.length t1.1)))) ((f62 (t1.2.1, ())).bind fun x2 => rdL t1.1 t1.2.2.1 fun _ => (t1.1[(Int.toNat t1.2.2.1)]?).bind fun d3 => rdL (List.set t1.1 (Int.toNat t1.2.2.1) (⟨x2.1, d3.Kind, d3.Line, ⟨d3.At.X, d3.At.Y⟩, d3.Heading, d3.Tilt, d3.Most⟩ : Device)) t1.2.2.1 fun _ => ((List.set t1.1 (Int.toNat t1.2.2.1) (⟨x2.1, d3.Kind, d3.Line, ⟨d3.At.X, d3.At.Y⟩, d3.Heading, d3.Tilt, d3.Most⟩ : Device))[(Int.toNat t1.2.2.1)]?).bind fun d4 => (f62 ((w64 ((w64 (t1.2.1 + 1)) + 1)), ())).bind fun x5 => rdL (List.set (List.set t1.1 (Int.toNat t1.2.2.1) (⟨x2.1, d3.Kind, d3.Line, ⟨d3.At.X, d3.At.Y⟩, d3.Heading, d3.Tilt, d3.Most⟩ : Device)) (Int.toNat t1.2.2.1) (⟨d4.Name, (w64 (t1.2.1 + 1)), d4.Line, ⟨d4.At.X, d4.At.Y⟩, d4.Heading, d4.Tilt, d4.Most⟩ : Device)) t1.2.2.1 fun _ => ((List.set (List.set t1.1 (Int.toNat t1.2.2.1) (⟨x2.1, d3.Kind, d3.Line, ⟨d3.At.X, d3.At.Y⟩, d3.Heading, d3.Tilt, d3.Most⟩ : Device)) (Int.toNat t1.2.2.1) (⟨d4.Name, (w64 (t1.2.1 + 1)), d4.Line, ⟨d4.At.X, d4.At.Y⟩, d4.Heading, d4.Tilt, d4.Most⟩ : Device))[(Int.toNat t1.2.2.1)]?).bind fun d6 => rdL (List.set (List.set (List.set t1.1 (Int.toNat t1.2.2.1) (⟨x2.1, d3.Kind, d3.Line, ⟨d3.At.X, d3.At.Y⟩, d3.Heading, d3.Tilt, d3.Most⟩ : Device)) (Int.toNat t1.2.2.1) (⟨d4.Name, (w64 (t1.2.1 + 1)), d4.Line, ⟨d4.At.X, d4.At.Y⟩, d4.Heading, d4.Tilt, d4.Most⟩ : Device)) (Int.toNat t1.2.2.1) (⟨d6.Name, d6.Kind, x5.1, ⟨d6.At.X, d6.At.Y⟩, d6.Heading, d6.Tilt, d6.Most⟩ : Device)) t1.2.2.1 fun _ => ((List.set (List.set (List.set t1.1 (Int.toNat t1.2.2.1) (⟨x2.1, d3.Kind, d3.Line, ⟨d3.At.X, d3.At.Y⟩, d3.Heading, d3.Tilt, d3.Most⟩ : Device)) (Int.toNat t1.2.2.1) (⟨d4.Name, (w64 (t1.2.1 + 1)), d4.Line, ⟨d4.At.X, d4.At.Y⟩, d4.Heading, d4.Tilt, d4.Most⟩ : Device)) (Int.toNat t1.2.2.1) (⟨d6.Name, d6.Kind, x5.1, ⟨d6.At.X, d6.At.Y⟩, d6.Heading, d6.Tilt, d6.Most⟩ : Device))[(Int.toNat t1.2.2.1)]?).bind fun d7 => rdL (List.set (List.set (List.set (List.set t1.1 (Int.toNat t1.2.2.1) (⟨x2.1, d3.Kind, d3.Line, ⟨d3.At.X, d3.At.Y⟩, d3.Heading, d3.Tilt, d3.Most⟩ : Device)) (Int.toNat t1.2.2.1) (⟨d4.Name, (w64 (t1.2.1 + 1)), d4.Line, ⟨d4.At.X, d4.At.Y⟩, d4.Heading, d4.Tilt, d4.Most⟩ : Device)) (Int.toNat t1.2.2.1) (⟨d6.Name, d6.Kind, x5.1, ⟨d6.At.X, d6.At.Y⟩, d6.Heading, d6.Tilt, d6.Most⟩ : Device)) (Int.toNat t1.2.2.1) (⟨d7.Name, d7.Kind, d7.Line, ⟨(w64 ((w64 ((w64 (t1.2.1 + 1)) + 1)) + 1)), d7.At.Y⟩, d7.Heading, d7.Tilt, d7.Most⟩ : Device)) t1.2.2.1 fun _ => ((List.set (List.set (List.set (List.set t1.1 (Int.toNat t1.2.2.1) (⟨x2.1, d3.Kind, d3.Line, ⟨d3.At.X, d3.At.Y⟩, d3.Heading, d3.Tilt, d3.Most⟩ : Device)) (Int.toNat t1.2.2.1) (⟨d4.Name, (w64 (t1.2.1 + 1)), d4.Line, ⟨d4.At.X, d4.At.Y⟩, d4.Heading, d4.Tilt, d4.Most⟩ : Device)) (Int.toNat t1.2.2.1) (⟨d6.Name, d6.Kind, x5.1, ⟨d6.At.X, d6.At.Y⟩, d6.Heading, d6.Tilt, d6.Most⟩ : Device)) (Int.toNat t1.2.2.1) (⟨d7.Name, d7.Kind, d7.Line, ⟨(w64 ((w64 ((w64 (t1.2.1 + 1)) + 1)) + 1)), d7.At.Y⟩, d7.Heading, d7.Tilt, d7.Most⟩ : Device))[(Int.toNat t1.2.2.1)]?).bind fun d8 => rdL (List.set (List.set (List.set (List.set (List.set t1.1 (Int.toNat t1.2.2.1) (⟨x2.1, d3.Kind, d3.Line, ⟨d3.At.X, d3.At.Y⟩, d3.Heading, d3.Tilt, d3.Most⟩ : Device)) (Int.toNat t1.2.2.1) (⟨d4.Name, (w64 (t1.2.1 + 1)), d4.Line, ⟨d4.At.X, d4.At.Y⟩, d4.Heading, d4.Tilt, d4.Most⟩ : Device)) (Int.toNat t1.2.2.1) (⟨d6.Name, d6.Kind, x5.1, ⟨d6.At.X, d6.At.Y⟩, d6.Heading, d6.Tilt, d6.Most⟩ : Device)) (Int.toNat t1.2.2.1) (⟨d7.Name, d7.Kind, d7.Line, ⟨(w64 ((w64 ((w64 (t1.2.1 + 1)) + 1)) + 1)), d7.At.Y⟩, d7.Heading, d7.Tilt, d7.Most⟩ : Device)) (Int.toNat t1.2.2.1) (⟨d8.Name, d8.Kind, d8.Line, ⟨d8.At.X, (w64 ((w64 ((w64 ((w64 (t1.2.1 + 1)) + 1)) + 1)) + 1))⟩, d8.Heading, d8.Tilt, d8.Most⟩ : Device)) t1.2.2.1 fun _ => ((List.set (List.set (List.set (List.set (List.set t1.1 (Int.toNat t1.2.2.1) (⟨x2.1, d3.Kind, d3.Line, ⟨d3.At.X, d3.At.Y⟩, d3.Heading, d3.Tilt, d3.Most⟩ : Device)) (Int.toNat t1.2.2.1) (⟨d4.Name, (w64 (t1.2.1 + 1)), d4.Line, ⟨d4.At.X, d4.At.Y⟩, d4.Heading, d4.Tilt, d4.Most⟩ : Device)) (Int.toNat t1.2.2.1) (⟨d6.Name, d6.Kind, x5.1, ⟨d6.At.X, d6.At.Y⟩, d6.Heading, d6.Tilt, d6.Most⟩ : Device)) (Int.toNat t1.2.2.1) (⟨d7.Name, d7.Kind, d7.Line, ⟨(w64 ((w64 ((w64 (t1.2.1 + 1)) + 1)) + 1)), d7.At.Y⟩, d7.Heading, d7.Tilt, d7.Most⟩ : Device)) (Int.toNat t1.2.2.1) (⟨d8.Name, d8.Kind, d8.Line, ⟨d8.At.X, (w64 ((w64 ((w64 ((w64 (t1.2.1 + 1)) + 1)) + 1)) + 1))⟩, d8.Heading, d8.Tilt, d8.Most⟩ : Device))[(Int.toNat t1.2.2.1)]?).bind fun d9 => rdL (List.set (List.set (List.set (List.set (List.set (List.set t1.1 (Int.toNat t1.2.2.1) (⟨x2.1, d3.Kind, d3.Line, ⟨d3.At.X, d3.At.Y⟩, d3.Heading, d3.Tilt, d3.Most⟩ : Device)) (Int.toNat t1.2.2.1) (⟨d4.Name, (w64 (t1.2.1 + 1)), d4.Line, ⟨d4.At.X, d4.At.Y⟩, d4.Heading, d4.Tilt, d4.Most⟩ : Device)) (Int.toNat t1.2.2.1) (⟨d6.Name, d6.Kind, x5.1, ⟨d6.At.X, d6.At.Y⟩, d6.Heading, d6.Tilt, d6.Most⟩ : Device)) (Int.toNat t1.2.2.1) (⟨d7.Name, d7.Kind, d7.Line, ⟨(w64 ((w64 ((w64 (t1.2.1 + 1)) + 1)) + 1)), d7.At.Y⟩, d7.Heading, d7.Tilt, d7.Most⟩ : Device)) (Int.toNat t1.2.2.1) (⟨d8.Name, d8.Kind, d8.Line, ⟨d8.At.X, (w64 ((w64 ((w64 ((w64 (t1.2.1 + 1)) + 1)) + 1)) + 1))⟩, d8.Heading, d8.Tilt, d8.Most⟩ : Device)) (Int.toNat t1.2.2.1) (⟨d9.Name, d9.Kind, d9.Line, ⟨d9.At.X, d9.At.Y⟩, (w64 ((w64 ((w64 ((w64 ((w64 (t1.2.1 + 1)) + 1)) + 1)) + 1)) + 1)), d9.Tilt, d9.Most⟩ : Device)) t1.2.2.1 fun _ => ((List.set (List.set (List.set (List.set (List.set (List.set t1.1 (Int.toNat t1.2.2.1) (⟨x2.1, d3.Kind, d3.Line, ⟨d3.At.X, d3.At.Y⟩, d3.Heading, d3.Tilt, d3.Most⟩ : Device)) (Int.toNat t1.2.2.1) (⟨d4.Name, (w64 (t1.2.1 + 1)), d4.Line, ⟨d4.At.X, d4.At.Y⟩, d4.Heading, d4.Tilt, d4.Most⟩ : Device)) (Int.toNat t1.2.2.1) (⟨d6.Name, d6.Kind, x5.1, ⟨d6.At.X, d6.At.Y⟩, d6.Heading, d6.Tilt, d6.Most⟩ : Device)) (Int.toNat t1.2.2.1) (⟨d7.Name, d7.Kind, d7.Line, ⟨(w64 ((w64 ((w64 (t1.2.1 + 1)) + 1)) + 1)), d7.At.Y⟩, d7.Heading, d7.Tilt, d7.Most⟩ : Device)) (Int.toNat t1.2.2.1) (⟨d8.Name, d8.Kind, d8.Line, ⟨d8.At.X, (w64 ((w64 ((w64 ((w64 (t1.2.1 + 1)) + 1)) + 1)) + 1))⟩, d8.Heading, d8.Tilt, d8.Most⟩ : Device)) (Int.toNat t1.2.2.1) (⟨d9.Name, d9.Kind, d9.Line, ⟨d9.At.X, d9.At.Y⟩, (w64 ((w64 ((w64 ((w64 ((w64 (t1.2.1 + 1)) + 1)) + 1)) + 1)) + 1)), d9.Tilt, d9.Most⟩ : Device))[(Int.toNat t1.2.2.1)]?).bind fun d10 => rdL (List.set (List.set (List.set (List.set (List.set (List.set (List.set t1.1 (Int.toNat t1.2.2.1) (⟨x2.1, d3.Kind, d3.Line, ⟨d3.At.X, d3.At.Y⟩, d3.Heading, d3.Tilt, d3.Most⟩ : Device)) (Int.toNat t1.2.2.1) (⟨d4.Name, (w64 (t1.2.1 + 1)), d4.Line, ⟨d4.At.X, d4.At.Y⟩, d4.Heading, d4.Tilt, d4.Most⟩ : Device)) (Int.toNat t1.2.2.1) (⟨d6.Name, d6.Kind, x5.1, ⟨d6.At.X, d6.At.Y⟩, d6.Heading, d6.Tilt, d6.Most⟩ : Device)) (Int.toNat t1.2.2.1) (⟨d7.Name, d7.Kind, d7.Line, ⟨(w64 ((w64 ((w64 (t1.2.1 + 1)) + 1)) + 1)), d7.At.Y⟩, d7.Heading, d7.Tilt, d7.Most⟩ : Device)) (Int.toNat t1.2.2.1) (⟨d8.Name, d8.Kind, d8.Line, ⟨d8.At.X, (w64 ((w64 ((w64 ((w64 (t1.2.1 + 1)) + 1)) + 1)) + 1))⟩, d8.Heading, d8.Tilt, d8.Most⟩ : Device)) (Int.toNat t1.2.2.1) (⟨d9.Name, d9.Kind, d9.Line, ⟨d9.At.X, d9.At.Y⟩, (w64 ((w64 ((w64 ((w64 ((w64 (t1.2.1 + 1)) + 1)) + 1)) + 1)) + 1)), d9.Tilt, d9.Most⟩ : Device)) (Int.toNat t1.2.2.1) (⟨d10.Name, d10.Kind, d10.Line, ⟨d10.At.X, d10.At.Y⟩, d10.Heading, (w64 ((w64 ((w64 ((w64 ((w64 ((w64 (t1.2.1 + 1)) + 1)) + 1)) + 1)) + 1)) + 1)), d10.Most⟩ : Device)) t1.2.2.1 fun _ => ((List.set (List.set (List.set (List.set (List.set (List.set (List.set t1.1 (Int.toNat t1.2.2.1) (⟨x2.1, d3.Kind, d3.Line, ⟨d3.At.X, d3.At.Y⟩, d3.Heading, d3.Tilt, d3.Most⟩ : Device)) (Int.toNat t1.2.2.1) (⟨d4.Name, (w64 (t1.2.1 + 1)), d4.Line, ⟨d4.At.X, d4.At.Y⟩, d4.Heading, d4.Tilt, d4.Most⟩ : Device)) (Int.toNat t1.2.2.1) (⟨d6.Name, d6.Kind, x5.1, ⟨d6.At.X, d6.At.Y⟩, d6.Heading, d6.Tilt, d6.Most⟩ : Device)) (Int.toNat t1.2.2.1) (⟨d7.Name, d7.Kind, d7.Line, ⟨(w64 ((w64 ((w64 (t1.2.1 + 1)) + 1)) + 1)), d7.At.Y⟩, d7.Heading, d7.Tilt, d7.Most⟩ : Device)) (Int.toNat t1.2.2.1) (⟨d8.Name, d8.Kind, d8.Line, ⟨d8.At.X, (w64 ((w64 ((w64 ((w64 (t1.2.1 + 1)) + 1)) + 1)) + 1))⟩, d8.Heading, d8.Tilt, d8.Most⟩ : Device)) (Int.toNat t1.2.2.1) (⟨d9.Name, d9.Kind, d9.Line, ⟨d9.At.X, d9.At.Y⟩, (w64 ((w64 ((w64 ((w64 ((w64 (t1.2.1 + 1)) + 1)) + 1)) + 1)) + 1)), d9.Tilt, d9.Most⟩ : Device)) (Int.toNat t1.2.2.1) (⟨d10.Name, d10.Kind, d10.Line, ⟨d10.At.X, d10.At.Y⟩, d10.Heading, (w64 ((w64 ((w64 ((w64 ((w64 ((w64 (t1.2.1 + 1)) + 1)) + 1)) + 1)) + 1)) + 1)), d10.Most⟩ : Device))[(Int.toNat t1.2.2.1)]?).bind fun d11 => rec ((List.set (List.set (List.set (List.set (List.set (List.set (List.set (List.set t1.1 (Int.toNat t1.2.2.1) (⟨x2.1, d3.Kind, d3.Line, ⟨d3.At.X, d3.At.Y⟩, d3.Heading, d3.Tilt, d3.Most⟩ : Device)) (Int.toNat t1.2.2.1) (⟨d4.Name, (w64 (t1.2.1 + 1)), d4.Line, ⟨d4.At.X, d4.At.Y⟩, d4.Heading, d4.Tilt, d4.Most⟩ : Device)) (Int.toNat t1.2.2.1) (⟨d6.Name, d6.Kind, x5.1, ⟨d6.At.X, d6.At.Y⟩, d6.Heading, d6.Tilt, d6.Most⟩ : Device)) (Int.toNat t1.2.2.1) (⟨d7.Name, d7.Kind, d7.Line, ⟨(w64 ((w64 ((w64 (t1.2.1 + 1)) + 1)) + 1)), d7.At.Y⟩, d7.Heading, d7.Tilt, d7.Most⟩ : Device)) (Int.toNat t1.2.2.1) (⟨d8.Name, d8.Kind, d8.Line, ⟨d8.At.X, (w64 ((w64 ((w64 ((w64 (t1.2.1 + 1)) + 1)) + 1)) + 1))⟩, d8.Heading, d8.Tilt, d8.Most⟩ : Device)) (Int.toNat t1.2.2.1) (⟨d9.Name, d9.Kind, d9.Line, ⟨d9.At.X, d9.At.Y⟩, (w64 ((w64 ((w64 ((w64 ((w64 (t1.2.1 + 1)) + 1)) + 1)) + 1)) + 1)), d9.Tilt, d9.Most⟩ : Device)) (Int.toNat t1.2.2.1) (⟨d10.Name, d10.Kind, d10.Line, ⟨d10.At.X, d10.At.Y⟩, d10.Heading, (w64 ((w64 ((w64 ((w64 ((w64 ((w64 (t1.2.1 + 1)) + 1)) + 1)) + 1)) + 1)) + 1)), d10.Most⟩ : Device)) (Int.toNat t1.2.2.1) (⟨d11.Name, d11.Kind, d11.Line, ⟨d11.At.X, d11.At.Y⟩, d11.Heading, d11.Tilt, (w64 ((w64 ((w64 ((w64 ((w64 ((w64 ((w64 (t1.2.1 + 1)) + 1)) + 1)) + 1)) + 1)) + 1)) + 1))⟩ : Device)), (w64 ((w64 ((w64 ((w64 ((w64 ((w64 ((w64 ((w64 (t1.2.1 + 1)) + 1)) + 1)) + 1)) + 1)) + 1)) + 1)) + 1)), (w64 (t1.2.2.1 + 1)), ())) (K (t1.1, t1.2.1, t1.2.2.1, ()))
noncomputable def F60 (f62 : Int × Unit → Option (Str × Unit)) (a : List Device × Int × Unit) : Option (List Device × Int × Unit) :=
  iterF (s60_0 f62) fuel (a.1, a.2.1, 0, ()) fun t12 => some (t12.1, t12.2.1, ())
def E60 (f62 : Int × Unit → Option (Str × Unit)) : Env := envL [(62, mkE p62 r62 false f62)]
noncomputable def L60 (f62 : Int × Unit → Option (Str × Unit)) : LEnv (densS (muts p60 ++ r60)) := lenv [(0, loopL (R := densS (muts p60 ++ r60)) q60_0 (s60_0 f62))]
theorem e60_0 (f62 : Int × Unit → Option (Str × Unit)) (X : Nat → St → Option (densS (muts p60 ++ r60))) (rec K : densS q60_0 → Option (densS (muts p60 ++ r60))) (t : densS q60_0) :
    ev (E60 f62) tab2 (fun _ => false) (L60 f62) (retK tab2 p60 r60 Proofs.Tryz.f60.results.toList) (loopC Proofs.Tryz.f60 0) (fun i s => cond (Nat.beq i 0) (decK 100 q60_0 s K) (X i s)) (fun s => decK 100 q60_0 s rec) (enc q60_0 t) = s60_0 f62 t rec K := by kernel_rfl
theorem e60 (f62 : Int × Unit → Option (Str × Unit)) (a : densS p60) : runF (E60 f62) tab2 (fun _ => false) p60 r60 Proofs.Tryz.f60 (L60 f62) a = F60 f62 a := by kernel_rfl
theorem ok60 {f62 : Int × Unit → Option (Str × Unit)} (h62 : OK Proofs.Tryz.prog 62 (mkE p62 r62 false f62)) : OK Proofs.Tryz.prog 60 (mkE p60 r60 false (F60 f62)) :=
  fn_ok tab_ok2 (envL_ok (l := [(62, mkE p62 r62 false f62)]) (OKs.cons h62 OKs.nil)) mixed2 (ann := (fun _ => false)) (L := L60 f62) (fn := Proofs.Tryz.f60) (c := bodyC Proofs.Tryz.f60) (ls := [(0, loopC Proofs.Tryz.f60 0)]) Proofs.Tryz.func60 (by kernel_rfl) (by kernel_rfl) (by kernel_rfl) (by kernel_rfl)
    (LoopsP.cons q60_0 (s60_0 f62) rfl (e60_0 f62) LoopsP.nil) (e60 f62)
/-! laws.markCueS -/
def p61 : List SP := [.one (.o 0 .cue), .one (.int .i64)]
def r61 : List SP := [.one (.int .i64)]
def q61_0 : List SP := pat 42 0 [(0, .one (.o 0 .cue)), (1, .one (.int .i64)), (5, .one (.int .i64))]
noncomputable def s61_0 (f62 : Int × Unit → Option (Str × Unit)) (t1 : List Cue × Int × Int × Unit) (rec K : List Cue × Int × Int × Unit → Option (List Cue × Int × Unit)) : Option (List Cue × Int × Unit) :=
  cond (decide (t1.2.2.1 < (Int.ofNat (List.length t1.1)))) (rdL t1.1 t1.2.2.1 fun _ => (t1.1[(Int.toNat t1.2.2.1)]?).bind fun d2 => (f62 ((w64 (t1.2.1 + 1)), ())).bind fun x3 => rdL (List.set t1.1 (Int.toNat t1.2.2.1) (⟨t1.2.1, d2.Name, d2.Level, d2.Ramp⟩ : Cue)) t1.2.2.1 fun _ => ((List.set t1.1 (Int.toNat t1.2.2.1) (⟨t1.2.1, d2.Name, d2.Level, d2.Ramp⟩ : Cue))[(Int.toNat t1.2.2.1)]?).bind fun d4 => rdL (List.set (List.set t1.1 (Int.toNat t1.2.2.1) (⟨t1.2.1, d2.Name, d2.Level, d2.Ramp⟩ : Cue)) (Int.toNat t1.2.2.1) (⟨d4.Tick, x3.1, d4.Level, d4.Ramp⟩ : Cue)) t1.2.2.1 fun _ => ((List.set (List.set t1.1 (Int.toNat t1.2.2.1) (⟨t1.2.1, d2.Name, d2.Level, d2.Ramp⟩ : Cue)) (Int.toNat t1.2.2.1) (⟨d4.Tick, x3.1, d4.Level, d4.Ramp⟩ : Cue))[(Int.toNat t1.2.2.1)]?).bind fun d5 => rdL (List.set (List.set (List.set t1.1 (Int.toNat t1.2.2.1) (⟨t1.2.1, d2.Name, d2.Level, d2.Ramp⟩ : Cue)) (Int.toNat t1.2.2.1) (⟨d4.Tick, x3.1, d4.Level, d4.Ramp⟩ : Cue)) (Int.toNat t1.2.2.1) (⟨d5.Tick, d5.Name, (w64 ((w64 (t1.2.1 + 1)) + 1)), d5.Ramp⟩ : Cue)) t1.2.2.1 fun _ => ((List.set (List.set (List.set t1.1 (Int.toNat t1.2.2.1) (⟨t1.2.1, d2.Name, d2.Level, d2.Ramp⟩ : Cue)) (Int.toNat t1.2.2.1) (⟨d4.Tick, x3.1, d4.Level, d4.Ramp⟩ : Cue)) (Int.toNat t1.2.2.1) (⟨d5.Tick, d5.Name, (w64 ((w64 (t1.2.1 + 1)) + 1)), d5.Ramp⟩ : Cue))[(Int.toNat t1.2.2.1)]?).bind fun d6 => rec ((List.set (List.set (List.set (List.set t1.1 (Int.toNat t1.2.2.1) (⟨t1.2.1, d2.Name, d2.Level, d2.Ramp⟩ : Cue)) (Int.toNat t1.2.2.1) (⟨d4.Tick, x3.1, d4.Level, d4.Ramp⟩ : Cue)) (Int.toNat t1.2.2.1) (⟨d5.Tick, d5.Name, (w64 ((w64 (t1.2.1 + 1)) + 1)), d5.Ramp⟩ : Cue)) (Int.toNat t1.2.2.1) (⟨d6.Tick, d6.Name, d6.Level, (w64 ((w64 ((w64 (t1.2.1 + 1)) + 1)) + 1))⟩ : Cue)), (w64 ((w64 ((w64 ((w64 (t1.2.1 + 1)) + 1)) + 1)) + 1)), (w64 (t1.2.2.1 + 1)), ())) (K (t1.1, t1.2.1, t1.2.2.1, ()))
noncomputable def F61 (f62 : Int × Unit → Option (Str × Unit)) (a : List Cue × Int × Unit) : Option (List Cue × Int × Unit) :=
  iterF (s61_0 f62) fuel (a.1, a.2.1, 0, ()) fun t7 => some (t7.1, t7.2.1, ())
def E61 (f62 : Int × Unit → Option (Str × Unit)) : Env := envL [(62, mkE p62 r62 false f62)]
noncomputable def L61 (f62 : Int × Unit → Option (Str × Unit)) : LEnv (densS (muts p61 ++ r61)) := lenv [(0, loopL (R := densS (muts p61 ++ r61)) q61_0 (s61_0 f62))]
theorem e61_0 (f62 : Int × Unit → Option (Str × Unit)) (X : Nat → St → Option (densS (muts p61 ++ r61))) (rec K : densS q61_0 → Option (densS (muts p61 ++ r61))) (t : densS q61_0) :
    ev (E61 f62) tab2 (fun _ => false) (L61 f62) (retK tab2 p61 r61 Proofs.Tryz.f61.results.toList) (loopC Proofs.Tryz.f61 0) (fun i s => cond (Nat.beq i 0) (decK 100 q61_0 s K) (X i s)) (fun s => decK 100 q61_0 s rec) (enc q61_0 t) = s61_0 f62 t rec K := by kernel_rfl
theorem e61 (f62 : Int × Unit → Option (Str × Unit)) (a : densS p61) : runF (E61 f62) tab2 (fun _ => false) p61 r61 Proofs.Tryz.f61 (L61 f62) a = F61 f62 a := by kernel_rfl
theorem ok61 {f62 : Int × Unit → Option (Str × Unit)} (h62 : OK Proofs.Tryz.prog 62 (mkE p62 r62 false f62)) : OK Proofs.Tryz.prog 61 (mkE p61 r61 false (F61 f62)) :=
  fn_ok tab_ok2 (envL_ok (l := [(62, mkE p62 r62 false f62)]) (OKs.cons h62 OKs.nil)) mixed2 (ann := (fun _ => false)) (L := L61 f62) (fn := Proofs.Tryz.f61) (c := bodyC Proofs.Tryz.f61) (ls := [(0, loopC Proofs.Tryz.f61 0)]) Proofs.Tryz.func61 (by kernel_rfl) (by kernel_rfl) (by kernel_rfl) (by kernel_rfl)
    (LoopsP.cons q61_0 (s61_0 f62) rfl (e61_0 f62) LoopsP.nil) (e61 f62)
/-! laws.markGustS -/
def p39 : List SP := [.one (.o 0 .gust), .one (.int .i64)]
def r39 : List SP := [.one (.int .i64)]
def q39_0 : List SP := pat 36 0 [(0, .one (.o 0 .gust)), (1, .one (.int .i64)), (5, .one (.int .i64))]
noncomputable def s39_0 (t1 : List Gust × Int × Int × Unit) (rec K : List Gust × Int × Int × Unit → Option (List Gust × Int × Unit)) : Option (List Gust × Int × Unit) :=
  cond (decide (t1.2.2.1 < (Int.ofNat (List.length t1.1)))) (rdL t1.1 t1.2.2.1 fun _ => (t1.1[(Int.toNat t1.2.2.1)]?).bind fun d2 => rdL (List.set t1.1 (Int.toNat t1.2.2.1) (⟨t1.2.1, ⟨d2.Drift.X, d2.Drift.Y⟩⟩ : Gust)) t1.2.2.1 fun _ => ((List.set t1.1 (Int.toNat t1.2.2.1) (⟨t1.2.1, ⟨d2.Drift.X, d2.Drift.Y⟩⟩ : Gust))[(Int.toNat t1.2.2.1)]?).bind fun d3 => rdL (List.set (List.set t1.1 (Int.toNat t1.2.2.1) (⟨t1.2.1, ⟨d2.Drift.X, d2.Drift.Y⟩⟩ : Gust)) (Int.toNat t1.2.2.1) (⟨d3.From, ⟨(w64 (t1.2.1 + 1)), d3.Drift.Y⟩⟩ : Gust)) t1.2.2.1 fun _ => ((List.set (List.set t1.1 (Int.toNat t1.2.2.1) (⟨t1.2.1, ⟨d2.Drift.X, d2.Drift.Y⟩⟩ : Gust)) (Int.toNat t1.2.2.1) (⟨d3.From, ⟨(w64 (t1.2.1 + 1)), d3.Drift.Y⟩⟩ : Gust))[(Int.toNat t1.2.2.1)]?).bind fun d4 => rec ((List.set (List.set (List.set t1.1 (Int.toNat t1.2.2.1) (⟨t1.2.1, ⟨d2.Drift.X, d2.Drift.Y⟩⟩ : Gust)) (Int.toNat t1.2.2.1) (⟨d3.From, ⟨(w64 (t1.2.1 + 1)), d3.Drift.Y⟩⟩ : Gust)) (Int.toNat t1.2.2.1) (⟨d4.From, ⟨d4.Drift.X, (w64 ((w64 (t1.2.1 + 1)) + 1))⟩⟩ : Gust)), (w64 ((w64 ((w64 (t1.2.1 + 1)) + 1)) + 1)), (w64 (t1.2.2.1 + 1)), ())) (K (t1.1, t1.2.1, t1.2.2.1, ()))
noncomputable def F39 (a : List Gust × Int × Unit) : Option (List Gust × Int × Unit) :=
  iterF (s39_0) fuel (a.1, a.2.1, 0, ()) fun t5 => some (t5.1, t5.2.1, ())
def E39 : Env := envL []
noncomputable def L39 : LEnv (densS (muts p39 ++ r39)) := lenv [(0, loopL (R := densS (muts p39 ++ r39)) q39_0 (s39_0))]
theorem e39_0 (X : Nat → St → Option (densS (muts p39 ++ r39))) (rec K : densS q39_0 → Option (densS (muts p39 ++ r39))) (t : densS q39_0) :
    ev (E39) tab2 (fun _ => false) (L39) (retK tab2 p39 r39 Proofs.Tryz.f39.results.toList) (loopC Proofs.Tryz.f39 0) (fun i s => cond (Nat.beq i 0) (decK 100 q39_0 s K) (X i s)) (fun s => decK 100 q39_0 s rec) (enc q39_0 t) = s39_0 t rec K := by kernel_rfl
theorem e39 (a : densS p39) : runF (E39) tab2 (fun _ => false) p39 r39 Proofs.Tryz.f39 (L39) a = F39 a := by kernel_rfl
theorem ok39 : OK Proofs.Tryz.prog 39 (mkE p39 r39 false (F39)) :=
  fn_ok tab_ok2 (envL_ok (l := []) OKs.nil) mixed2 (ann := (fun _ => false)) (L := L39) (fn := Proofs.Tryz.f39) (c := bodyC Proofs.Tryz.f39) (ls := [(0, loopC Proofs.Tryz.f39 0)]) Proofs.Tryz.func39 (by kernel_rfl) (by kernel_rfl) (by kernel_rfl) (by kernel_rfl)
    (LoopsP.cons q39_0 (s39_0) rfl (e39_0) LoopsP.nil) (e39)
/-! laws.markShow -/
def p17 : List SP := [.agg [.o 0 .device, .o 1 .cue, .o 2 .gust, .int .i64], .one (.int .i64)]
def r17 : List SP := [.one (.int .i64)]
noncomputable def F17 (f60 : List Device × Int × Unit → Option (List Device × Int × Unit)) (f61 : List Cue × Int × Unit → Option (List Cue × Int × Unit)) (f39 : List Gust × Int × Unit → Option (List Gust × Int × Unit)) (a : (List Device × List Cue × List Gust × Int × Unit) × Int × Unit) : Option (List Device × List Cue × List Gust × Int × Unit) :=
  (f60 (a.1.1, a.2.1, ())).bind fun x1 => (f61 (a.1.2.1, x1.2.1, ())).bind fun x2 => (f39 (a.1.2.2.1, x2.2.1, ())).bind fun x3 => some (x1.1, x2.1, x3.1, x3.2.1, ())
def E17 (f60 : List Device × Int × Unit → Option (List Device × Int × Unit)) (f61 : List Cue × Int × Unit → Option (List Cue × Int × Unit)) (f39 : List Gust × Int × Unit → Option (List Gust × Int × Unit)) : Env := envL [(60, mkE p60 r60 false f60), (61, mkE p61 r61 false f61), (39, mkE p39 r39 false f39)]
noncomputable def L17 (f60 : List Device × Int × Unit → Option (List Device × Int × Unit)) (f61 : List Cue × Int × Unit → Option (List Cue × Int × Unit)) (f39 : List Gust × Int × Unit → Option (List Gust × Int × Unit)) : LEnv (densS (muts p17 ++ r17)) := lenv []
theorem e17 (f60 : List Device × Int × Unit → Option (List Device × Int × Unit)) (f61 : List Cue × Int × Unit → Option (List Cue × Int × Unit)) (f39 : List Gust × Int × Unit → Option (List Gust × Int × Unit)) (a : densS p17) : runF (E17 f60 f61 f39) tab2 (fun _ => false) p17 r17 Proofs.Tryz.f17 (L17 f60 f61 f39) a = F17 f60 f61 f39 a := by kernel_rfl
theorem ok17 {f60 : List Device × Int × Unit → Option (List Device × Int × Unit)} {f61 : List Cue × Int × Unit → Option (List Cue × Int × Unit)} {f39 : List Gust × Int × Unit → Option (List Gust × Int × Unit)} (h60 : OK Proofs.Tryz.prog 60 (mkE p60 r60 false f60)) (h61 : OK Proofs.Tryz.prog 61 (mkE p61 r61 false f61)) (h39 : OK Proofs.Tryz.prog 39 (mkE p39 r39 false f39)) : OK Proofs.Tryz.prog 17 (mkE p17 r17 false (F17 f60 f61 f39)) :=
  fn_ok tab_ok2 (envL_ok (l := [(60, mkE p60 r60 false f60), (61, mkE p61 r61 false f61), (39, mkE p39 r39 false f39)]) (OKs.cons h60 (OKs.cons h61 (OKs.cons h39 OKs.nil)))) mixed2 (ann := (fun _ => false)) (L := L17 f60 f61 f39) (fn := Proofs.Tryz.f17) (c := bodyC Proofs.Tryz.f17) (ls := []) Proofs.Tryz.func17 (by kernel_rfl) (by kernel_rfl) (by kernel_rfl) (by kernel_rfl)
    LoopsP.nil (e17 f60 f61 f39)
/-! laws.markDropS -/
def p18 : List SP := [.one (.o 0 .drop), .one (.int .i64)]
def r18 : List SP := [.one (.int .i64)]
def q18_0 : List SP := pat 51 0 [(0, .one (.o 0 .drop)), (1, .one (.int .i64)), (5, .one (.int .i64))]
noncomputable def s18_0 (f62 : Int × Unit → Option (Str × Unit)) (t1 : List Drop × Int × Int × Unit) (rec K : List Drop × Int × Int × Unit → Option (List Drop × Int × Unit)) : Option (List Drop × Int × Unit) :=
  cond (decide (t1.2.2.1 < (Int.ofNat (List.length t1.1)))) ((f62 (t1.2.1, ())).bind fun x2 => rdL t1.1 t1.2.2.1 fun _ => (t1.1[(Int.toNat t1.2.2.1)]?).bind fun d3 => rdL (List.set t1.1 (Int.toNat t1.2.2.1) (⟨x2.1, d3.Born, ⟨d3.At.X, d3.At.Y⟩, d3.Height⟩ : Drop)) t1.2.2.1 fun _ => ((List.set t1.1 (Int.toNat t1.2.2.1) (⟨x2.1, d3.Born, ⟨d3.At.X, d3.At.Y⟩, d3.Height⟩ : Drop))[(Int.toNat t1.2.2.1)]?).bind fun d4 => rdL (List.set (List.set t1.1 (Int.toNat t1.2.2.1) (⟨x2.1, d3.Born, ⟨d3.At.X, d3.At.Y⟩, d3.Height⟩ : Drop)) (Int.toNat t1.2.2.1) (⟨d4.From, (w64 (t1.2.1 + 1)), ⟨d4.At.X, d4.At.Y⟩, d4.Height⟩ : Drop)) t1.2.2.1 fun _ => ((List.set (List.set t1.1 (Int.toNat t1.2.2.1) (⟨x2.1, d3.Born, ⟨d3.At.X, d3.At.Y⟩, d3.Height⟩ : Drop)) (Int.toNat t1.2.2.1) (⟨d4.From, (w64 (t1.2.1 + 1)), ⟨d4.At.X, d4.At.Y⟩, d4.Height⟩ : Drop))[(Int.toNat t1.2.2.1)]?).bind fun d5 => rdL (List.set (List.set (List.set t1.1 (Int.toNat t1.2.2.1) (⟨x2.1, d3.Born, ⟨d3.At.X, d3.At.Y⟩, d3.Height⟩ : Drop)) (Int.toNat t1.2.2.1) (⟨d4.From, (w64 (t1.2.1 + 1)), ⟨d4.At.X, d4.At.Y⟩, d4.Height⟩ : Drop)) (Int.toNat t1.2.2.1) (⟨d5.From, d5.Born, ⟨(w64 ((w64 (t1.2.1 + 1)) + 1)), d5.At.Y⟩, d5.Height⟩ : Drop)) t1.2.2.1 fun _ => ((List.set (List.set (List.set t1.1 (Int.toNat t1.2.2.1) (⟨x2.1, d3.Born, ⟨d3.At.X, d3.At.Y⟩, d3.Height⟩ : Drop)) (Int.toNat t1.2.2.1) (⟨d4.From, (w64 (t1.2.1 + 1)), ⟨d4.At.X, d4.At.Y⟩, d4.Height⟩ : Drop)) (Int.toNat t1.2.2.1) (⟨d5.From, d5.Born, ⟨(w64 ((w64 (t1.2.1 + 1)) + 1)), d5.At.Y⟩, d5.Height⟩ : Drop))[(Int.toNat t1.2.2.1)]?).bind fun d6 => rdL (List.set (List.set (List.set (List.set t1.1 (Int.toNat t1.2.2.1) (⟨x2.1, d3.Born, ⟨d3.At.X, d3.At.Y⟩, d3.Height⟩ : Drop)) (Int.toNat t1.2.2.1) (⟨d4.From, (w64 (t1.2.1 + 1)), ⟨d4.At.X, d4.At.Y⟩, d4.Height⟩ : Drop)) (Int.toNat t1.2.2.1) (⟨d5.From, d5.Born, ⟨(w64 ((w64 (t1.2.1 + 1)) + 1)), d5.At.Y⟩, d5.Height⟩ : Drop)) (Int.toNat t1.2.2.1) (⟨d6.From, d6.Born, ⟨d6.At.X, (w64 ((w64 ((w64 (t1.2.1 + 1)) + 1)) + 1))⟩, d6.Height⟩ : Drop)) t1.2.2.1 fun _ => ((List.set (List.set (List.set (List.set t1.1 (Int.toNat t1.2.2.1) (⟨x2.1, d3.Born, ⟨d3.At.X, d3.At.Y⟩, d3.Height⟩ : Drop)) (Int.toNat t1.2.2.1) (⟨d4.From, (w64 (t1.2.1 + 1)), ⟨d4.At.X, d4.At.Y⟩, d4.Height⟩ : Drop)) (Int.toNat t1.2.2.1) (⟨d5.From, d5.Born, ⟨(w64 ((w64 (t1.2.1 + 1)) + 1)), d5.At.Y⟩, d5.Height⟩ : Drop)) (Int.toNat t1.2.2.1) (⟨d6.From, d6.Born, ⟨d6.At.X, (w64 ((w64 ((w64 (t1.2.1 + 1)) + 1)) + 1))⟩, d6.Height⟩ : Drop))[(Int.toNat t1.2.2.1)]?).bind fun d7 => rec ((List.set (List.set (List.set (List.set (List.set t1.1 (Int.toNat t1.2.2.1) (⟨x2.1, d3.Born, ⟨d3.At.X, d3.At.Y⟩, d3.Height⟩ : Drop)) (Int.toNat t1.2.2.1) (⟨d4.From, (w64 (t1.2.1 + 1)), ⟨d4.At.X, d4.At.Y⟩, d4.Height⟩ : Drop)) (Int.toNat t1.2.2.1) (⟨d5.From, d5.Born, ⟨(w64 ((w64 (t1.2.1 + 1)) + 1)), d5.At.Y⟩, d5.Height⟩ : Drop)) (Int.toNat t1.2.2.1) (⟨d6.From, d6.Born, ⟨d6.At.X, (w64 ((w64 ((w64 (t1.2.1 + 1)) + 1)) + 1))⟩, d6.Height⟩ : Drop)) (Int.toNat t1.2.2.1) (⟨d7.From, d7.Born, ⟨d7.At.X, d7.At.Y⟩, (w64 ((w64 ((w64 ((w64 (t1.2.1 + 1)) + 1)) + 1)) + 1))⟩ : Drop)), (w64 ((w64 ((w64 ((w64 ((w64 (t1.2.1 + 1)) + 1)) + 1)) + 1)) + 1)), (w64 (t1.2.2.1 + 1)), ())) (K (t1.1, t1.2.1, t1.2.2.1, ()))
noncomputable def F18 (f62 : Int × Unit → Option (Str × Unit)) (a : List Drop × Int × Unit) : Option (List Drop × Int × Unit) :=
  iterF (s18_0 f62) fuel (a.1, a.2.1, 0, ()) fun t8 => some (t8.1, t8.2.1, ())
def E18 (f62 : Int × Unit → Option (Str × Unit)) : Env := envL [(62, mkE p62 r62 false f62)]
noncomputable def L18 (f62 : Int × Unit → Option (Str × Unit)) : LEnv (densS (muts p18 ++ r18)) := lenv [(0, loopL (R := densS (muts p18 ++ r18)) q18_0 (s18_0 f62))]
theorem e18_0 (f62 : Int × Unit → Option (Str × Unit)) (X : Nat → St → Option (densS (muts p18 ++ r18))) (rec K : densS q18_0 → Option (densS (muts p18 ++ r18))) (t : densS q18_0) :
    ev (E18 f62) tab2 (fun _ => false) (L18 f62) (retK tab2 p18 r18 Proofs.Tryz.f18.results.toList) (loopC Proofs.Tryz.f18 0) (fun i s => cond (Nat.beq i 0) (decK 100 q18_0 s K) (X i s)) (fun s => decK 100 q18_0 s rec) (enc q18_0 t) = s18_0 f62 t rec K := by kernel_rfl
theorem e18 (f62 : Int × Unit → Option (Str × Unit)) (a : densS p18) : runF (E18 f62) tab2 (fun _ => false) p18 r18 Proofs.Tryz.f18 (L18 f62) a = F18 f62 a := by kernel_rfl
theorem ok18 {f62 : Int × Unit → Option (Str × Unit)} (h62 : OK Proofs.Tryz.prog 62 (mkE p62 r62 false f62)) : OK Proofs.Tryz.prog 18 (mkE p18 r18 false (F18 f62)) :=
  fn_ok tab_ok2 (envL_ok (l := [(62, mkE p62 r62 false f62)]) (OKs.cons h62 OKs.nil)) mixed2 (ann := (fun _ => false)) (L := L18 f62) (fn := Proofs.Tryz.f18) (c := bodyC Proofs.Tryz.f18) (ls := [(0, loopC Proofs.Tryz.f18 0)]) Proofs.Tryz.func18 (by kernel_rfl) (by kernel_rfl) (by kernel_rfl) (by kernel_rfl)
    (LoopsP.cons q18_0 (s18_0 f62) rfl (e18_0 f62) LoopsP.nil) (e18 f62)
/-! laws.heldDropS -/
def p19 : List SP := [.one (.r .drop), .one (.int .i64)]
def r19 : List SP := [.one (.int .i64)]
def q19_0 : List SP := pat 61 0 [(0, .one (.r .drop)), (1, .one (.int .i64)), (5, .one (.int .i64))]
noncomputable def s19_0 (f62 : Int × Unit → Option (Str × Unit)) (t1 : List Drop × Int × Int × Unit) (rec K : List Drop × Int × Int × Unit → Option (Int × Unit)) : Option (Int × Unit) :=
  cond (decide (t1.2.2.1 < (Int.ofNat (List.length t1.1)))) (rdL t1.1 t1.2.2.1 fun d2 => (f62 (t1.2.1, ())).bind fun x3 => cond (!decide (d2.From = x3.1)) (some ((-1), ())) (rdL t1.1 t1.2.2.1 fun d4 => cond (!(decide (d4.Born = (w64 (t1.2.1 + 1))))) (some ((-1), ())) (rdL t1.1 t1.2.2.1 fun d5 => cond (!(decide (d5.At.X = (w64 ((w64 (t1.2.1 + 1)) + 1))))) (some ((-1), ())) (rdL t1.1 t1.2.2.1 fun d6 => cond (!(decide (d6.At.Y = (w64 ((w64 ((w64 (t1.2.1 + 1)) + 1)) + 1))))) (some ((-1), ())) (rdL t1.1 t1.2.2.1 fun d7 => cond (!(decide (d7.Height = (w64 ((w64 ((w64 ((w64 (t1.2.1 + 1)) + 1)) + 1)) + 1))))) (some ((-1), ())) (rec (t1.1, (w64 ((w64 ((w64 ((w64 ((w64 (t1.2.1 + 1)) + 1)) + 1)) + 1)) + 1)), (w64 (t1.2.2.1 + 1)), ()))))))) (K (t1.1, t1.2.1, t1.2.2.1, ()))
noncomputable def F19 (f62 : Int × Unit → Option (Str × Unit)) (a : List Drop × Int × Unit) : Option (Int × Unit) :=
  iterF (s19_0 f62) fuel (a.1, a.2.1, 0, ()) fun t8 => some (t8.2.1, ())
def E19 (f62 : Int × Unit → Option (Str × Unit)) : Env := envL [(62, mkE p62 r62 false f62)]
noncomputable def L19 (f62 : Int × Unit → Option (Str × Unit)) : LEnv (densS (muts p19 ++ r19)) := lenv [(0, loopL (R := densS (muts p19 ++ r19)) q19_0 (s19_0 f62))]
theorem e19_0 (f62 : Int × Unit → Option (Str × Unit)) (X : Nat → St → Option (densS (muts p19 ++ r19))) (rec K : densS q19_0 → Option (densS (muts p19 ++ r19))) (t : densS q19_0) :
    ev (E19 f62) tab2 (fun _ => false) (L19 f62) (retK tab2 p19 r19 Proofs.Tryz.f19.results.toList) (loopC Proofs.Tryz.f19 0) (fun i s => cond (Nat.beq i 0) (decK 100 q19_0 s K) (X i s)) (fun s => decK 100 q19_0 s rec) (enc q19_0 t) = s19_0 f62 t rec K := by kernel_rfl
theorem e19 (f62 : Int × Unit → Option (Str × Unit)) (a : densS p19) : runF (E19 f62) tab2 (fun _ => false) p19 r19 Proofs.Tryz.f19 (L19 f62) a = F19 f62 a := by kernel_rfl
theorem ok19 {f62 : Int × Unit → Option (Str × Unit)} (h62 : OK Proofs.Tryz.prog 62 (mkE p62 r62 false f62)) : OK Proofs.Tryz.prog 19 (mkE p19 r19 false (F19 f62)) :=
  fn_ok tab_ok2 (envL_ok (l := [(62, mkE p62 r62 false f62)]) (OKs.cons h62 OKs.nil)) mixed2 (ann := (fun _ => false)) (L := L19 f62) (fn := Proofs.Tryz.f19) (c := bodyC Proofs.Tryz.f19) (ls := [(0, loopC Proofs.Tryz.f19 0)]) Proofs.Tryz.func19 (by kernel_rfl) (by kernel_rfl) (by kernel_rfl) (by kernel_rfl)
    (LoopsP.cons q19_0 (s19_0 f62) rfl (e19_0 f62) LoopsP.nil) (e19 f62)
/-! laws.FnExactDropsAt -/
def p3 : List SP := [.agg [.r .device, .r .cue, .r .gust, .int .i64], .one (.int .i64)]
def r3 : List SP := [.one (.bool)]
noncomputable def F3 (f11 : (List Device × List Cue × List Gust × Int × Unit) × Int × Unit → Option (Int × Unit)) (f13 : (List Device × List Cue × List Gust × Int × Unit) × Unit → Option ((List Device × List Cue × List Gust × Int × Unit) × Unit)) (f12 : (List Device × List Cue × List Gust × Int × Unit) × Int × Unit → Option (List Drop × Unit)) (f14 : (List Device × List Cue × List Gust × Int × Unit) × Int × Unit → Option (List Drop × Unit)) (f15 : List Drop × List Drop × Unit → Option (Bool × Unit)) (f16 : (List Device × List Cue × List Gust × Int × Unit) × (List Device × List Cue × List Gust × Int × Unit) × Unit → Option (Bool × Unit)) (f17 : (List Device × List Cue × List Gust × Int × Unit) × Int × Unit → Option (List Device × List Cue × List Gust × Int × Unit)) (f18 : List Drop × Int × Unit → Option (List Drop × Int × Unit)) (f19 : List Drop × Int × Unit → Option (Int × Unit)) (a : (List Device × List Cue × List Gust × Int × Unit) × Int × Unit) : Option (Bool × Unit) :=
  (f11 ((a.1.1, a.1.2.1, a.1.2.2.1, a.1.2.2.2.1, ()), 1048576, ())).bind fun x1 => cond (decide (x1.1 < 0)) (some (true, ())) ((f13 ((a.1.1, a.1.2.1, a.1.2.2.1, a.1.2.2.2.1, ()), ())).bind fun x2 => (f12 ((x2.1.1, x2.1.2.1, x2.1.2.2.1, x2.1.2.2.2.1, ()), a.2.1, ())).bind fun x3 => (f13 ((a.1.1, a.1.2.1, a.1.2.2.1, a.1.2.2.2.1, ()), ())).bind fun x4 => (f14 ((x4.1.1, x4.1.2.1, x4.1.2.2.1, x4.1.2.2.2.1, ()), a.2.1, ())).bind fun x5 => (f15 (x5.1, x3.1, ())).bind fun x6 => cond (!x6.1) (some (false, ())) ((f13 ((a.1.1, a.1.2.1, a.1.2.2.1, a.1.2.2.2.1, ()), ())).bind fun x7 => (f16 ((x4.1.1, x4.1.2.1, x4.1.2.2.1, x4.1.2.2.2.1, ()), (x7.1.1, x7.1.2.1, x7.1.2.2.1, x7.1.2.2.2.1, ()), ())).bind fun x8 => cond (!x8.1) (some (false, ())) ((f17 ((x4.1.1, x4.1.2.1, x4.1.2.2.1, x4.1.2.2.2.1, ()), 1, ())).bind fun x9 => cond (!(decide (x9.2.2.2.1 < 0))) ((f15 (x5.1, x3.1, ())).bind fun x10 => cond (!x10.1) (some (false, ())) ((f18 (x5.1, 1, ())).bind fun x11 => (f19 (x11.1, 1, ())).bind fun x12 => cond (decide (x12.1 < 0)) (some (false, ())) (cond (!(decide (x12.1 = x11.2.1))) (some (false, ())) ((f13 ((a.1.1, a.1.2.1, a.1.2.2.1, a.1.2.2.2.1, ()), ())).bind fun x13 => (f14 ((x13.1.1, x13.1.2.1, x13.1.2.2.1, x13.1.2.2.2.1, ()), a.2.1, ())).bind fun x14 => (f15 (x14.1, x3.1, ())).bind fun x15 => cond (!x15.1) (some (false, ())) ((f19 (x11.1, 1, ())).bind fun x16 => cond (decide (x16.1 < 0)) (some (false, ())) (cond (!(decide (x16.1 = x11.2.1))) (some (false, ())) (some (true, ())))))))) (some (false, ())))))
def E3 (f11 : (List Device × List Cue × List Gust × Int × Unit) × Int × Unit → Option (Int × Unit)) (f13 : (List Device × List Cue × List Gust × Int × Unit) × Unit → Option ((List Device × List Cue × List Gust × Int × Unit) × Unit)) (f12 : (List Device × List Cue × List Gust × Int × Unit) × Int × Unit → Option (List Drop × Unit)) (f14 : (List Device × List Cue × List Gust × Int × Unit) × Int × Unit → Option (List Drop × Unit)) (f15 : List Drop × List Drop × Unit → Option (Bool × Unit)) (f16 : (List Device × List Cue × List Gust × Int × Unit) × (List Device × List Cue × List Gust × Int × Unit) × Unit → Option (Bool × Unit)) (f17 : (List Device × List Cue × List Gust × Int × Unit) × Int × Unit → Option (List Device × List Cue × List Gust × Int × Unit)) (f18 : List Drop × Int × Unit → Option (List Drop × Int × Unit)) (f19 : List Drop × Int × Unit → Option (Int × Unit)) : Env := envL [(11, mkE p11 r11 false f11), (13, mkE p13 r13 false f13), (12, mkE p12 r12 false f12), (14, mkE p14 r14 false f14), (15, mkE p15 r15 false f15), (16, mkE p16 r16 false f16), (17, mkE p17 r17 false f17), (18, mkE p18 r18 false f18), (19, mkE p19 r19 false f19)]
noncomputable def L3 (f11 : (List Device × List Cue × List Gust × Int × Unit) × Int × Unit → Option (Int × Unit)) (f13 : (List Device × List Cue × List Gust × Int × Unit) × Unit → Option ((List Device × List Cue × List Gust × Int × Unit) × Unit)) (f12 : (List Device × List Cue × List Gust × Int × Unit) × Int × Unit → Option (List Drop × Unit)) (f14 : (List Device × List Cue × List Gust × Int × Unit) × Int × Unit → Option (List Drop × Unit)) (f15 : List Drop × List Drop × Unit → Option (Bool × Unit)) (f16 : (List Device × List Cue × List Gust × Int × Unit) × (List Device × List Cue × List Gust × Int × Unit) × Unit → Option (Bool × Unit)) (f17 : (List Device × List Cue × List Gust × Int × Unit) × Int × Unit → Option (List Device × List Cue × List Gust × Int × Unit)) (f18 : List Drop × Int × Unit → Option (List Drop × Int × Unit)) (f19 : List Drop × Int × Unit → Option (Int × Unit)) : LEnv (densS (muts p3 ++ r3)) := lenv []
theorem e3 (f11 : (List Device × List Cue × List Gust × Int × Unit) × Int × Unit → Option (Int × Unit)) (f13 : (List Device × List Cue × List Gust × Int × Unit) × Unit → Option ((List Device × List Cue × List Gust × Int × Unit) × Unit)) (f12 : (List Device × List Cue × List Gust × Int × Unit) × Int × Unit → Option (List Drop × Unit)) (f14 : (List Device × List Cue × List Gust × Int × Unit) × Int × Unit → Option (List Drop × Unit)) (f15 : List Drop × List Drop × Unit → Option (Bool × Unit)) (f16 : (List Device × List Cue × List Gust × Int × Unit) × (List Device × List Cue × List Gust × Int × Unit) × Unit → Option (Bool × Unit)) (f17 : (List Device × List Cue × List Gust × Int × Unit) × Int × Unit → Option (List Device × List Cue × List Gust × Int × Unit)) (f18 : List Drop × Int × Unit → Option (List Drop × Int × Unit)) (f19 : List Drop × Int × Unit → Option (Int × Unit)) (a : densS p3) : runF (E3 f11 f13 f12 f14 f15 f16 f17 f18 f19) tab2 (fun _ => false) p3 r3 Proofs.Tryz.f3 (L3 f11 f13 f12 f14 f15 f16 f17 f18 f19) a = F3 f11 f13 f12 f14 f15 f16 f17 f18 f19 a := by kernel_rfl
theorem ok3 {f11 : (List Device × List Cue × List Gust × Int × Unit) × Int × Unit → Option (Int × Unit)} {f13 : (List Device × List Cue × List Gust × Int × Unit) × Unit → Option ((List Device × List Cue × List Gust × Int × Unit) × Unit)} {f12 : (List Device × List Cue × List Gust × Int × Unit) × Int × Unit → Option (List Drop × Unit)} {f14 : (List Device × List Cue × List Gust × Int × Unit) × Int × Unit → Option (List Drop × Unit)} {f15 : List Drop × List Drop × Unit → Option (Bool × Unit)} {f16 : (List Device × List Cue × List Gust × Int × Unit) × (List Device × List Cue × List Gust × Int × Unit) × Unit → Option (Bool × Unit)} {f17 : (List Device × List Cue × List Gust × Int × Unit) × Int × Unit → Option (List Device × List Cue × List Gust × Int × Unit)} {f18 : List Drop × Int × Unit → Option (List Drop × Int × Unit)} {f19 : List Drop × Int × Unit → Option (Int × Unit)} (h11 : OK Proofs.Tryz.prog 11 (mkE p11 r11 false f11)) (h13 : OK Proofs.Tryz.prog 13 (mkE p13 r13 false f13)) (h12 : OK Proofs.Tryz.prog 12 (mkE p12 r12 false f12)) (h14 : OK Proofs.Tryz.prog 14 (mkE p14 r14 false f14)) (h15 : OK Proofs.Tryz.prog 15 (mkE p15 r15 false f15)) (h16 : OK Proofs.Tryz.prog 16 (mkE p16 r16 false f16)) (h17 : OK Proofs.Tryz.prog 17 (mkE p17 r17 false f17)) (h18 : OK Proofs.Tryz.prog 18 (mkE p18 r18 false f18)) (h19 : OK Proofs.Tryz.prog 19 (mkE p19 r19 false f19)) : OK Proofs.Tryz.prog 3 (mkE p3 r3 false (F3 f11 f13 f12 f14 f15 f16 f17 f18 f19)) :=
  fn_ok tab_ok2 (envL_ok (l := [(11, mkE p11 r11 false f11), (13, mkE p13 r13 false f13), (12, mkE p12 r12 false f12), (14, mkE p14 r14 false f14), (15, mkE p15 r15 false f15), (16, mkE p16 r16 false f16), (17, mkE p17 r17 false f17), (18, mkE p18 r18 false f18), (19, mkE p19 r19 false f19)]) (OKs.cons h11 (OKs.cons h13 (OKs.cons h12 (OKs.cons h14 (OKs.cons h15 (OKs.cons h16 (OKs.cons h17 (OKs.cons h18 (OKs.cons h19 OKs.nil)))))))))) mixed2 (ann := (fun _ => false)) (L := L3 f11 f13 f12 f14 f15 f16 f17 f18 f19) (fn := Proofs.Tryz.f3) (c := bodyC Proofs.Tryz.f3) (ls := []) Proofs.Tryz.func3 (by kernel_rfl) (by kernel_rfl) (by kernel_rfl) (by kernel_rfl)
    LoopsP.nil (e3 f11 f13 f12 f14 f15 f16 f17 f18 f19)
/-! spec.LandingsOf -/
def p20 : List SP := [.agg [.r .device, .r .cue, .r .gust, .int .i64]]
def r20 : List SP := [.one (.o 0 .drop)]
def q20_0 : List SP := pat 32 0 [(1, .box 5000001 [.r .device, .r .cue, .r .gust, .int .i64]), (3, .one (.o 5000002 .drop)), (12, .one (.o 5000003 .throw)), (13, .one (.int .i64)), (14, .one (.int .i64))]
noncomputable def s20_0 (f47 : (List Device × List Cue × List Gust × Int × Unit) × Unit → Option (Bool × Unit)) (f48 : (List Device × List Cue × List Gust × Int × Unit) × Unit → Option (List Throw × Unit)) (f49 : Jet × Unit → Option (Int × Unit)) (f50 : (List Device × List Cue × List Gust × Int × Unit) × Throw × Int × Unit → Option (Drop × Unit)) (t3 : (List Device × List Cue × List Gust × Int × Unit) × List Drop × List Throw × Int × Int × Unit) (rec K : (List Device × List Cue × List Gust × Int × Unit) × List Drop × List Throw × Int × Int × Unit → Option (List Drop × Unit)) : Option (List Drop × Unit) :=
  cond (decide (t3.2.2.2.2.1 < t3.2.2.2.1)) (rdL t3.2.2.1 t3.2.2.2.2.1 fun _ => (t3.2.2.1[(Int.toNat t3.2.2.2.2.1)]?).bind fun d4 => (f49 (d4.jet, ())).bind fun x5 => (f50 ((t3.1.1, t3.1.2.1, t3.1.2.2.1, t3.1.2.2.2.1, ()), d4, (w64 (d4.born + x5.1)), ())).bind fun x6 => capK (List.length t3.2.1 + List.length ([x6.1] : List Drop)) (rec ((t3.1.1, t3.1.2.1, t3.1.2.2.1, t3.1.2.2.2.1, ()), (t3.2.1 ++ ([x6.1] : List Drop)), t3.2.2.1, t3.2.2.2.1, (w64 (t3.2.2.2.2.1 + 1)), ()))) (K ((t3.1.1, t3.1.2.1, t3.1.2.2.1, t3.1.2.2.2.1, ()), t3.2.1, t3.2.2.1, t3.2.2.2.1, t3.2.2.2.2.1, ()))
noncomputable def F20 (f47 : (List Device × List Cue × List Gust × Int × Unit) × Unit → Option (Bool × Unit)) (f48 : (List Device × List Cue × List Gust × Int × Unit) × Unit → Option (List Throw × Unit)) (f49 : Jet × Unit → Option (Int × Unit)) (f50 : (List Device × List Cue × List Gust × Int × Unit) × Throw × Int × Unit → Option (Drop × Unit)) (a : (List Device × List Cue × List Gust × Int × Unit) × Unit) : Option (List Drop × Unit) :=
  (f47 ((a.1.1, a.1.2.1, a.1.2.2.1, a.1.2.2.2.1, ()), ())).bind fun x1 => cond (!x1.1) (some (([] : List Drop), ())) ((f48 ((a.1.1, a.1.2.1, a.1.2.2.1, a.1.2.2.2.1, ()), ())).bind fun x2 => iterF (s20_0 f47 f48 f49 f50) fuel ((a.1.1, a.1.2.1, a.1.2.2.1, a.1.2.2.2.1, ()), ([] : List Drop), x2.1, (Int.ofNat (List.length x2.1)), 0, ()) fun t7 => some (t7.2.1, ()))
def E20 (f47 : (List Device × List Cue × List Gust × Int × Unit) × Unit → Option (Bool × Unit)) (f48 : (List Device × List Cue × List Gust × Int × Unit) × Unit → Option (List Throw × Unit)) (f49 : Jet × Unit → Option (Int × Unit)) (f50 : (List Device × List Cue × List Gust × Int × Unit) × Throw × Int × Unit → Option (Drop × Unit)) : Env := envL [(47, mkE p47 r47 false f47), (48, mkE p48 r48 false f48), (49, mkE p49 r49 false f49), (50, mkE p50 r50 false f50)]
noncomputable def L20 (f47 : (List Device × List Cue × List Gust × Int × Unit) × Unit → Option (Bool × Unit)) (f48 : (List Device × List Cue × List Gust × Int × Unit) × Unit → Option (List Throw × Unit)) (f49 : Jet × Unit → Option (Int × Unit)) (f50 : (List Device × List Cue × List Gust × Int × Unit) × Throw × Int × Unit → Option (Drop × Unit)) : LEnv (densS (muts p20 ++ r20)) := lenv [(0, loopL (R := densS (muts p20 ++ r20)) q20_0 (s20_0 f47 f48 f49 f50))]
theorem e20_0 (f47 : (List Device × List Cue × List Gust × Int × Unit) × Unit → Option (Bool × Unit)) (f48 : (List Device × List Cue × List Gust × Int × Unit) × Unit → Option (List Throw × Unit)) (f49 : Jet × Unit → Option (Int × Unit)) (f50 : (List Device × List Cue × List Gust × Int × Unit) × Throw × Int × Unit → Option (Drop × Unit)) (X : Nat → St → Option (densS (muts p20 ++ r20))) (rec K : densS q20_0 → Option (densS (muts p20 ++ r20))) (t : densS q20_0) :
    ev (E20 f47 f48 f49 f50) tab2 (fun _ => false) (L20 f47 f48 f49 f50) (retK tab2 p20 r20 Proofs.Tryz.f20.results.toList) (loopC Proofs.Tryz.f20 0) (fun i s => cond (Nat.beq i 0) (decK 100 q20_0 s K) (X i s)) (fun s => decK 100 q20_0 s rec) (enc q20_0 t) = s20_0 f47 f48 f49 f50 t rec K := by kernel_rfl
theorem e20 (f47 : (List Device × List Cue × List Gust × Int × Unit) × Unit → Option (Bool × Unit)) (f48 : (List Device × List Cue × List Gust × Int × Unit) × Unit → Option (List Throw × Unit)) (f49 : Jet × Unit → Option (Int × Unit)) (f50 : (List Device × List Cue × List Gust × Int × Unit) × Throw × Int × Unit → Option (Drop × Unit)) (a : densS p20) : runF (E20 f47 f48 f49 f50) tab2 (fun _ => false) p20 r20 Proofs.Tryz.f20 (L20 f47 f48 f49 f50) a = F20 f47 f48 f49 f50 a := by kernel_rfl
theorem ok20 {f47 : (List Device × List Cue × List Gust × Int × Unit) × Unit → Option (Bool × Unit)} {f48 : (List Device × List Cue × List Gust × Int × Unit) × Unit → Option (List Throw × Unit)} {f49 : Jet × Unit → Option (Int × Unit)} {f50 : (List Device × List Cue × List Gust × Int × Unit) × Throw × Int × Unit → Option (Drop × Unit)} (h47 : OK Proofs.Tryz.prog 47 (mkE p47 r47 false f47)) (h48 : OK Proofs.Tryz.prog 48 (mkE p48 r48 false f48)) (h49 : OK Proofs.Tryz.prog 49 (mkE p49 r49 false f49)) (h50 : OK Proofs.Tryz.prog 50 (mkE p50 r50 false f50)) : OK Proofs.Tryz.prog 20 (mkE p20 r20 false (F20 f47 f48 f49 f50)) :=
  fn_ok tab_ok2 (envL_ok (l := [(47, mkE p47 r47 false f47), (48, mkE p48 r48 false f48), (49, mkE p49 r49 false f49), (50, mkE p50 r50 false f50)]) (OKs.cons h47 (OKs.cons h48 (OKs.cons h49 (OKs.cons h50 OKs.nil))))) mixed2 (ann := (fun _ => false)) (L := L20 f47 f48 f49 f50) (fn := Proofs.Tryz.f20) (c := bodyC Proofs.Tryz.f20) (ls := [(0, loopC Proofs.Tryz.f20 0)]) Proofs.Tryz.func20 (by kernel_rfl) (by kernel_rfl) (by kernel_rfl) (by kernel_rfl)
    (LoopsP.cons q20_0 (s20_0 f47 f48 f49 f50) rfl (e20_0 f47 f48 f49 f50) LoopsP.nil) (e20 f47 f48 f49 f50)
/-! impl.LandingsOf -/
def p21 : List SP := [.agg [.r .device, .r .cue, .r .gust, .int .i64]]
def r21 : List SP := [.one (.o 0 .drop)]
def q21_0 : List SP := pat 25 0 [(1, .box 5000001 [.r .device, .r .cue, .r .gust, .int .i64]), (3, .one (.o 5000002 .drop)), (8, .one (.o 5000003 .throw)), (9, .one (.int .i64)), (10, .one (.int .i64))]
noncomputable def s21_0 (f54 : (List Device × List Cue × List Gust × Int × Unit) × Unit → Option (List Throw × Unit)) (f55 : Throw × Unit → Option (Int × Unit)) (f56 : Throw × List Gust × Int × Unit → Option (Drop × Unit)) (t2 : (List Device × List Cue × List Gust × Int × Unit) × List Drop × List Throw × Int × Int × Unit) (rec K : (List Device × List Cue × List Gust × Int × Unit) × List Drop × List Throw × Int × Int × Unit → Option (List Drop × Unit)) : Option (List Drop × Unit) :=
  cond (decide (t2.2.2.2.2.1 < t2.2.2.2.1)) (rdL t2.2.2.1 t2.2.2.2.2.1 fun _ => (t2.2.2.1[(Int.toNat t2.2.2.2.2.1)]?).bind fun d3 => (f55 (d3, ())).bind fun x4 => (f56 (d3, t2.1.2.2.1, x4.1, ())).bind fun x5 => capK (List.length t2.2.1 + List.length ([x5.1] : List Drop)) (rec ((t2.1.1, t2.1.2.1, t2.1.2.2.1, t2.1.2.2.2.1, ()), (t2.2.1 ++ ([x5.1] : List Drop)), t2.2.2.1, t2.2.2.2.1, (w64 (t2.2.2.2.2.1 + 1)), ()))) (K ((t2.1.1, t2.1.2.1, t2.1.2.2.1, t2.1.2.2.2.1, ()), t2.2.1, t2.2.2.1, t2.2.2.2.1, t2.2.2.2.2.1, ()))
noncomputable def F21 (f54 : (List Device × List Cue × List Gust × Int × Unit) × Unit → Option (List Throw × Unit)) (f55 : Throw × Unit → Option (Int × Unit)) (f56 : Throw × List Gust × Int × Unit → Option (Drop × Unit)) (a : (List Device × List Cue × List Gust × Int × Unit) × Unit) : Option (List Drop × Unit) :=
  (f54 ((a.1.1, a.1.2.1, a.1.2.2.1, a.1.2.2.2.1, ()), ())).bind fun x1 => iterF (s21_0 f54 f55 f56) fuel ((a.1.1, a.1.2.1, a.1.2.2.1, a.1.2.2.2.1, ()), ([] : List Drop), x1.1, (Int.ofNat (List.length x1.1)), 0, ()) fun t6 => some (t6.2.1, ())
def E21 (f54 : (List Device × List Cue × List Gust × Int × Unit) × Unit → Option (List Throw × Unit)) (f55 : Throw × Unit → Option (Int × Unit)) (f56 : Throw × List Gust × Int × Unit → Option (Drop × Unit)) : Env := envL [(54, mkE p54 r54 false f54), (55, mkE p55 r55 false f55), (56, mkE p56 r56 false f56)]
noncomputable def L21 (f54 : (List Device × List Cue × List Gust × Int × Unit) × Unit → Option (List Throw × Unit)) (f55 : Throw × Unit → Option (Int × Unit)) (f56 : Throw × List Gust × Int × Unit → Option (Drop × Unit)) : LEnv (densS (muts p21 ++ r21)) := lenv [(0, loopL (R := densS (muts p21 ++ r21)) q21_0 (s21_0 f54 f55 f56))]
theorem e21_0 (f54 : (List Device × List Cue × List Gust × Int × Unit) × Unit → Option (List Throw × Unit)) (f55 : Throw × Unit → Option (Int × Unit)) (f56 : Throw × List Gust × Int × Unit → Option (Drop × Unit)) (X : Nat → St → Option (densS (muts p21 ++ r21))) (rec K : densS q21_0 → Option (densS (muts p21 ++ r21))) (t : densS q21_0) :
    ev (E21 f54 f55 f56) tab2 (fun _ => false) (L21 f54 f55 f56) (retK tab2 p21 r21 Proofs.Tryz.f21.results.toList) (loopC Proofs.Tryz.f21 0) (fun i s => cond (Nat.beq i 0) (decK 100 q21_0 s K) (X i s)) (fun s => decK 100 q21_0 s rec) (enc q21_0 t) = s21_0 f54 f55 f56 t rec K := by kernel_rfl
theorem e21 (f54 : (List Device × List Cue × List Gust × Int × Unit) × Unit → Option (List Throw × Unit)) (f55 : Throw × Unit → Option (Int × Unit)) (f56 : Throw × List Gust × Int × Unit → Option (Drop × Unit)) (a : densS p21) : runF (E21 f54 f55 f56) tab2 (fun _ => false) p21 r21 Proofs.Tryz.f21 (L21 f54 f55 f56) a = F21 f54 f55 f56 a := by kernel_rfl
theorem ok21 {f54 : (List Device × List Cue × List Gust × Int × Unit) × Unit → Option (List Throw × Unit)} {f55 : Throw × Unit → Option (Int × Unit)} {f56 : Throw × List Gust × Int × Unit → Option (Drop × Unit)} (h54 : OK Proofs.Tryz.prog 54 (mkE p54 r54 false f54)) (h55 : OK Proofs.Tryz.prog 55 (mkE p55 r55 false f55)) (h56 : OK Proofs.Tryz.prog 56 (mkE p56 r56 false f56)) : OK Proofs.Tryz.prog 21 (mkE p21 r21 false (F21 f54 f55 f56)) :=
  fn_ok tab_ok2 (envL_ok (l := [(54, mkE p54 r54 false f54), (55, mkE p55 r55 false f55), (56, mkE p56 r56 false f56)]) (OKs.cons h54 (OKs.cons h55 (OKs.cons h56 OKs.nil)))) mixed2 (ann := (fun _ => false)) (L := L21 f54 f55 f56) (fn := Proofs.Tryz.f21) (c := bodyC Proofs.Tryz.f21) (ls := [(0, loopC Proofs.Tryz.f21 0)]) Proofs.Tryz.func21 (by kernel_rfl) (by kernel_rfl) (by kernel_rfl) (by kernel_rfl)
    (LoopsP.cons q21_0 (s21_0 f54 f55 f56) rfl (e21_0 f54 f55 f56) LoopsP.nil) (e21 f54 f55 f56)
/-! laws.FnExactLandingsOf -/
def p4 : List SP := [.agg [.r .device, .r .cue, .r .gust, .int .i64]]
def r4 : List SP := [.one (.bool)]
noncomputable def F4 (f11 : (List Device × List Cue × List Gust × Int × Unit) × Int × Unit → Option (Int × Unit)) (f13 : (List Device × List Cue × List Gust × Int × Unit) × Unit → Option ((List Device × List Cue × List Gust × Int × Unit) × Unit)) (f20 : (List Device × List Cue × List Gust × Int × Unit) × Unit → Option (List Drop × Unit)) (f21 : (List Device × List Cue × List Gust × Int × Unit) × Unit → Option (List Drop × Unit)) (f15 : List Drop × List Drop × Unit → Option (Bool × Unit)) (f16 : (List Device × List Cue × List Gust × Int × Unit) × (List Device × List Cue × List Gust × Int × Unit) × Unit → Option (Bool × Unit)) (f17 : (List Device × List Cue × List Gust × Int × Unit) × Int × Unit → Option (List Device × List Cue × List Gust × Int × Unit)) (f18 : List Drop × Int × Unit → Option (List Drop × Int × Unit)) (f19 : List Drop × Int × Unit → Option (Int × Unit)) (a : (List Device × List Cue × List Gust × Int × Unit) × Unit) : Option (Bool × Unit) :=
  (f11 ((a.1.1, a.1.2.1, a.1.2.2.1, a.1.2.2.2.1, ()), 1048576, ())).bind fun x1 => cond (decide (x1.1 < 0)) (some (true, ())) ((f13 ((a.1.1, a.1.2.1, a.1.2.2.1, a.1.2.2.2.1, ()), ())).bind fun x2 => (f20 ((x2.1.1, x2.1.2.1, x2.1.2.2.1, x2.1.2.2.2.1, ()), ())).bind fun x3 => (f13 ((a.1.1, a.1.2.1, a.1.2.2.1, a.1.2.2.2.1, ()), ())).bind fun x4 => (f21 ((x4.1.1, x4.1.2.1, x4.1.2.2.1, x4.1.2.2.2.1, ()), ())).bind fun x5 => (f15 (x5.1, x3.1, ())).bind fun x6 => cond (!x6.1) (some (false, ())) ((f13 ((a.1.1, a.1.2.1, a.1.2.2.1, a.1.2.2.2.1, ()), ())).bind fun x7 => (f16 ((x4.1.1, x4.1.2.1, x4.1.2.2.1, x4.1.2.2.2.1, ()), (x7.1.1, x7.1.2.1, x7.1.2.2.1, x7.1.2.2.2.1, ()), ())).bind fun x8 => cond (!x8.1) (some (false, ())) ((f17 ((x4.1.1, x4.1.2.1, x4.1.2.2.1, x4.1.2.2.2.1, ()), 1, ())).bind fun x9 => cond (!(decide (x9.2.2.2.1 < 0))) ((f15 (x5.1, x3.1, ())).bind fun x10 => cond (!x10.1) (some (false, ())) ((f18 (x5.1, 1, ())).bind fun x11 => (f19 (x11.1, 1, ())).bind fun x12 => cond (decide (x12.1 < 0)) (some (false, ())) (cond (!(decide (x12.1 = x11.2.1))) (some (false, ())) ((f13 ((a.1.1, a.1.2.1, a.1.2.2.1, a.1.2.2.2.1, ()), ())).bind fun x13 => (f21 ((x13.1.1, x13.1.2.1, x13.1.2.2.1, x13.1.2.2.2.1, ()), ())).bind fun x14 => (f15 (x14.1, x3.1, ())).bind fun x15 => cond (!x15.1) (some (false, ())) ((f19 (x11.1, 1, ())).bind fun x16 => cond (decide (x16.1 < 0)) (some (false, ())) (cond (!(decide (x16.1 = x11.2.1))) (some (false, ())) (some (true, ())))))))) (some (false, ())))))
def E4 (f11 : (List Device × List Cue × List Gust × Int × Unit) × Int × Unit → Option (Int × Unit)) (f13 : (List Device × List Cue × List Gust × Int × Unit) × Unit → Option ((List Device × List Cue × List Gust × Int × Unit) × Unit)) (f20 : (List Device × List Cue × List Gust × Int × Unit) × Unit → Option (List Drop × Unit)) (f21 : (List Device × List Cue × List Gust × Int × Unit) × Unit → Option (List Drop × Unit)) (f15 : List Drop × List Drop × Unit → Option (Bool × Unit)) (f16 : (List Device × List Cue × List Gust × Int × Unit) × (List Device × List Cue × List Gust × Int × Unit) × Unit → Option (Bool × Unit)) (f17 : (List Device × List Cue × List Gust × Int × Unit) × Int × Unit → Option (List Device × List Cue × List Gust × Int × Unit)) (f18 : List Drop × Int × Unit → Option (List Drop × Int × Unit)) (f19 : List Drop × Int × Unit → Option (Int × Unit)) : Env := envL [(11, mkE p11 r11 false f11), (13, mkE p13 r13 false f13), (20, mkE p20 r20 false f20), (21, mkE p21 r21 false f21), (15, mkE p15 r15 false f15), (16, mkE p16 r16 false f16), (17, mkE p17 r17 false f17), (18, mkE p18 r18 false f18), (19, mkE p19 r19 false f19)]
noncomputable def L4 (f11 : (List Device × List Cue × List Gust × Int × Unit) × Int × Unit → Option (Int × Unit)) (f13 : (List Device × List Cue × List Gust × Int × Unit) × Unit → Option ((List Device × List Cue × List Gust × Int × Unit) × Unit)) (f20 : (List Device × List Cue × List Gust × Int × Unit) × Unit → Option (List Drop × Unit)) (f21 : (List Device × List Cue × List Gust × Int × Unit) × Unit → Option (List Drop × Unit)) (f15 : List Drop × List Drop × Unit → Option (Bool × Unit)) (f16 : (List Device × List Cue × List Gust × Int × Unit) × (List Device × List Cue × List Gust × Int × Unit) × Unit → Option (Bool × Unit)) (f17 : (List Device × List Cue × List Gust × Int × Unit) × Int × Unit → Option (List Device × List Cue × List Gust × Int × Unit)) (f18 : List Drop × Int × Unit → Option (List Drop × Int × Unit)) (f19 : List Drop × Int × Unit → Option (Int × Unit)) : LEnv (densS (muts p4 ++ r4)) := lenv []
theorem e4 (f11 : (List Device × List Cue × List Gust × Int × Unit) × Int × Unit → Option (Int × Unit)) (f13 : (List Device × List Cue × List Gust × Int × Unit) × Unit → Option ((List Device × List Cue × List Gust × Int × Unit) × Unit)) (f20 : (List Device × List Cue × List Gust × Int × Unit) × Unit → Option (List Drop × Unit)) (f21 : (List Device × List Cue × List Gust × Int × Unit) × Unit → Option (List Drop × Unit)) (f15 : List Drop × List Drop × Unit → Option (Bool × Unit)) (f16 : (List Device × List Cue × List Gust × Int × Unit) × (List Device × List Cue × List Gust × Int × Unit) × Unit → Option (Bool × Unit)) (f17 : (List Device × List Cue × List Gust × Int × Unit) × Int × Unit → Option (List Device × List Cue × List Gust × Int × Unit)) (f18 : List Drop × Int × Unit → Option (List Drop × Int × Unit)) (f19 : List Drop × Int × Unit → Option (Int × Unit)) (a : densS p4) : runF (E4 f11 f13 f20 f21 f15 f16 f17 f18 f19) tab2 (fun _ => false) p4 r4 Proofs.Tryz.f4 (L4 f11 f13 f20 f21 f15 f16 f17 f18 f19) a = F4 f11 f13 f20 f21 f15 f16 f17 f18 f19 a := by kernel_rfl
theorem ok4 {f11 : (List Device × List Cue × List Gust × Int × Unit) × Int × Unit → Option (Int × Unit)} {f13 : (List Device × List Cue × List Gust × Int × Unit) × Unit → Option ((List Device × List Cue × List Gust × Int × Unit) × Unit)} {f20 : (List Device × List Cue × List Gust × Int × Unit) × Unit → Option (List Drop × Unit)} {f21 : (List Device × List Cue × List Gust × Int × Unit) × Unit → Option (List Drop × Unit)} {f15 : List Drop × List Drop × Unit → Option (Bool × Unit)} {f16 : (List Device × List Cue × List Gust × Int × Unit) × (List Device × List Cue × List Gust × Int × Unit) × Unit → Option (Bool × Unit)} {f17 : (List Device × List Cue × List Gust × Int × Unit) × Int × Unit → Option (List Device × List Cue × List Gust × Int × Unit)} {f18 : List Drop × Int × Unit → Option (List Drop × Int × Unit)} {f19 : List Drop × Int × Unit → Option (Int × Unit)} (h11 : OK Proofs.Tryz.prog 11 (mkE p11 r11 false f11)) (h13 : OK Proofs.Tryz.prog 13 (mkE p13 r13 false f13)) (h20 : OK Proofs.Tryz.prog 20 (mkE p20 r20 false f20)) (h21 : OK Proofs.Tryz.prog 21 (mkE p21 r21 false f21)) (h15 : OK Proofs.Tryz.prog 15 (mkE p15 r15 false f15)) (h16 : OK Proofs.Tryz.prog 16 (mkE p16 r16 false f16)) (h17 : OK Proofs.Tryz.prog 17 (mkE p17 r17 false f17)) (h18 : OK Proofs.Tryz.prog 18 (mkE p18 r18 false f18)) (h19 : OK Proofs.Tryz.prog 19 (mkE p19 r19 false f19)) : OK Proofs.Tryz.prog 4 (mkE p4 r4 false (F4 f11 f13 f20 f21 f15 f16 f17 f18 f19)) :=
  fn_ok tab_ok2 (envL_ok (l := [(11, mkE p11 r11 false f11), (13, mkE p13 r13 false f13), (20, mkE p20 r20 false f20), (21, mkE p21 r21 false f21), (15, mkE p15 r15 false f15), (16, mkE p16 r16 false f16), (17, mkE p17 r17 false f17), (18, mkE p18 r18 false f18), (19, mkE p19 r19 false f19)]) (OKs.cons h11 (OKs.cons h13 (OKs.cons h20 (OKs.cons h21 (OKs.cons h15 (OKs.cons h16 (OKs.cons h17 (OKs.cons h18 (OKs.cons h19 OKs.nil)))))))))) mixed2 (ann := (fun _ => false)) (L := L4 f11 f13 f20 f21 f15 f16 f17 f18 f19) (fn := Proofs.Tryz.f4) (c := bodyC Proofs.Tryz.f4) (ls := []) Proofs.Tryz.func4 (by kernel_rfl) (by kernel_rfl) (by kernel_rfl) (by kernel_rfl)
    LoopsP.nil (e4 f11 f13 f20 f21 f15 f16 f17 f18 f19)
/-! laws.toBox -/
def p23 : List SP := [.t .box]
def r23 : List SP := [.t .box]
noncomputable def F23 (f65 : Place × Unit → Option (Place × Unit)) (a : Box × Unit) : Option (Box × Unit) :=
  (f65 (a.1.Low, ())).bind fun x1 => (f65 (a.1.High, ())).bind fun x2 => some ((⟨⟨x1.1.X, x1.1.Y⟩, ⟨x2.1.X, x2.1.Y⟩⟩ : Box), ())
def E23 (f65 : Place × Unit → Option (Place × Unit)) : Env := envL [(65, mkE p65 r65 false f65)]
noncomputable def L23 (f65 : Place × Unit → Option (Place × Unit)) : LEnv (densS (muts p23 ++ r23)) := lenv []
theorem e23 (f65 : Place × Unit → Option (Place × Unit)) (a : densS p23) : runF (E23 f65) tab2 (fun _ => false) p23 r23 Proofs.Tryz.f23 (L23 f65) a = F23 f65 a := by kernel_rfl
theorem ok23 {f65 : Place × Unit → Option (Place × Unit)} (h65 : OK Proofs.Tryz.prog 65 (mkE p65 r65 false f65)) : OK Proofs.Tryz.prog 23 (mkE p23 r23 false (F23 f65)) :=
  fn_ok tab_ok2 (envL_ok (l := [(65, mkE p65 r65 false f65)]) (OKs.cons h65 OKs.nil)) mixed2 (ann := (fun _ => false)) (L := L23 f65) (fn := Proofs.Tryz.f23) (c := bodyC Proofs.Tryz.f23) (ls := []) Proofs.Tryz.func23 (by kernel_rfl) (by kernel_rfl) (by kernel_rfl) (by kernel_rfl)
    LoopsP.nil (e23 f65)
/-! spec.IsBox -/
def p63 : List SP := [.t .box]
def r63 : List SP := [.one (.bool)]
noncomputable def F63 (f113 : Place × Unit → Option (Bool × Unit)) (a : Box × Unit) : Option (Bool × Unit) :=
  (f113 (a.1.Low, ())).bind fun x1 => cond x1.1 ((f113 (a.1.High, ())).bind fun x2 => cond x2.1 (cond (decide (a.1.Low.X ≤ a.1.High.X)) (some ((decide (a.1.Low.Y ≤ a.1.High.Y)), ())) (some (false, ()))) (some (false, ()))) (some (false, ()))
def E63 (f113 : Place × Unit → Option (Bool × Unit)) : Env := envL [(113, mkE p113 r113 false f113)]
noncomputable def L63 (f113 : Place × Unit → Option (Bool × Unit)) : LEnv (densS (muts p63 ++ r63)) := lenv []
theorem e63 (f113 : Place × Unit → Option (Bool × Unit)) (a : densS p63) : runF (E63 f113) tab2 (fun _ => false) p63 r63 Proofs.Tryz.f63 (L63 f113) a = F63 f113 a := by kernel_rfl
theorem ok63 {f113 : Place × Unit → Option (Bool × Unit)} (h113 : OK Proofs.Tryz.prog 113 (mkE p113 r113 false f113)) : OK Proofs.Tryz.prog 63 (mkE p63 r63 false (F63 f113)) :=
  fn_ok tab_ok2 (envL_ok (l := [(113, mkE p113 r113 false f113)]) (OKs.cons h113 OKs.nil)) mixed2 (ann := (fun _ => false)) (L := L63 f113) (fn := Proofs.Tryz.f63) (c := bodyC Proofs.Tryz.f63) (ls := []) Proofs.Tryz.func63 (by kernel_rfl) (by kernel_rfl) (by kernel_rfl) (by kernel_rfl)
    LoopsP.nil (e63 f113)
/-! spec.InBox -/
def p64 : List SP := [.t .box, .t .place]
def r64 : List SP := [.one (.bool)]
noncomputable def F64 (f63 : Box × Unit → Option (Bool × Unit)) (a : Box × Place × Unit) : Option (Bool × Unit) :=
  (f63 (a.1, ())).bind fun x1 => cond x1.1 (cond (decide (a.2.1.X ≥ a.1.Low.X)) (cond (decide (a.2.1.X ≤ a.1.High.X)) (cond (decide (a.2.1.Y ≥ a.1.Low.Y)) (some ((decide (a.2.1.Y ≤ a.1.High.Y)), ())) (some (false, ()))) (some (false, ()))) (some (false, ()))) (some (false, ()))
def E64 (f63 : Box × Unit → Option (Bool × Unit)) : Env := envL [(63, mkE p63 r63 false f63)]
noncomputable def L64 (f63 : Box × Unit → Option (Bool × Unit)) : LEnv (densS (muts p64 ++ r64)) := lenv []
theorem e64 (f63 : Box × Unit → Option (Bool × Unit)) (a : densS p64) : runF (E64 f63) tab2 (fun _ => false) p64 r64 Proofs.Tryz.f64 (L64 f63) a = F64 f63 a := by kernel_rfl
theorem ok64 {f63 : Box × Unit → Option (Bool × Unit)} (h63 : OK Proofs.Tryz.prog 63 (mkE p63 r63 false f63)) : OK Proofs.Tryz.prog 64 (mkE p64 r64 false (F64 f63)) :=
  fn_ok tab_ok2 (envL_ok (l := [(63, mkE p63 r63 false f63)]) (OKs.cons h63 OKs.nil)) mixed2 (ann := (fun _ => false)) (L := L64 f63) (fn := Proofs.Tryz.f64) (c := bodyC Proofs.Tryz.f64) (ls := []) Proofs.Tryz.func64 (by kernel_rfl) (by kernel_rfl) (by kernel_rfl) (by kernel_rfl)
    LoopsP.nil (e64 f63)
/-! spec.IsDry -/
def p22 : List SP := [.agg [.r .device, .r .cue, .r .gust, .int .i64], .t .box]
def r22 : List SP := [.one (.bool)]
def q22_0 : List SP := pat 28 0 [(3, .boxt 5000001 .box), (16, .one (.o 5000002 .drop)), (17, .one (.int .i64)), (18, .one (.int .i64))]
noncomputable def s22_0 (f47 : (List Device × List Cue × List Gust × Int × Unit) × Unit → Option (Bool × Unit)) (f63 : Box × Unit → Option (Bool × Unit)) (f20 : (List Device × List Cue × List Gust × Int × Unit) × Unit → Option (List Drop × Unit)) (f64 : Box × Place × Unit → Option (Bool × Unit)) (t4 : Box × List Drop × Int × Int × Unit) (rec K : Box × List Drop × Int × Int × Unit → Option (Bool × Unit)) : Option (Bool × Unit) :=
  cond (decide (t4.2.2.2.1 < t4.2.2.1)) (rdL t4.2.1 t4.2.2.2.1 fun _ => (t4.2.1[(Int.toNat t4.2.2.2.1)]?).bind fun d5 => (f64 (t4.1, d5.At, ())).bind fun x6 => cond (!x6.1) (some (false, ())) (rec (t4.1, t4.2.1, t4.2.2.1, (w64 (t4.2.2.2.1 + 1)), ()))) (K (t4.1, t4.2.1, t4.2.2.1, t4.2.2.2.1, ()))
noncomputable def F22 (f47 : (List Device × List Cue × List Gust × Int × Unit) × Unit → Option (Bool × Unit)) (f63 : Box × Unit → Option (Bool × Unit)) (f20 : (List Device × List Cue × List Gust × Int × Unit) × Unit → Option (List Drop × Unit)) (f64 : Box × Place × Unit → Option (Bool × Unit)) (a : (List Device × List Cue × List Gust × Int × Unit) × Box × Unit) : Option (Bool × Unit) :=
  (f47 ((a.1.1, a.1.2.1, a.1.2.2.1, a.1.2.2.2.1, ()), ())).bind fun x1 => cond (!(!x1.1)) ((f63 (a.2.1, ())).bind fun x2 => cond (!x2.1) (some (false, ())) ((f20 ((a.1.1, a.1.2.1, a.1.2.2.1, a.1.2.2.2.1, ()), ())).bind fun x3 => iterF (s22_0 f47 f63 f20 f64) fuel (a.2.1, x3.1, (Int.ofNat (List.length x3.1)), 0, ()) fun t7 => some (true, ()))) (some (false, ()))
def E22 (f47 : (List Device × List Cue × List Gust × Int × Unit) × Unit → Option (Bool × Unit)) (f63 : Box × Unit → Option (Bool × Unit)) (f20 : (List Device × List Cue × List Gust × Int × Unit) × Unit → Option (List Drop × Unit)) (f64 : Box × Place × Unit → Option (Bool × Unit)) : Env := envL [(47, mkE p47 r47 false f47), (63, mkE p63 r63 false f63), (20, mkE p20 r20 false f20), (64, mkE p64 r64 false f64)]
noncomputable def L22 (f47 : (List Device × List Cue × List Gust × Int × Unit) × Unit → Option (Bool × Unit)) (f63 : Box × Unit → Option (Bool × Unit)) (f20 : (List Device × List Cue × List Gust × Int × Unit) × Unit → Option (List Drop × Unit)) (f64 : Box × Place × Unit → Option (Bool × Unit)) : LEnv (densS (muts p22 ++ r22)) := lenv [(0, loopL (R := densS (muts p22 ++ r22)) q22_0 (s22_0 f47 f63 f20 f64))]
theorem e22_0 (f47 : (List Device × List Cue × List Gust × Int × Unit) × Unit → Option (Bool × Unit)) (f63 : Box × Unit → Option (Bool × Unit)) (f20 : (List Device × List Cue × List Gust × Int × Unit) × Unit → Option (List Drop × Unit)) (f64 : Box × Place × Unit → Option (Bool × Unit)) (X : Nat → St → Option (densS (muts p22 ++ r22))) (rec K : densS q22_0 → Option (densS (muts p22 ++ r22))) (t : densS q22_0) :
    ev (E22 f47 f63 f20 f64) tab2 (fun _ => false) (L22 f47 f63 f20 f64) (retK tab2 p22 r22 Proofs.Tryz.f22.results.toList) (loopC Proofs.Tryz.f22 0) (fun i s => cond (Nat.beq i 0) (decK 100 q22_0 s K) (X i s)) (fun s => decK 100 q22_0 s rec) (enc q22_0 t) = s22_0 f47 f63 f20 f64 t rec K := by kernel_rfl
theorem e22 (f47 : (List Device × List Cue × List Gust × Int × Unit) × Unit → Option (Bool × Unit)) (f63 : Box × Unit → Option (Bool × Unit)) (f20 : (List Device × List Cue × List Gust × Int × Unit) × Unit → Option (List Drop × Unit)) (f64 : Box × Place × Unit → Option (Bool × Unit)) (a : densS p22) : runF (E22 f47 f63 f20 f64) tab2 (fun _ => false) p22 r22 Proofs.Tryz.f22 (L22 f47 f63 f20 f64) a = F22 f47 f63 f20 f64 a := by kernel_rfl
theorem ok22 {f47 : (List Device × List Cue × List Gust × Int × Unit) × Unit → Option (Bool × Unit)} {f63 : Box × Unit → Option (Bool × Unit)} {f20 : (List Device × List Cue × List Gust × Int × Unit) × Unit → Option (List Drop × Unit)} {f64 : Box × Place × Unit → Option (Bool × Unit)} (h47 : OK Proofs.Tryz.prog 47 (mkE p47 r47 false f47)) (h63 : OK Proofs.Tryz.prog 63 (mkE p63 r63 false f63)) (h20 : OK Proofs.Tryz.prog 20 (mkE p20 r20 false f20)) (h64 : OK Proofs.Tryz.prog 64 (mkE p64 r64 false f64)) : OK Proofs.Tryz.prog 22 (mkE p22 r22 false (F22 f47 f63 f20 f64)) :=
  fn_ok tab_ok2 (envL_ok (l := [(47, mkE p47 r47 false f47), (63, mkE p63 r63 false f63), (20, mkE p20 r20 false f20), (64, mkE p64 r64 false f64)]) (OKs.cons h47 (OKs.cons h63 (OKs.cons h20 (OKs.cons h64 OKs.nil))))) mixed2 (ann := (fun _ => false)) (L := L22 f47 f63 f20 f64) (fn := Proofs.Tryz.f22) (c := bodyC Proofs.Tryz.f22) (ls := [(0, loopC Proofs.Tryz.f22 0)]) Proofs.Tryz.func22 (by kernel_rfl) (by kernel_rfl) (by kernel_rfl) (by kernel_rfl)
    (LoopsP.cons q22_0 (s22_0 f47 f63 f20 f64) rfl (e22_0 f47 f63 f20 f64) LoopsP.nil) (e22 f47 f63 f20 f64)
/-! impl.IsBox -/
def p67 : List SP := [.t .box]
def r67 : List SP := [.one (.bool)]
noncomputable def F67 (f118 : Place × Unit → Option (Bool × Unit)) (a : Box × Unit) : Option (Bool × Unit) :=
  (f118 (a.1.Low, ())).bind fun x1 => cond x1.1 ((f118 (a.1.High, ())).bind fun x2 => cond x2.1 (cond (decide (a.1.Low.X ≤ a.1.High.X)) (some ((decide (a.1.Low.Y ≤ a.1.High.Y)), ())) (some (false, ()))) (some (false, ()))) (some (false, ()))
def E67 (f118 : Place × Unit → Option (Bool × Unit)) : Env := envL [(118, mkE p118 r118 false f118)]
noncomputable def L67 (f118 : Place × Unit → Option (Bool × Unit)) : LEnv (densS (muts p67 ++ r67)) := lenv []
theorem e67 (f118 : Place × Unit → Option (Bool × Unit)) (a : densS p67) : runF (E67 f118) tab2 (fun _ => false) p67 r67 Proofs.Tryz.f67 (L67 f118) a = F67 f118 a := by kernel_rfl
theorem ok67 {f118 : Place × Unit → Option (Bool × Unit)} (h118 : OK Proofs.Tryz.prog 118 (mkE p118 r118 false f118)) : OK Proofs.Tryz.prog 67 (mkE p67 r67 false (F67 f118)) :=
  fn_ok tab_ok2 (envL_ok (l := [(118, mkE p118 r118 false f118)]) (OKs.cons h118 OKs.nil)) mixed2 (ann := (fun _ => false)) (L := L67 f118) (fn := Proofs.Tryz.f67) (c := bodyC Proofs.Tryz.f67) (ls := []) Proofs.Tryz.func67 (by kernel_rfl) (by kernel_rfl) (by kernel_rfl) (by kernel_rfl)
    LoopsP.nil (e67 f118)
/-! impl.InBox -/
def p68 : List SP := [.t .box, .t .place]
def r68 : List SP := [.one (.bool)]
noncomputable def F68 (f67 : Box × Unit → Option (Bool × Unit)) (f117 : Int × Int × Int × Unit → Option (Bool × Unit)) (a : Box × Place × Unit) : Option (Bool × Unit) :=
  (f67 (a.1, ())).bind fun x1 => cond x1.1 ((f117 (a.2.1.X, a.1.Low.X, a.1.High.X, ())).bind fun x2 => cond x2.1 ((f117 (a.2.1.Y, a.1.Low.Y, a.1.High.Y, ())).bind fun x3 => some (x3.1, ())) (some (false, ()))) (some (false, ()))
def E68 (f67 : Box × Unit → Option (Bool × Unit)) (f117 : Int × Int × Int × Unit → Option (Bool × Unit)) : Env := envL [(67, mkE p67 r67 false f67), (117, mkE p117 r117 false f117)]
noncomputable def L68 (f67 : Box × Unit → Option (Bool × Unit)) (f117 : Int × Int × Int × Unit → Option (Bool × Unit)) : LEnv (densS (muts p68 ++ r68)) := lenv []
theorem e68 (f67 : Box × Unit → Option (Bool × Unit)) (f117 : Int × Int × Int × Unit → Option (Bool × Unit)) (a : densS p68) : runF (E68 f67 f117) tab2 (fun _ => false) p68 r68 Proofs.Tryz.f68 (L68 f67 f117) a = F68 f67 f117 a := by kernel_rfl
theorem ok68 {f67 : Box × Unit → Option (Bool × Unit)} {f117 : Int × Int × Int × Unit → Option (Bool × Unit)} (h67 : OK Proofs.Tryz.prog 67 (mkE p67 r67 false f67)) (h117 : OK Proofs.Tryz.prog 117 (mkE p117 r117 false f117)) : OK Proofs.Tryz.prog 68 (mkE p68 r68 false (F68 f67 f117)) :=
  fn_ok tab_ok2 (envL_ok (l := [(67, mkE p67 r67 false f67), (117, mkE p117 r117 false f117)]) (OKs.cons h67 (OKs.cons h117 OKs.nil))) mixed2 (ann := (fun _ => false)) (L := L68 f67 f117) (fn := Proofs.Tryz.f68) (c := bodyC Proofs.Tryz.f68) (ls := []) Proofs.Tryz.func68 (by kernel_rfl) (by kernel_rfl) (by kernel_rfl) (by kernel_rfl)
    LoopsP.nil (e68 f67 f117)
/-! impl.WetDrops -/
def p26 : List SP := [.agg [.r .device, .r .cue, .r .gust, .int .i64], .t .box]
def r26 : List SP := [.one (.o 0 .drop)]
def q26_0 : List SP := pat 31 0 [(3, .boxt 5000001 .box), (5, .one (.o 5000002 .drop)), (14, .one (.o 5000003 .drop)), (15, .one (.int .i64)), (16, .one (.int .i64))]
noncomputable def s26_0 (f67 : Box × Unit → Option (Bool × Unit)) (f21 : (List Device × List Cue × List Gust × Int × Unit) × Unit → Option (List Drop × Unit)) (f68 : Box × Place × Unit → Option (Bool × Unit)) (t3 : Box × List Drop × List Drop × Int × Int × Unit) (rec K : Box × List Drop × List Drop × Int × Int × Unit → Option (List Drop × Unit)) : Option (List Drop × Unit) :=
  cond (decide (t3.2.2.2.2.1 < t3.2.2.2.1)) (rdL t3.2.2.1 t3.2.2.2.2.1 fun _ => (t3.2.2.1[(Int.toNat t3.2.2.2.2.1)]?).bind fun d4 => (f68 (t3.1, d4.At, ())).bind fun x5 => cond (!x5.1) (capK (List.length t3.2.1 + List.length ([d4] : List Drop)) (rec (t3.1, (t3.2.1 ++ ([d4] : List Drop)), t3.2.2.1, t3.2.2.2.1, (w64 (t3.2.2.2.2.1 + 1)), ()))) (rec (t3.1, t3.2.1, t3.2.2.1, t3.2.2.2.1, (w64 (t3.2.2.2.2.1 + 1)), ()))) (K (t3.1, t3.2.1, t3.2.2.1, t3.2.2.2.1, t3.2.2.2.2.1, ()))
noncomputable def F26 (f67 : Box × Unit → Option (Bool × Unit)) (f21 : (List Device × List Cue × List Gust × Int × Unit) × Unit → Option (List Drop × Unit)) (f68 : Box × Place × Unit → Option (Bool × Unit)) (a : (List Device × List Cue × List Gust × Int × Unit) × Box × Unit) : Option (List Drop × Unit) :=
  (f67 (a.2.1, ())).bind fun x1 => cond (!x1.1) (some (([] : List Drop), ())) ((f21 ((a.1.1, a.1.2.1, a.1.2.2.1, a.1.2.2.2.1, ()), ())).bind fun x2 => iterF (s26_0 f67 f21 f68) fuel (a.2.1, ([] : List Drop), x2.1, (Int.ofNat (List.length x2.1)), 0, ()) fun t6 => some (t6.2.1, ()))
def E26 (f67 : Box × Unit → Option (Bool × Unit)) (f21 : (List Device × List Cue × List Gust × Int × Unit) × Unit → Option (List Drop × Unit)) (f68 : Box × Place × Unit → Option (Bool × Unit)) : Env := envL [(67, mkE p67 r67 false f67), (21, mkE p21 r21 false f21), (68, mkE p68 r68 false f68)]
noncomputable def L26 (f67 : Box × Unit → Option (Bool × Unit)) (f21 : (List Device × List Cue × List Gust × Int × Unit) × Unit → Option (List Drop × Unit)) (f68 : Box × Place × Unit → Option (Bool × Unit)) : LEnv (densS (muts p26 ++ r26)) := lenv [(0, loopL (R := densS (muts p26 ++ r26)) q26_0 (s26_0 f67 f21 f68))]
theorem e26_0 (f67 : Box × Unit → Option (Bool × Unit)) (f21 : (List Device × List Cue × List Gust × Int × Unit) × Unit → Option (List Drop × Unit)) (f68 : Box × Place × Unit → Option (Bool × Unit)) (X : Nat → St → Option (densS (muts p26 ++ r26))) (rec K : densS q26_0 → Option (densS (muts p26 ++ r26))) (t : densS q26_0) :
    ev (E26 f67 f21 f68) tab2 (fun _ => false) (L26 f67 f21 f68) (retK tab2 p26 r26 Proofs.Tryz.f26.results.toList) (loopC Proofs.Tryz.f26 0) (fun i s => cond (Nat.beq i 0) (decK 100 q26_0 s K) (X i s)) (fun s => decK 100 q26_0 s rec) (enc q26_0 t) = s26_0 f67 f21 f68 t rec K := by kernel_rfl
theorem e26 (f67 : Box × Unit → Option (Bool × Unit)) (f21 : (List Device × List Cue × List Gust × Int × Unit) × Unit → Option (List Drop × Unit)) (f68 : Box × Place × Unit → Option (Bool × Unit)) (a : densS p26) : runF (E26 f67 f21 f68) tab2 (fun _ => false) p26 r26 Proofs.Tryz.f26 (L26 f67 f21 f68) a = F26 f67 f21 f68 a := by kernel_rfl
theorem ok26 {f67 : Box × Unit → Option (Bool × Unit)} {f21 : (List Device × List Cue × List Gust × Int × Unit) × Unit → Option (List Drop × Unit)} {f68 : Box × Place × Unit → Option (Bool × Unit)} (h67 : OK Proofs.Tryz.prog 67 (mkE p67 r67 false f67)) (h21 : OK Proofs.Tryz.prog 21 (mkE p21 r21 false f21)) (h68 : OK Proofs.Tryz.prog 68 (mkE p68 r68 false f68)) : OK Proofs.Tryz.prog 26 (mkE p26 r26 false (F26 f67 f21 f68)) :=
  fn_ok tab_ok2 (envL_ok (l := [(67, mkE p67 r67 false f67), (21, mkE p21 r21 false f21), (68, mkE p68 r68 false f68)]) (OKs.cons h67 (OKs.cons h21 (OKs.cons h68 OKs.nil)))) mixed2 (ann := (fun _ => false)) (L := L26 f67 f21 f68) (fn := Proofs.Tryz.f26) (c := bodyC Proofs.Tryz.f26) (ls := [(0, loopC Proofs.Tryz.f26 0)]) Proofs.Tryz.func26 (by kernel_rfl) (by kernel_rfl) (by kernel_rfl) (by kernel_rfl)
    (LoopsP.cons q26_0 (s26_0 f67 f21 f68) rfl (e26_0 f67 f21 f68) LoopsP.nil) (e26 f67 f21 f68)
/-! impl.IsDry -/
def p24 : List SP := [.agg [.r .device, .r .cue, .r .gust, .int .i64], .t .box]
def r24 : List SP := [.one (.bool)]
noncomputable def F24 (f66 : (List Device × List Cue × List Gust × Int × Unit) × Unit → Option (Bool × Unit)) (f67 : Box × Unit → Option (Bool × Unit)) (f26 : (List Device × List Cue × List Gust × Int × Unit) × Box × Unit → Option (List Drop × Unit)) (a : (List Device × List Cue × List Gust × Int × Unit) × Box × Unit) : Option (Bool × Unit) :=
  (f66 ((a.1.1, a.1.2.1, a.1.2.2.1, a.1.2.2.2.1, ()), ())).bind fun x1 => cond x1.1 ((f67 (a.2.1, ())).bind fun x2 => cond x2.1 ((f26 ((a.1.1, a.1.2.1, a.1.2.2.1, a.1.2.2.2.1, ()), a.2.1, ())).bind fun x3 => some ((decide ((Int.ofNat (List.length x3.1)) = 0)), ())) (some (false, ()))) (some (false, ()))
def E24 (f66 : (List Device × List Cue × List Gust × Int × Unit) × Unit → Option (Bool × Unit)) (f67 : Box × Unit → Option (Bool × Unit)) (f26 : (List Device × List Cue × List Gust × Int × Unit) × Box × Unit → Option (List Drop × Unit)) : Env := envL [(66, mkE p66 r66 false f66), (67, mkE p67 r67 false f67), (26, mkE p26 r26 false f26)]
noncomputable def L24 (f66 : (List Device × List Cue × List Gust × Int × Unit) × Unit → Option (Bool × Unit)) (f67 : Box × Unit → Option (Bool × Unit)) (f26 : (List Device × List Cue × List Gust × Int × Unit) × Box × Unit → Option (List Drop × Unit)) : LEnv (densS (muts p24 ++ r24)) := lenv []
theorem e24 (f66 : (List Device × List Cue × List Gust × Int × Unit) × Unit → Option (Bool × Unit)) (f67 : Box × Unit → Option (Bool × Unit)) (f26 : (List Device × List Cue × List Gust × Int × Unit) × Box × Unit → Option (List Drop × Unit)) (a : densS p24) : runF (E24 f66 f67 f26) tab2 (fun _ => false) p24 r24 Proofs.Tryz.f24 (L24 f66 f67 f26) a = F24 f66 f67 f26 a := by kernel_rfl
theorem ok24 {f66 : (List Device × List Cue × List Gust × Int × Unit) × Unit → Option (Bool × Unit)} {f67 : Box × Unit → Option (Bool × Unit)} {f26 : (List Device × List Cue × List Gust × Int × Unit) × Box × Unit → Option (List Drop × Unit)} (h66 : OK Proofs.Tryz.prog 66 (mkE p66 r66 false f66)) (h67 : OK Proofs.Tryz.prog 67 (mkE p67 r67 false f67)) (h26 : OK Proofs.Tryz.prog 26 (mkE p26 r26 false f26)) : OK Proofs.Tryz.prog 24 (mkE p24 r24 false (F24 f66 f67 f26)) :=
  fn_ok tab_ok2 (envL_ok (l := [(66, mkE p66 r66 false f66), (67, mkE p67 r67 false f67), (26, mkE p26 r26 false f26)]) (OKs.cons h66 (OKs.cons h67 (OKs.cons h26 OKs.nil)))) mixed2 (ann := (fun _ => false)) (L := L24 f66 f67 f26) (fn := Proofs.Tryz.f24) (c := bodyC Proofs.Tryz.f24) (ls := []) Proofs.Tryz.func24 (by kernel_rfl) (by kernel_rfl) (by kernel_rfl) (by kernel_rfl)
    LoopsP.nil (e24 f66 f67 f26)
/-! laws.FnExactIsDry -/
def p5 : List SP := [.agg [.r .device, .r .cue, .r .gust, .int .i64], .t .box]
def r5 : List SP := [.one (.bool)]
noncomputable def F5 (f11 : (List Device × List Cue × List Gust × Int × Unit) × Int × Unit → Option (Int × Unit)) (f13 : (List Device × List Cue × List Gust × Int × Unit) × Unit → Option ((List Device × List Cue × List Gust × Int × Unit) × Unit)) (f23 : Box × Unit → Option (Box × Unit)) (f22 : (List Device × List Cue × List Gust × Int × Unit) × Box × Unit → Option (Bool × Unit)) (f24 : (List Device × List Cue × List Gust × Int × Unit) × Box × Unit → Option (Bool × Unit)) (f16 : (List Device × List Cue × List Gust × Int × Unit) × (List Device × List Cue × List Gust × Int × Unit) × Unit → Option (Bool × Unit)) (a : (List Device × List Cue × List Gust × Int × Unit) × Box × Unit) : Option (Bool × Unit) :=
  (f11 ((a.1.1, a.1.2.1, a.1.2.2.1, a.1.2.2.2.1, ()), 1048576, ())).bind fun x1 => cond (decide (x1.1 < 0)) (some (true, ())) ((f13 ((a.1.1, a.1.2.1, a.1.2.2.1, a.1.2.2.2.1, ()), ())).bind fun x2 => (f23 (a.2.1, ())).bind fun x3 => (f22 ((x2.1.1, x2.1.2.1, x2.1.2.2.1, x2.1.2.2.2.1, ()), x3.1, ())).bind fun x4 => (f13 ((a.1.1, a.1.2.1, a.1.2.2.1, a.1.2.2.2.1, ()), ())).bind fun x5 => (f23 (a.2.1, ())).bind fun x6 => (f24 ((x5.1.1, x5.1.2.1, x5.1.2.2.1, x5.1.2.2.2.1, ()), x6.1, ())).bind fun x7 => cond (!(decide (x7.1 = x4.1))) (some (false, ())) ((f13 ((a.1.1, a.1.2.1, a.1.2.2.1, a.1.2.2.2.1, ()), ())).bind fun x8 => (f16 ((x5.1.1, x5.1.2.1, x5.1.2.2.1, x5.1.2.2.2.1, ()), (x8.1.1, x8.1.2.1, x8.1.2.2.1, x8.1.2.2.2.1, ()), ())).bind fun x9 => cond (!x9.1) (some (false, ())) (some (true, ()))))
def E5 (f11 : (List Device × List Cue × List Gust × Int × Unit) × Int × Unit → Option (Int × Unit)) (f13 : (List Device × List Cue × List Gust × Int × Unit) × Unit → Option ((List Device × List Cue × List Gust × Int × Unit) × Unit)) (f23 : Box × Unit → Option (Box × Unit)) (f22 : (List Device × List Cue × List Gust × Int × Unit) × Box × Unit → Option (Bool × Unit)) (f24 : (List Device × List Cue × List Gust × Int × Unit) × Box × Unit → Option (Bool × Unit)) (f16 : (List Device × List Cue × List Gust × Int × Unit) × (List Device × List Cue × List Gust × Int × Unit) × Unit → Option (Bool × Unit)) : Env := envL [(11, mkE p11 r11 false f11), (13, mkE p13 r13 false f13), (23, mkE p23 r23 false f23), (22, mkE p22 r22 false f22), (24, mkE p24 r24 false f24), (16, mkE p16 r16 false f16)]
noncomputable def L5 (f11 : (List Device × List Cue × List Gust × Int × Unit) × Int × Unit → Option (Int × Unit)) (f13 : (List Device × List Cue × List Gust × Int × Unit) × Unit → Option ((List Device × List Cue × List Gust × Int × Unit) × Unit)) (f23 : Box × Unit → Option (Box × Unit)) (f22 : (List Device × List Cue × List Gust × Int × Unit) × Box × Unit → Option (Bool × Unit)) (f24 : (List Device × List Cue × List Gust × Int × Unit) × Box × Unit → Option (Bool × Unit)) (f16 : (List Device × List Cue × List Gust × Int × Unit) × (List Device × List Cue × List Gust × Int × Unit) × Unit → Option (Bool × Unit)) : LEnv (densS (muts p5 ++ r5)) := lenv []
theorem e5 (f11 : (List Device × List Cue × List Gust × Int × Unit) × Int × Unit → Option (Int × Unit)) (f13 : (List Device × List Cue × List Gust × Int × Unit) × Unit → Option ((List Device × List Cue × List Gust × Int × Unit) × Unit)) (f23 : Box × Unit → Option (Box × Unit)) (f22 : (List Device × List Cue × List Gust × Int × Unit) × Box × Unit → Option (Bool × Unit)) (f24 : (List Device × List Cue × List Gust × Int × Unit) × Box × Unit → Option (Bool × Unit)) (f16 : (List Device × List Cue × List Gust × Int × Unit) × (List Device × List Cue × List Gust × Int × Unit) × Unit → Option (Bool × Unit)) (a : densS p5) : runF (E5 f11 f13 f23 f22 f24 f16) tab2 (fun _ => false) p5 r5 Proofs.Tryz.f5 (L5 f11 f13 f23 f22 f24 f16) a = F5 f11 f13 f23 f22 f24 f16 a := by kernel_rfl
theorem ok5 {f11 : (List Device × List Cue × List Gust × Int × Unit) × Int × Unit → Option (Int × Unit)} {f13 : (List Device × List Cue × List Gust × Int × Unit) × Unit → Option ((List Device × List Cue × List Gust × Int × Unit) × Unit)} {f23 : Box × Unit → Option (Box × Unit)} {f22 : (List Device × List Cue × List Gust × Int × Unit) × Box × Unit → Option (Bool × Unit)} {f24 : (List Device × List Cue × List Gust × Int × Unit) × Box × Unit → Option (Bool × Unit)} {f16 : (List Device × List Cue × List Gust × Int × Unit) × (List Device × List Cue × List Gust × Int × Unit) × Unit → Option (Bool × Unit)} (h11 : OK Proofs.Tryz.prog 11 (mkE p11 r11 false f11)) (h13 : OK Proofs.Tryz.prog 13 (mkE p13 r13 false f13)) (h23 : OK Proofs.Tryz.prog 23 (mkE p23 r23 false f23)) (h22 : OK Proofs.Tryz.prog 22 (mkE p22 r22 false f22)) (h24 : OK Proofs.Tryz.prog 24 (mkE p24 r24 false f24)) (h16 : OK Proofs.Tryz.prog 16 (mkE p16 r16 false f16)) : OK Proofs.Tryz.prog 5 (mkE p5 r5 false (F5 f11 f13 f23 f22 f24 f16)) :=
  fn_ok tab_ok2 (envL_ok (l := [(11, mkE p11 r11 false f11), (13, mkE p13 r13 false f13), (23, mkE p23 r23 false f23), (22, mkE p22 r22 false f22), (24, mkE p24 r24 false f24), (16, mkE p16 r16 false f16)]) (OKs.cons h11 (OKs.cons h13 (OKs.cons h23 (OKs.cons h22 (OKs.cons h24 (OKs.cons h16 OKs.nil))))))) mixed2 (ann := (fun _ => false)) (L := L5 f11 f13 f23 f22 f24 f16) (fn := Proofs.Tryz.f5) (c := bodyC Proofs.Tryz.f5) (ls := []) Proofs.Tryz.func5 (by kernel_rfl) (by kernel_rfl) (by kernel_rfl) (by kernel_rfl)
    LoopsP.nil (e5 f11 f13 f23 f22 f24 f16)
/-! spec.WetDrops -/
def p25 : List SP := [.agg [.r .device, .r .cue, .r .gust, .int .i64], .t .box]
def r25 : List SP := [.one (.o 0 .drop)]
def q25_0 : List SP := pat 31 0 [(3, .boxt 5000001 .box), (5, .one (.o 5000002 .drop)), (10, .one (.o 5000003 .drop)), (11, .one (.int .i64)), (12, .one (.int .i64))]
noncomputable def s25_0 (f20 : (List Device × List Cue × List Gust × Int × Unit) × Unit → Option (List Drop × Unit)) (f63 : Box × Unit → Option (Bool × Unit)) (f64 : Box × Place × Unit → Option (Bool × Unit)) (t2 : Box × List Drop × List Drop × Int × Int × Unit) (rec K : Box × List Drop × List Drop × Int × Int × Unit → Option (List Drop × Unit)) : Option (List Drop × Unit) :=
  cond (decide (t2.2.2.2.2.1 < t2.2.2.2.1)) (rdL t2.2.2.1 t2.2.2.2.2.1 fun _ => (t2.2.2.1[(Int.toNat t2.2.2.2.2.1)]?).bind fun d3 => (f63 (t2.1, ())).bind fun x4 => cond x4.1 ((f64 (t2.1, d3.At, ())).bind fun x5 => cond (!x5.1) (capK (List.length t2.2.1 + List.length ([d3] : List Drop)) (rec (t2.1, (t2.2.1 ++ ([d3] : List Drop)), t2.2.2.1, t2.2.2.2.1, (w64 (t2.2.2.2.2.1 + 1)), ()))) (rec (t2.1, t2.2.1, t2.2.2.1, t2.2.2.2.1, (w64 (t2.2.2.2.2.1 + 1)), ()))) (rec (t2.1, t2.2.1, t2.2.2.1, t2.2.2.2.1, (w64 (t2.2.2.2.2.1 + 1)), ()))) (K (t2.1, t2.2.1, t2.2.2.1, t2.2.2.2.1, t2.2.2.2.2.1, ()))
noncomputable def F25 (f20 : (List Device × List Cue × List Gust × Int × Unit) × Unit → Option (List Drop × Unit)) (f63 : Box × Unit → Option (Bool × Unit)) (f64 : Box × Place × Unit → Option (Bool × Unit)) (a : (List Device × List Cue × List Gust × Int × Unit) × Box × Unit) : Option (List Drop × Unit) :=
  (f20 ((a.1.1, a.1.2.1, a.1.2.2.1, a.1.2.2.2.1, ()), ())).bind fun x1 => iterF (s25_0 f20 f63 f64) fuel (a.2.1, ([] : List Drop), x1.1, (Int.ofNat (List.length x1.1)), 0, ()) fun t6 => some (t6.2.1, ())
def E25 (f20 : (List Device × List Cue × List Gust × Int × Unit) × Unit → Option (List Drop × Unit)) (f63 : Box × Unit → Option (Bool × Unit)) (f64 : Box × Place × Unit → Option (Bool × Unit)) : Env := envL [(20, mkE p20 r20 false f20), (63, mkE p63 r63 false f63), (64, mkE p64 r64 false f64)]
noncomputable def L25 (f20 : (List Device × List Cue × List Gust × Int × Unit) × Unit → Option (List Drop × Unit)) (f63 : Box × Unit → Option (Bool × Unit)) (f64 : Box × Place × Unit → Option (Bool × Unit)) : LEnv (densS (muts p25 ++ r25)) := lenv [(0, loopL (R := densS (muts p25 ++ r25)) q25_0 (s25_0 f20 f63 f64))]
theorem e25_0 (f20 : (List Device × List Cue × List Gust × Int × Unit) × Unit → Option (List Drop × Unit)) (f63 : Box × Unit → Option (Bool × Unit)) (f64 : Box × Place × Unit → Option (Bool × Unit)) (X : Nat → St → Option (densS (muts p25 ++ r25))) (rec K : densS q25_0 → Option (densS (muts p25 ++ r25))) (t : densS q25_0) :
    ev (E25 f20 f63 f64) tab2 (fun _ => false) (L25 f20 f63 f64) (retK tab2 p25 r25 Proofs.Tryz.f25.results.toList) (loopC Proofs.Tryz.f25 0) (fun i s => cond (Nat.beq i 0) (decK 100 q25_0 s K) (X i s)) (fun s => decK 100 q25_0 s rec) (enc q25_0 t) = s25_0 f20 f63 f64 t rec K := by kernel_rfl
theorem e25 (f20 : (List Device × List Cue × List Gust × Int × Unit) × Unit → Option (List Drop × Unit)) (f63 : Box × Unit → Option (Bool × Unit)) (f64 : Box × Place × Unit → Option (Bool × Unit)) (a : densS p25) : runF (E25 f20 f63 f64) tab2 (fun _ => false) p25 r25 Proofs.Tryz.f25 (L25 f20 f63 f64) a = F25 f20 f63 f64 a := by kernel_rfl
theorem ok25 {f20 : (List Device × List Cue × List Gust × Int × Unit) × Unit → Option (List Drop × Unit)} {f63 : Box × Unit → Option (Bool × Unit)} {f64 : Box × Place × Unit → Option (Bool × Unit)} (h20 : OK Proofs.Tryz.prog 20 (mkE p20 r20 false f20)) (h63 : OK Proofs.Tryz.prog 63 (mkE p63 r63 false f63)) (h64 : OK Proofs.Tryz.prog 64 (mkE p64 r64 false f64)) : OK Proofs.Tryz.prog 25 (mkE p25 r25 false (F25 f20 f63 f64)) :=
  fn_ok tab_ok2 (envL_ok (l := [(20, mkE p20 r20 false f20), (63, mkE p63 r63 false f63), (64, mkE p64 r64 false f64)]) (OKs.cons h20 (OKs.cons h63 (OKs.cons h64 OKs.nil)))) mixed2 (ann := (fun _ => false)) (L := L25 f20 f63 f64) (fn := Proofs.Tryz.f25) (c := bodyC Proofs.Tryz.f25) (ls := [(0, loopC Proofs.Tryz.f25 0)]) Proofs.Tryz.func25 (by kernel_rfl) (by kernel_rfl) (by kernel_rfl) (by kernel_rfl)
    (LoopsP.cons q25_0 (s25_0 f20 f63 f64) rfl (e25_0 f20 f63 f64) LoopsP.nil) (e25 f20 f63 f64)
/-! laws.FnExactWetDrops -/
def p6 : List SP := [.agg [.r .device, .r .cue, .r .gust, .int .i64], .t .box]
def r6 : List SP := [.one (.bool)]
noncomputable def F6 (f11 : (List Device × List Cue × List Gust × Int × Unit) × Int × Unit → Option (Int × Unit)) (f13 : (List Device × List Cue × List Gust × Int × Unit) × Unit → Option ((List Device × List Cue × List Gust × Int × Unit) × Unit)) (f23 : Box × Unit → Option (Box × Unit)) (f25 : (List Device × List Cue × List Gust × Int × Unit) × Box × Unit → Option (List Drop × Unit)) (f26 : (List Device × List Cue × List Gust × Int × Unit) × Box × Unit → Option (List Drop × Unit)) (f15 : List Drop × List Drop × Unit → Option (Bool × Unit)) (f16 : (List Device × List Cue × List Gust × Int × Unit) × (List Device × List Cue × List Gust × Int × Unit) × Unit → Option (Bool × Unit)) (f17 : (List Device × List Cue × List Gust × Int × Unit) × Int × Unit → Option (List Device × List Cue × List Gust × Int × Unit)) (f18 : List Drop × Int × Unit → Option (List Drop × Int × Unit)) (f19 : List Drop × Int × Unit → Option (Int × Unit)) (a : (List Device × List Cue × List Gust × Int × Unit) × Box × Unit) : Option (Bool × Unit) :=
  (f11 ((a.1.1, a.1.2.1, a.1.2.2.1, a.1.2.2.2.1, ()), 1048576, ())).bind fun x1 => cond (decide (x1.1 < 0)) (some (true, ())) ((f13 ((a.1.1, a.1.2.1, a.1.2.2.1, a.1.2.2.2.1, ()), ())).bind fun x2 => (f23 (a.2.1, ())).bind fun x3 => (f25 ((x2.1.1, x2.1.2.1, x2.1.2.2.1, x2.1.2.2.2.1, ()), x3.1, ())).bind fun x4 => (f13 ((a.1.1, a.1.2.1, a.1.2.2.1, a.1.2.2.2.1, ()), ())).bind fun x5 => (f23 (a.2.1, ())).bind fun x6 => (f26 ((x5.1.1, x5.1.2.1, x5.1.2.2.1, x5.1.2.2.2.1, ()), x6.1, ())).bind fun x7 => (f15 (x7.1, x4.1, ())).bind fun x8 => cond (!x8.1) (some (false, ())) ((f13 ((a.1.1, a.1.2.1, a.1.2.2.1, a.1.2.2.2.1, ()), ())).bind fun x9 => (f16 ((x5.1.1, x5.1.2.1, x5.1.2.2.1, x5.1.2.2.2.1, ()), (x9.1.1, x9.1.2.1, x9.1.2.2.1, x9.1.2.2.2.1, ()), ())).bind fun x10 => cond (!x10.1) (some (false, ())) ((f17 ((x5.1.1, x5.1.2.1, x5.1.2.2.1, x5.1.2.2.2.1, ()), 1, ())).bind fun x11 => cond (!(decide (x11.2.2.2.1 < 0))) ((f15 (x7.1, x4.1, ())).bind fun x12 => cond (!x12.1) (some (false, ())) ((f18 (x7.1, 1, ())).bind fun x13 => (f19 (x13.1, 1, ())).bind fun x14 => cond (decide (x14.1 < 0)) (some (false, ())) (cond (!(decide (x14.1 = x13.2.1))) (some (false, ())) ((f13 ((a.1.1, a.1.2.1, a.1.2.2.1, a.1.2.2.2.1, ()), ())).bind fun x15 => (f23 (a.2.1, ())).bind fun x16 => (f26 ((x15.1.1, x15.1.2.1, x15.1.2.2.1, x15.1.2.2.2.1, ()), x16.1, ())).bind fun x17 => (f15 (x17.1, x4.1, ())).bind fun x18 => cond (!x18.1) (some (false, ())) ((f19 (x13.1, 1, ())).bind fun x19 => cond (decide (x19.1 < 0)) (some (false, ())) (cond (!(decide (x19.1 = x13.2.1))) (some (false, ())) (some (true, ())))))))) (some (false, ())))))
def E6 (f11 : (List Device × List Cue × List Gust × Int × Unit) × Int × Unit → Option (Int × Unit)) (f13 : (List Device × List Cue × List Gust × Int × Unit) × Unit → Option ((List Device × List Cue × List Gust × Int × Unit) × Unit)) (f23 : Box × Unit → Option (Box × Unit)) (f25 : (List Device × List Cue × List Gust × Int × Unit) × Box × Unit → Option (List Drop × Unit)) (f26 : (List Device × List Cue × List Gust × Int × Unit) × Box × Unit → Option (List Drop × Unit)) (f15 : List Drop × List Drop × Unit → Option (Bool × Unit)) (f16 : (List Device × List Cue × List Gust × Int × Unit) × (List Device × List Cue × List Gust × Int × Unit) × Unit → Option (Bool × Unit)) (f17 : (List Device × List Cue × List Gust × Int × Unit) × Int × Unit → Option (List Device × List Cue × List Gust × Int × Unit)) (f18 : List Drop × Int × Unit → Option (List Drop × Int × Unit)) (f19 : List Drop × Int × Unit → Option (Int × Unit)) : Env := envL [(11, mkE p11 r11 false f11), (13, mkE p13 r13 false f13), (23, mkE p23 r23 false f23), (25, mkE p25 r25 false f25), (26, mkE p26 r26 false f26), (15, mkE p15 r15 false f15), (16, mkE p16 r16 false f16), (17, mkE p17 r17 false f17), (18, mkE p18 r18 false f18), (19, mkE p19 r19 false f19)]
noncomputable def L6 (f11 : (List Device × List Cue × List Gust × Int × Unit) × Int × Unit → Option (Int × Unit)) (f13 : (List Device × List Cue × List Gust × Int × Unit) × Unit → Option ((List Device × List Cue × List Gust × Int × Unit) × Unit)) (f23 : Box × Unit → Option (Box × Unit)) (f25 : (List Device × List Cue × List Gust × Int × Unit) × Box × Unit → Option (List Drop × Unit)) (f26 : (List Device × List Cue × List Gust × Int × Unit) × Box × Unit → Option (List Drop × Unit)) (f15 : List Drop × List Drop × Unit → Option (Bool × Unit)) (f16 : (List Device × List Cue × List Gust × Int × Unit) × (List Device × List Cue × List Gust × Int × Unit) × Unit → Option (Bool × Unit)) (f17 : (List Device × List Cue × List Gust × Int × Unit) × Int × Unit → Option (List Device × List Cue × List Gust × Int × Unit)) (f18 : List Drop × Int × Unit → Option (List Drop × Int × Unit)) (f19 : List Drop × Int × Unit → Option (Int × Unit)) : LEnv (densS (muts p6 ++ r6)) := lenv []
theorem e6 (f11 : (List Device × List Cue × List Gust × Int × Unit) × Int × Unit → Option (Int × Unit)) (f13 : (List Device × List Cue × List Gust × Int × Unit) × Unit → Option ((List Device × List Cue × List Gust × Int × Unit) × Unit)) (f23 : Box × Unit → Option (Box × Unit)) (f25 : (List Device × List Cue × List Gust × Int × Unit) × Box × Unit → Option (List Drop × Unit)) (f26 : (List Device × List Cue × List Gust × Int × Unit) × Box × Unit → Option (List Drop × Unit)) (f15 : List Drop × List Drop × Unit → Option (Bool × Unit)) (f16 : (List Device × List Cue × List Gust × Int × Unit) × (List Device × List Cue × List Gust × Int × Unit) × Unit → Option (Bool × Unit)) (f17 : (List Device × List Cue × List Gust × Int × Unit) × Int × Unit → Option (List Device × List Cue × List Gust × Int × Unit)) (f18 : List Drop × Int × Unit → Option (List Drop × Int × Unit)) (f19 : List Drop × Int × Unit → Option (Int × Unit)) (a : densS p6) : runF (E6 f11 f13 f23 f25 f26 f15 f16 f17 f18 f19) tab2 (fun _ => false) p6 r6 Proofs.Tryz.f6 (L6 f11 f13 f23 f25 f26 f15 f16 f17 f18 f19) a = F6 f11 f13 f23 f25 f26 f15 f16 f17 f18 f19 a := by kernel_rfl
theorem ok6 {f11 : (List Device × List Cue × List Gust × Int × Unit) × Int × Unit → Option (Int × Unit)} {f13 : (List Device × List Cue × List Gust × Int × Unit) × Unit → Option ((List Device × List Cue × List Gust × Int × Unit) × Unit)} {f23 : Box × Unit → Option (Box × Unit)} {f25 : (List Device × List Cue × List Gust × Int × Unit) × Box × Unit → Option (List Drop × Unit)} {f26 : (List Device × List Cue × List Gust × Int × Unit) × Box × Unit → Option (List Drop × Unit)} {f15 : List Drop × List Drop × Unit → Option (Bool × Unit)} {f16 : (List Device × List Cue × List Gust × Int × Unit) × (List Device × List Cue × List Gust × Int × Unit) × Unit → Option (Bool × Unit)} {f17 : (List Device × List Cue × List Gust × Int × Unit) × Int × Unit → Option (List Device × List Cue × List Gust × Int × Unit)} {f18 : List Drop × Int × Unit → Option (List Drop × Int × Unit)} {f19 : List Drop × Int × Unit → Option (Int × Unit)} (h11 : OK Proofs.Tryz.prog 11 (mkE p11 r11 false f11)) (h13 : OK Proofs.Tryz.prog 13 (mkE p13 r13 false f13)) (h23 : OK Proofs.Tryz.prog 23 (mkE p23 r23 false f23)) (h25 : OK Proofs.Tryz.prog 25 (mkE p25 r25 false f25)) (h26 : OK Proofs.Tryz.prog 26 (mkE p26 r26 false f26)) (h15 : OK Proofs.Tryz.prog 15 (mkE p15 r15 false f15)) (h16 : OK Proofs.Tryz.prog 16 (mkE p16 r16 false f16)) (h17 : OK Proofs.Tryz.prog 17 (mkE p17 r17 false f17)) (h18 : OK Proofs.Tryz.prog 18 (mkE p18 r18 false f18)) (h19 : OK Proofs.Tryz.prog 19 (mkE p19 r19 false f19)) : OK Proofs.Tryz.prog 6 (mkE p6 r6 false (F6 f11 f13 f23 f25 f26 f15 f16 f17 f18 f19)) :=
  fn_ok tab_ok2 (envL_ok (l := [(11, mkE p11 r11 false f11), (13, mkE p13 r13 false f13), (23, mkE p23 r23 false f23), (25, mkE p25 r25 false f25), (26, mkE p26 r26 false f26), (15, mkE p15 r15 false f15), (16, mkE p16 r16 false f16), (17, mkE p17 r17 false f17), (18, mkE p18 r18 false f18), (19, mkE p19 r19 false f19)]) (OKs.cons h11 (OKs.cons h13 (OKs.cons h23 (OKs.cons h25 (OKs.cons h26 (OKs.cons h15 (OKs.cons h16 (OKs.cons h17 (OKs.cons h18 (OKs.cons h19 OKs.nil))))))))))) mixed2 (ann := (fun _ => false)) (L := L6 f11 f13 f23 f25 f26 f15 f16 f17 f18 f19) (fn := Proofs.Tryz.f6) (c := bodyC Proofs.Tryz.f6) (ls := []) Proofs.Tryz.func6 (by kernel_rfl) (by kernel_rfl) (by kernel_rfl) (by kernel_rfl)
    LoopsP.nil (e6 f11 f13 f23 f25 f26 f15 f16 f17 f18 f19)
end Ev
