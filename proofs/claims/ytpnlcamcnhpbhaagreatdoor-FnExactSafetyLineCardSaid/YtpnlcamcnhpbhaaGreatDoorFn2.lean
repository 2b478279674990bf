/- Functions of the program, as the evaluator sees them. -/
import Derived.Test.YtpnlcamcnhpbhaaGreatDoorFn
set_option linter.unusedVariables false
set_option maxRecDepth 100000
namespace Ev
open Go
def tab2 : Tab := [(3, ⟨1, false, 8, [.int .i64 0], [], .int .i64, false⟩),
  (9, ⟨1, false, 16, [.str []], [], .str, false⟩),
  (22, ⟨1, false, 24, [.nils], [], .sl .device, false⟩),
  (23, ⟨1, false, 24, [.nils], [], .sl .cue, false⟩),
  (24, ⟨1, false, 24, [.nils], [], .sl .gust, false⟩),
  (26, ⟨4, true, 80, [.nils, .nils, .nils, .int .i64 0], [(0, 1, false), (1, 1, false), (2, 1, false), (3, 1, false)], .struct, false⟩),
  (27, ⟨1, false, 24, [.nils], [], .sl .place, false⟩),
  (29, ⟨2, true, 16, [.int .i64 0, .int .i64 0], [(0, 1, false), (1, 1, false)], .struct, false⟩),
  (31, ⟨4, true, 32, [.int .i64 0, .int .i64 0, .int .i64 0, .int .i64 0], [(0, 2, true), (2, 2, true)], .struct, false⟩),
  (35, ⟨1, false, 24, [.nils], [], .sl .device, false⟩),
  (36, ⟨1, false, 24, [.nils], [], .sl .cue, false⟩),
  (37, ⟨1, false, 24, [.nils], [], .sl .gust, false⟩),
  (39, ⟨4, true, 80, [.nils, .nils, .nils, .int .i64 0], [(0, 1, false), (1, 1, false), (2, 1, false), (3, 1, false)], .struct, false⟩),
  (41, ⟨1, false, 24, [.nils], [], .sl .place, false⟩),
  (43, ⟨2, true, 16, [.int .i64 0, .int .i64 0], [(0, 1, false), (1, 1, false)], .struct, true⟩),
  (45, ⟨4, true, 32, [.int .i64 0, .int .i64 0, .int .i64 0, .int .i64 0], [(0, 2, true), (2, 2, true)], .struct, false⟩),
  (90, ⟨3, true, 24, [.int .i64 0, .int .i64 0, .int .i64 0], [(0, 1, false), (1, 2, true)], .struct, false⟩),
  (96, ⟨8, true, 80, [.str [], .int .i64 0, .str [], .int .i64 0, .int .i64 0, .int .i64 0, .int .i64 0, .int .i64 0], [(0, 1, false), (1, 1, false), (2, 1, false), (3, 2, true), (5, 1, false), (6, 1, false), (7, 1, false)], .struct, false⟩),
  (99, ⟨4, true, 40, [.int .i64 0, .str [], .int .i64 0, .int .i64 0], [(0, 1, false), (1, 1, false), (2, 1, false), (3, 1, false)], .struct, false⟩),
  (114, ⟨8, true, 80, [.str [], .int .i64 0, .str [], .int .i64 0, .int .i64 0, .int .i64 0, .int .i64 0, .int .i64 0], [(0, 1, false), (1, 1, false), (2, 1, false), (3, 2, true), (5, 1, false), (6, 1, false), (7, 1, false)], .struct, true⟩),
  (116, ⟨4, true, 40, [.int .i64 0, .str [], .int .i64 0, .int .i64 0], [(0, 1, false), (1, 1, false), (2, 1, false), (3, 1, false)], .struct, false⟩),
  (120, ⟨3, true, 24, [.int .i64 0, .int .i64 0, .int .i64 0], [(0, 1, false), (1, 2, true)], .struct, false⟩)]
theorem tab_ok2 : TabOK Proofs.Tryz.prog tab2 := tab_of2 (by kernel_rfl) (by kernel_rfl)
theorem mixed2 : Proofs.Tryz.prog.follows .mixedOrders = true := by kernel_rfl
/-! laws.szDevice -/
def p49 : List SP := [.t .device, .one (.int .i64)]
def r49 : List SP := [.one (.int .i64)]
noncomputable def F49 (a : Device × Int × Unit) : Option (Int × Unit) :=
  cond (decide ((w64 (a.2.1 - (Int.ofNat (List.length a.1.Name)))) < 0)) (some ((-1), ())) (cond (decide ((w64 ((w64 (a.2.1 - (Int.ofNat (List.length a.1.Name)))) - (Int.ofNat (List.length a.1.Line)))) < 0)) (some ((-1), ())) (some ((w64 ((w64 (a.2.1 - (Int.ofNat (List.length a.1.Name)))) - (Int.ofNat (List.length a.1.Line)))), ())))
def E49 : Env := envL []
noncomputable def L49 : LEnv (densS (muts p49 ++ r49)) := lenv []
theorem e49 (a : densS p49) : runF (E49) tab2 (fun _ => false) p49 r49 Proofs.Tryz.f49 (L49) a = F49 a := by kernel_rfl
theorem ok49 : OK Proofs.Tryz.prog 49 (mkE p49 r49 false (F49)) :=
  fn_ok tab_ok2 (envL_ok (l := []) OKs.nil) mixed2 (ann := (fun _ => false)) (L := L49) (fn := Proofs.Tryz.f49) (c := bodyC Proofs.Tryz.f49) (ls := []) Proofs.Tryz.func49 (by kernel_rfl) (by kernel_rfl) (by kernel_rfl) (by kernel_rfl)
    LoopsP.nil (e49)
/-! laws.szDeviceS -/
def p18 : List SP := [.one (.r .device), .one (.int .i64)]
def r18 : List SP := [.one (.int .i64)]
def q18_0 : List SP := pat 27 0 [(0, .one (.r .device)), (1, .one (.int .i64)), (5, .one (.int .i64))]
noncomputable def s18_0 (f49 : Device × Int × Unit → Option (Int × Unit)) (t1 : List Device × Int × Int × Unit) (rec K : List Device × Int × Int × Unit → Option (Int × Unit)) : Option (Int × Unit) :=
  cond (decide (t1.2.2.1 < (Int.ofNat (List.length t1.1)))) (rdL t1.1 t1.2.2.1 fun d2 => (f49 (d2, t1.2.1, ())).bind fun x3 => cond (decide (x3.1 < 0)) (some ((-1), ())) (rec (t1.1, x3.1, (w64 (t1.2.2.1 + 1)), ()))) (K (t1.1, t1.2.1, t1.2.2.1, ()))
noncomputable def F18 (f49 : Device × Int × Unit → Option (Int × Unit)) (a : List Device × Int × Unit) : Option (Int × Unit) :=
  cond (decide ((w64 (a.2.1 - (Int.ofNat (List.length a.1)))) < 0)) (some ((-1), ())) (iterF (s18_0 f49) fuel (a.1, (w64 (a.2.1 - (Int.ofNat (List.length a.1)))), 0, ()) fun t4 => some (t4.2.1, ()))
def E18 (f49 : Device × Int × Unit → Option (Int × Unit)) : Env := envL [(49, mkE p49 r49 false f49)]
noncomputable def L18 (f49 : Device × Int × Unit → Option (Int × Unit)) : LEnv (densS (muts p18 ++ r18)) := lenv [(0, loopL (R := densS (muts p18 ++ r18)) q18_0 (s18_0 f49))]
theorem e18_0 (f49 : Device × Int × Unit → Option (Int × Unit)) (X : Nat → St → Option (densS (muts p18 ++ r18))) (rec K : densS q18_0 → Option (densS (muts p18 ++ r18))) (t : densS q18_0) :
    ev (E18 f49) tab2 (fun _ => false) (L18 f49) (retK tab2 p18 r18 Proofs.Tryz.f18.results.toList) (loopC Proofs.Tryz.f18 0) (fun i s => cond (Nat.beq i 0) (decK 100 q18_0 s K) (X i s)) (fun s => decK 100 q18_0 s rec) (enc q18_0 t) = s18_0 f49 t rec K := by kernel_rfl
theorem e18 (f49 : Device × Int × Unit → Option (Int × Unit)) (a : densS p18) : runF (E18 f49) tab2 (fun _ => false) p18 r18 Proofs.Tryz.f18 (L18 f49) a = F18 f49 a := by kernel_rfl
theorem ok18 {f49 : Device × Int × Unit → Option (Int × Unit)} (h49 : OK Proofs.Tryz.prog 49 (mkE p49 r49 false f49)) : OK Proofs.Tryz.prog 18 (mkE p18 r18 false (F18 f49)) :=
  fn_ok tab_ok2 (envL_ok (l := [(49, mkE p49 r49 false f49)]) (OKs.cons h49 OKs.nil)) mixed2 (ann := (fun _ => false)) (L := L18 f49) (fn := Proofs.Tryz.f18) (c := bodyC Proofs.Tryz.f18) (ls := [(0, loopC Proofs.Tryz.f18 0)]) Proofs.Tryz.func18 (by kernel_rfl) (by kernel_rfl) (by kernel_rfl) (by kernel_rfl)
    (LoopsP.cons q18_0 (s18_0 f49) rfl (e18_0 f49) LoopsP.nil) (e18 f49)
/-! laws.szCue -/
def p50 : List SP := [.t .cue, .one (.int .i64)]
def r50 : List SP := [.one (.int .i64)]
noncomputable def F50 (a : Cue × Int × Unit) : Option (Int × Unit) :=
  cond (decide ((w64 (a.2.1 - (Int.ofNat (List.length a.1.Name)))) < 0)) (some ((-1), ())) (some ((w64 (a.2.1 - (Int.ofNat (List.length a.1.Name)))), ()))
def E50 : Env := envL []
noncomputable def L50 : LEnv (densS (muts p50 ++ r50)) := lenv []
theorem e50 (a : densS p50) : runF (E50) tab2 (fun _ => false) p50 r50 Proofs.Tryz.f50 (L50) a = F50 a := by kernel_rfl
theorem ok50 : OK Proofs.Tryz.prog 50 (mkE p50 r50 false (F50)) :=
  fn_ok tab_ok2 (envL_ok (l := []) OKs.nil) mixed2 (ann := (fun _ => false)) (L := L50) (fn := Proofs.Tryz.f50) (c := bodyC Proofs.Tryz.f50) (ls := []) Proofs.Tryz.func50 (by kernel_rfl) (by kernel_rfl) (by kernel_rfl) (by kernel_rfl)
    LoopsP.nil (e50)
/-! laws.szCueS -/
def p19 : List SP := [.one (.r .cue), .one (.int .i64)]
def r19 : List SP := [.one (.int .i64)]
def q19_0 : List SP := pat 27 0 [(0, .one (.r .cue)), (1, .one (.int .i64)), (5, .one (.int .i64))]
noncomputable def s19_0 (f50 : Cue × Int × Unit → Option (Int × Unit)) (t1 : List Cue × Int × Int × Unit) (rec K : List Cue × Int × Int × Unit → Option (Int × Unit)) : Option (Int × Unit) :=
  cond (decide (t1.2.2.1 < (Int.ofNat (List.length t1.1)))) (rdL t1.1 t1.2.2.1 fun d2 => (f50 (d2, t1.2.1, ())).bind fun x3 => cond (decide (x3.1 < 0)) (some ((-1), ())) (rec (t1.1, x3.1, (w64 (t1.2.2.1 + 1)), ()))) (K (t1.1, t1.2.1, t1.2.2.1, ()))
noncomputable def F19 (f50 : Cue × Int × Unit → Option (Int × Unit)) (a : List Cue × Int × Unit) : Option (Int × Unit) :=
  cond (decide ((w64 (a.2.1 - (Int.ofNat (List.length a.1)))) < 0)) (some ((-1), ())) (iterF (s19_0 f50) fuel (a.1, (w64 (a.2.1 - (Int.ofNat (List.length a.1)))), 0, ()) fun t4 => some (t4.2.1, ()))
def E19 (f50 : Cue × Int × Unit → Option (Int × Unit)) : Env := envL [(50, mkE p50 r50 false f50)]
noncomputable def L19 (f50 : Cue × Int × Unit → Option (Int × Unit)) : LEnv (densS (muts p19 ++ r19)) := lenv [(0, loopL (R := densS (muts p19 ++ r19)) q19_0 (s19_0 f50))]
theorem e19_0 (f50 : Cue × Int × Unit → Option (Int × Unit)) (X : Nat → St → Option (densS (muts p19 ++ r19))) (rec K : densS q19_0 → Option (densS (muts p19 ++ r19))) (t : densS q19_0) :
    ev (E19 f50) tab2 (fun _ => false) (L19 f50) (retK tab2 p19 r19 Proofs.Tryz.f19.results.toList) (loopC Proofs.Tryz.f19 0) (fun i s => cond (Nat.beq i 0) (decK 100 q19_0 s K) (X i s)) (fun s => decK 100 q19_0 s rec) (enc q19_0 t) = s19_0 f50 t rec K := by kernel_rfl
theorem e19 (f50 : Cue × Int × Unit → Option (Int × Unit)) (a : densS p19) : runF (E19 f50) tab2 (fun _ => false) p19 r19 Proofs.Tryz.f19 (L19 f50) a = F19 f50 a := by kernel_rfl
theorem ok19 {f50 : Cue × Int × Unit → Option (Int × Unit)} (h50 : OK Proofs.Tryz.prog 50 (mkE p50 r50 false f50)) : OK Proofs.Tryz.prog 19 (mkE p19 r19 false (F19 f50)) :=
  fn_ok tab_ok2 (envL_ok (l := [(50, mkE p50 r50 false f50)]) (OKs.cons h50 OKs.nil)) mixed2 (ann := (fun _ => false)) (L := L19 f50) (fn := Proofs.Tryz.f19) (c := bodyC Proofs.Tryz.f19) (ls := [(0, loopC Proofs.Tryz.f19 0)]) Proofs.Tryz.func19 (by kernel_rfl) (by kernel_rfl) (by kernel_rfl) (by kernel_rfl)
    (LoopsP.cons q19_0 (s19_0 f50) rfl (e19_0 f50) LoopsP.nil) (e19 f50)
/-! laws.szGustS -/
def p20 : List SP := [.one (.r .gust), .one (.int .i64)]
def r20 : List SP := [.one (.int .i64)]
noncomputable def F20 (a : List Gust × Int × Unit) : Option (Int × Unit) :=
  cond (decide ((w64 (a.2.1 - (Int.ofNat (List.length a.1)))) < 0)) (some ((-1), ())) (some ((w64 (a.2.1 - (Int.ofNat (List.length a.1)))), ()))
def E20 : Env := envL []
noncomputable def L20 : LEnv (densS (muts p20 ++ r20)) := lenv []
theorem e20 (a : densS p20) : runF (E20) tab2 (fun _ => false) p20 r20 Proofs.Tryz.f20 (L20) a = F20 a := by kernel_rfl
theorem ok20 : OK Proofs.Tryz.prog 20 (mkE p20 r20 false (F20)) :=
  fn_ok tab_ok2 (envL_ok (l := []) OKs.nil) mixed2 (ann := (fun _ => false)) (L := L20) (fn := Proofs.Tryz.f20) (c := bodyC Proofs.Tryz.f20) (ls := []) Proofs.Tryz.func20 (by kernel_rfl) (by kernel_rfl) (by kernel_rfl) (by kernel_rfl)
    LoopsP.nil (e20)
/-! laws.szShow -/
def p5 : List SP := [.agg [.r .device, .r .cue, .r .gust, .int .i64], .one (.int .i64)]
def r5 : List SP := [.one (.int .i64)]
noncomputable def F5 (f18 : List Device × Int × Unit → Option (Int × Unit)) (f19 : List Cue × Int × Unit → Option (Int × Unit)) (f20 : List Gust × Int × Unit → Option (Int × Unit)) (a : ShD × Int × Unit) : Option (Int × Unit) :=
  (f18 (a.1.1, a.2.1, ())).bind fun x1 => cond (decide (x1.1 < 0)) (some ((-1), ())) ((f19 (a.1.2.1, x1.1, ())).bind fun x2 => cond (decide (x2.1 < 0)) (some ((-1), ())) ((f20 (a.1.2.2.1, x2.1, ())).bind fun x3 => cond (decide (x3.1 < 0)) (some ((-1), ())) (some (x3.1, ()))))
def E5 (f18 : List Device × Int × Unit → Option (Int × Unit)) (f19 : List Cue × Int × Unit → Option (Int × Unit)) (f20 : List Gust × Int × Unit → Option (Int × Unit)) : Env := envL [(18, mkE p18 r18 false f18), (19, mkE p19 r19 false f19), (20, mkE p20 r20 false f20)]
noncomputable def L5 (f18 : List Device × Int × Unit → Option (Int × Unit)) (f19 : List Cue × Int × Unit → Option (Int × Unit)) (f20 : List Gust × Int × Unit → Option (Int × Unit)) : LEnv (densS (muts p5 ++ r5)) := lenv []
theorem e5 (f18 : List Device × Int × Unit → Option (Int × Unit)) (f19 : List Cue × Int × Unit → Option (Int × Unit)) (f20 : List Gust × Int × Unit → Option (Int × Unit)) (a : densS p5) : runF (E5 f18 f19 f20) tab2 (fun _ => false) p5 r5 Proofs.Tryz.f5 (L5 f18 f19 f20) a = F5 f18 f19 f20 a := by kernel_rfl
theorem ok5 {f18 : List Device × Int × Unit → Option (Int × Unit)} {f19 : List Cue × Int × Unit → Option (Int × Unit)} {f20 : List Gust × Int × Unit → Option (Int × Unit)} (h18 : OK Proofs.Tryz.prog 18 (mkE p18 r18 false f18)) (h19 : OK Proofs.Tryz.prog 19 (mkE p19 r19 false f19)) (h20 : OK Proofs.Tryz.prog 20 (mkE p20 r20 false f20)) : OK Proofs.Tryz.prog 5 (mkE p5 r5 false (F5 f18 f19 f20)) :=
  fn_ok tab_ok2 (envL_ok (l := [(18, mkE p18 r18 false f18), (19, mkE p19 r19 false f19), (20, mkE p20 r20 false f20)]) (OKs.cons h18 (OKs.cons h19 (OKs.cons h20 OKs.nil)))) mixed2 (ann := (fun _ => false)) (L := L5 f18 f19 f20) (fn := Proofs.Tryz.f5) (c := bodyC Proofs.Tryz.f5) (ls := []) Proofs.Tryz.func5 (by kernel_rfl) (by kernel_rfl) (by kernel_rfl) (by kernel_rfl)
    LoopsP.nil (e5 f18 f19 f20)
/-! laws.szPlaceS -/
def p6 : List SP := [.one (.r .place), .one (.int .i64)]
def r6 : List SP := [.one (.int .i64)]
noncomputable def F6 (a : List Place × Int × Unit) : Option (Int × Unit) :=
  cond (decide ((w64 (a.2.1 - (Int.ofNat (List.length a.1)))) < 0)) (some ((-1), ())) (some ((w64 (a.2.1 - (Int.ofNat (List.length a.1)))), ()))
def E6 : Env := envL []
noncomputable def L6 : LEnv (densS (muts p6 ++ r6)) := lenv []
theorem e6 (a : densS p6) : runF (E6) tab2 (fun _ => false) p6 r6 Proofs.Tryz.f6 (L6) a = F6 a := by kernel_rfl
theorem ok6 : OK Proofs.Tryz.prog 6 (mkE p6 r6 false (F6)) :=
  fn_ok tab_ok2 (envL_ok (l := []) OKs.nil) mixed2 (ann := (fun _ => false)) (L := L6) (fn := Proofs.Tryz.f6) (c := bodyC Proofs.Tryz.f6) (ls := []) Proofs.Tryz.func6 (by kernel_rfl) (by kernel_rfl) (by kernel_rfl) (by kernel_rfl)
    LoopsP.nil (e6)
/-! laws.toPlace -/
def p34 : List SP := [.t .place]
def r34 : List SP := [.t .place]
noncomputable def F34 (a : Place × Unit) : Option (Place × Unit) :=
  some (a.1, ())
def E34 : Env := envL []
noncomputable def L34 : LEnv (densS (muts p34 ++ r34)) := lenv []
theorem e34 (a : densS p34) : runF (E34) tab2 (fun _ => false) p34 r34 Proofs.Tryz.f34 (L34) a = F34 a := by kernel_rfl
theorem ok34 : OK Proofs.Tryz.prog 34 (mkE p34 r34 false (F34)) :=
  fn_ok tab_ok2 (envL_ok (l := []) OKs.nil) mixed2 (ann := (fun _ => false)) (L := L34) (fn := Proofs.Tryz.f34) (c := bodyC Proofs.Tryz.f34) (ls := []) Proofs.Tryz.func34 (by kernel_rfl) (by kernel_rfl) (by kernel_rfl) (by kernel_rfl)
    LoopsP.nil (e34)
/-! laws.toDevice -/
def p65 : List SP := [.t .device]
def r65 : List SP := [.t .device]
noncomputable def F65 (f34 : Place × Unit → Option (Place × Unit)) (a : Device × Unit) : Option (Device × Unit) :=
  (f34 (a.1.At, ())).bind fun x1 => some ((⟨a.1.Name, a.1.Kind, a.1.Line, ⟨x1.1.X, x1.1.Y⟩, a.1.Heading, a.1.Tilt, a.1.Most⟩ : Device), ())
def E65 (f34 : Place × Unit → Option (Place × Unit)) : Env := envL [(34, mkE p34 r34 false f34)]
noncomputable def L65 (f34 : Place × Unit → Option (Place × Unit)) : LEnv (densS (muts p65 ++ r65)) := lenv []
theorem e65 (f34 : Place × Unit → Option (Place × Unit)) (a : densS p65) : runF (E65 f34) tab2 (fun _ => false) p65 r65 Proofs.Tryz.f65 (L65 f34) a = F65 f34 a := by kernel_rfl
theorem ok65 {f34 : Place × Unit → Option (Place × Unit)} (h34 : OK Proofs.Tryz.prog 34 (mkE p34 r34 false f34)) : OK Proofs.Tryz.prog 65 (mkE p65 r65 false (F65 f34)) :=
  fn_ok tab_ok2 (envL_ok (l := [(34, mkE p34 r34 false f34)]) (OKs.cons h34 OKs.nil)) mixed2 (ann := (fun _ => false)) (L := L65 f34) (fn := Proofs.Tryz.f65) (c := bodyC Proofs.Tryz.f65) (ls := []) Proofs.Tryz.func65 (by kernel_rfl) (by kernel_rfl) (by kernel_rfl) (by kernel_rfl)
    LoopsP.nil (e65 f34)
/-! laws.toDeviceS -/
def p31 : List SP := [.one (.r .device)]
def r31 : List SP := [.one (.o 0 .device)]
def q31_0 : List SP := pat 23 0 [(0, .one (.r .device)), (3, .one (.o 5000001 .device)), (4, .one (.int .i64))]
noncomputable def s31_0 (f65 : Device × Unit → Option (Device × Unit)) (t1 : List Device × List Device × Int × Unit) (rec K : List Device × List Device × Int × Unit → Option (List Device × Unit)) : Option (List Device × Unit) :=
  cond (decide (t1.2.2.1 < (Int.ofNat (List.length t1.1)))) (rdL t1.1 t1.2.2.1 fun d2 => (f65 (d2, ())).bind fun x3 => rdL t1.2.1 t1.2.2.1 fun _ => (t1.2.1[(Int.toNat t1.2.2.1)]?).bind fun d4 => rec (t1.1, (List.set t1.2.1 (Int.toNat t1.2.2.1) x3.1), (w64 (t1.2.2.1 + 1)), ())) (K (t1.1, t1.2.1, t1.2.2.1, ()))
noncomputable def F31 (f65 : Device × Unit → Option (Device × Unit)) (a : List Device × Unit) : Option (List Device × Unit) :=
  okIf ((0 : Int) ≤ (Int.ofNat (List.length a.1))) (capK (Int.toNat (Int.ofNat (List.length a.1))) (iterF (s31_0 f65) fuel (a.1, (List.replicate (Int.toNat (Int.ofNat (List.length a.1))) (Ty.zero .device)), 0, ()) fun t5 => some (t5.2.1, ())))
def E31 (f65 : Device × Unit → Option (Device × Unit)) : Env := envL [(65, mkE p65 r65 false f65)]
noncomputable def L31 (f65 : Device × Unit → Option (Device × Unit)) : LEnv (densS (muts p31 ++ r31)) := lenv [(0, loopL (R := densS (muts p31 ++ r31)) q31_0 (s31_0 f65))]
theorem e31_0 (f65 : Device × Unit → Option (Device × Unit)) (X : Nat → St → Option (densS (muts p31 ++ r31))) (rec K : densS q31_0 → Option (densS (muts p31 ++ r31))) (t : densS q31_0) :
    ev (E31 f65) tab2 (fun _ => false) (L31 f65) (retK tab2 p31 r31 Proofs.Tryz.f31.results.toList) (loopC Proofs.Tryz.f31 0) (fun i s => cond (Nat.beq i 0) (decK 100 q31_0 s K) (X i s)) (fun s => decK 100 q31_0 s rec) (enc q31_0 t) = s31_0 f65 t rec K := by kernel_rfl
theorem e31 (f65 : Device × Unit → Option (Device × Unit)) (a : densS p31) : runF (E31 f65) tab2 (fun _ => false) p31 r31 Proofs.Tryz.f31 (L31 f65) a = F31 f65 a := by kernel_rfl
theorem ok31 {f65 : Device × Unit → Option (Device × Unit)} (h65 : OK Proofs.Tryz.prog 65 (mkE p65 r65 false f65)) : OK Proofs.Tryz.prog 31 (mkE p31 r31 false (F31 f65)) :=
  fn_ok tab_ok2 (envL_ok (l := [(65, mkE p65 r65 false f65)]) (OKs.cons h65 OKs.nil)) mixed2 (ann := (fun _ => false)) (L := L31 f65) (fn := Proofs.Tryz.f31) (c := bodyC Proofs.Tryz.f31) (ls := [(0, loopC Proofs.Tryz.f31 0)]) Proofs.Tryz.func31 (by kernel_rfl) (by kernel_rfl) (by kernel_rfl) (by kernel_rfl)
    (LoopsP.cons q31_0 (s31_0 f65) rfl (e31_0 f65) LoopsP.nil) (e31 f65)
/-! laws.toCue -/
def p66 : List SP := [.t .cue]
def r66 : List SP := [.t .cue]
noncomputable def F66 (a : Cue × Unit) : Option (Cue × Unit) :=
  some (a.1, ())
def E66 : Env := envL []
noncomputable def L66 : LEnv (densS (muts p66 ++ r66)) := lenv []
theorem e66 (a : densS p66) : runF (E66) tab2 (fun _ => false) p66 r66 Proofs.Tryz.f66 (L66) a = F66 a := by kernel_rfl
theorem ok66 : OK Proofs.Tryz.prog 66 (mkE p66 r66 false (F66)) :=
  fn_ok tab_ok2 (envL_ok (l := []) OKs.nil) mixed2 (ann := (fun _ => false)) (L := L66) (fn := Proofs.Tryz.f66) (c := bodyC Proofs.Tryz.f66) (ls := []) Proofs.Tryz.func66 (by kernel_rfl) (by kernel_rfl) (by kernel_rfl) (by kernel_rfl)
    LoopsP.nil (e66)
/-! laws.toCueS -/
def p32 : List SP := [.one (.r .cue)]
def r32 : List SP := [.one (.o 0 .cue)]
def q32_0 : List SP := pat 23 0 [(0, .one (.r .cue)), (3, .one (.o 5000001 .cue)), (4, .one (.int .i64))]
noncomputable def s32_0 (f66 : Cue × Unit → Option (Cue × Unit)) (t1 : List Cue × List Cue × Int × Unit) (rec K : List Cue × List Cue × Int × Unit → Option (List Cue × Unit)) : Option (List Cue × Unit) :=
  cond (decide (t1.2.2.1 < (Int.ofNat (List.length t1.1)))) (rdL t1.1 t1.2.2.1 fun d2 => (f66 (d2, ())).bind fun x3 => rdL t1.2.1 t1.2.2.1 fun _ => (t1.2.1[(Int.toNat t1.2.2.1)]?).bind fun d4 => rec (t1.1, (List.set t1.2.1 (Int.toNat t1.2.2.1) x3.1), (w64 (t1.2.2.1 + 1)), ())) (K (t1.1, t1.2.1, t1.2.2.1, ()))
noncomputable def F32 (f66 : Cue × Unit → Option (Cue × Unit)) (a : List Cue × Unit) : Option (List Cue × Unit) :=
  okIf ((0 : Int) ≤ (Int.ofNat (List.length a.1))) (capK (Int.toNat (Int.ofNat (List.length a.1))) (iterF (s32_0 f66) fuel (a.1, (List.replicate (Int.toNat (Int.ofNat (List.length a.1))) (Ty.zero .cue)), 0, ()) fun t5 => some (t5.2.1, ())))
def E32 (f66 : Cue × Unit → Option (Cue × Unit)) : Env := envL [(66, mkE p66 r66 false f66)]
noncomputable def L32 (f66 : Cue × Unit → Option (Cue × Unit)) : LEnv (densS (muts p32 ++ r32)) := lenv [(0, loopL (R := densS (muts p32 ++ r32)) q32_0 (s32_0 f66))]
theorem e32_0 (f66 : Cue × Unit → Option (Cue × Unit)) (X : Nat → St → Option (densS (muts p32 ++ r32))) (rec K : densS q32_0 → Option (densS (muts p32 ++ r32))) (t : densS q32_0) :
    ev (E32 f66) tab2 (fun _ => false) (L32 f66) (retK tab2 p32 r32 Proofs.Tryz.f32.results.toList) (loopC Proofs.Tryz.f32 0) (fun i s => cond (Nat.beq i 0) (decK 100 q32_0 s K) (X i s)) (fun s => decK 100 q32_0 s rec) (enc q32_0 t) = s32_0 f66 t rec K := by kernel_rfl
theorem e32 (f66 : Cue × Unit → Option (Cue × Unit)) (a : densS p32) : runF (E32 f66) tab2 (fun _ => false) p32 r32 Proofs.Tryz.f32 (L32 f66) a = F32 f66 a := by kernel_rfl
theorem ok32 {f66 : Cue × Unit → Option (Cue × Unit)} (h66 : OK Proofs.Tryz.prog 66 (mkE p66 r66 false f66)) : OK Proofs.Tryz.prog 32 (mkE p32 r32 false (F32 f66)) :=
  fn_ok tab_ok2 (envL_ok (l := [(66, mkE p66 r66 false f66)]) (OKs.cons h66 OKs.nil)) mixed2 (ann := (fun _ => false)) (L := L32 f66) (fn := Proofs.Tryz.f32) (c := bodyC Proofs.Tryz.f32) (ls := [(0, loopC Proofs.Tryz.f32 0)]) Proofs.Tryz.func32 (by kernel_rfl) (by kernel_rfl) (by kernel_rfl) (by kernel_rfl)
    (LoopsP.cons q32_0 (s32_0 f66) rfl (e32_0 f66) LoopsP.nil) (e32 f66)
/-! laws.toGust -/
def p67 : List SP := [.t .gust]
def r67 : List SP := [.t .gust]
noncomputable def F67 (f34 : Place × Unit → Option (Place × Unit)) (a : Gust × Unit) : Option (Gust × Unit) :=
  (f34 (a.1.Drift, ())).bind fun x1 => some ((⟨a.1.From, ⟨x1.1.X, x1.1.Y⟩⟩ : Gust), ())
def E67 (f34 : Place × Unit → Option (Place × Unit)) : Env := envL [(34, mkE p34 r34 false f34)]
noncomputable def L67 (f34 : Place × Unit → Option (Place × Unit)) : LEnv (densS (muts p67 ++ r67)) := lenv []
theorem e67 (f34 : Place × Unit → Option (Place × Unit)) (a : densS p67) : runF (E67 f34) tab2 (fun _ => false) p67 r67 Proofs.Tryz.f67 (L67 f34) a = F67 f34 a := by kernel_rfl
theorem ok67 {f34 : Place × Unit → Option (Place × Unit)} (h34 : OK Proofs.Tryz.prog 34 (mkE p34 r34 false f34)) : OK Proofs.Tryz.prog 67 (mkE p67 r67 false (F67 f34)) :=
  fn_ok tab_ok2 (envL_ok (l := [(34, mkE p34 r34 false f34)]) (OKs.cons h34 OKs.nil)) mixed2 (ann := (fun _ => false)) (L := L67 f34) (fn := Proofs.Tryz.f67) (c := bodyC Proofs.Tryz.f67) (ls := []) Proofs.Tryz.func67 (by kernel_rfl) (by kernel_rfl) (by kernel_rfl) (by kernel_rfl)
    LoopsP.nil (e67 f34)
/-! laws.toGustS -/
def p33 : List SP := [.one (.r .gust)]
def r33 : List SP := [.one (.o 0 .gust)]
def q33_0 : List SP := pat 23 0 [(0, .one (.r .gust)), (3, .one (.o 5000001 .gust)), (4, .one (.int .i64))]
noncomputable def s33_0 (f67 : Gust × Unit → Option (Gust × Unit)) (t1 : List Gust × List Gust × Int × Unit) (rec K : List Gust × List Gust × Int × Unit → Option (List Gust × Unit)) : Option (List Gust × Unit) :=
  cond (decide (t1.2.2.1 < (Int.ofNat (List.length t1.1)))) (rdL t1.1 t1.2.2.1 fun d2 => (f67 (d2, ())).bind fun x3 => rdL t1.2.1 t1.2.2.1 fun _ => (t1.2.1[(Int.toNat t1.2.2.1)]?).bind fun d4 => rec (t1.1, (List.set t1.2.1 (Int.toNat t1.2.2.1) x3.1), (w64 (t1.2.2.1 + 1)), ())) (K (t1.1, t1.2.1, t1.2.2.1, ()))
noncomputable def F33 (f67 : Gust × Unit → Option (Gust × Unit)) (a : List Gust × Unit) : Option (List Gust × Unit) :=
  okIf ((0 : Int) ≤ (Int.ofNat (List.length a.1))) (capK (Int.toNat (Int.ofNat (List.length a.1))) (iterF (s33_0 f67) fuel (a.1, (List.replicate (Int.toNat (Int.ofNat (List.length a.1))) (Ty.zero .gust)), 0, ()) fun t5 => some (t5.2.1, ())))
def E33 (f67 : Gust × Unit → Option (Gust × Unit)) : Env := envL [(67, mkE p67 r67 false f67)]
noncomputable def L33 (f67 : Gust × Unit → Option (Gust × Unit)) : LEnv (densS (muts p33 ++ r33)) := lenv [(0, loopL (R := densS (muts p33 ++ r33)) q33_0 (s33_0 f67))]
theorem e33_0 (f67 : Gust × Unit → Option (Gust × Unit)) (X : Nat → St → Option (densS (muts p33 ++ r33))) (rec K : densS q33_0 → Option (densS (muts p33 ++ r33))) (t : densS q33_0) :
    ev (E33 f67) tab2 (fun _ => false) (L33 f67) (retK tab2 p33 r33 Proofs.Tryz.f33.results.toList) (loopC Proofs.Tryz.f33 0) (fun i s => cond (Nat.beq i 0) (decK 100 q33_0 s K) (X i s)) (fun s => decK 100 q33_0 s rec) (enc q33_0 t) = s33_0 f67 t rec K := by kernel_rfl
theorem e33 (f67 : Gust × Unit → Option (Gust × Unit)) (a : densS p33) : runF (E33 f67) tab2 (fun _ => false) p33 r33 Proofs.Tryz.f33 (L33 f67) a = F33 f67 a := by kernel_rfl
theorem ok33 {f67 : Gust × Unit → Option (Gust × Unit)} (h67 : OK Proofs.Tryz.prog 67 (mkE p67 r67 false f67)) : OK Proofs.Tryz.prog 33 (mkE p33 r33 false (F33 f67)) :=
  fn_ok tab_ok2 (envL_ok (l := [(67, mkE p67 r67 false f67)]) (OKs.cons h67 OKs.nil)) mixed2 (ann := (fun _ => false)) (L := L33 f67) (fn := Proofs.Tryz.f33) (c := bodyC Proofs.Tryz.f33) (ls := [(0, loopC Proofs.Tryz.f33 0)]) Proofs.Tryz.func33 (by kernel_rfl) (by kernel_rfl) (by kernel_rfl) (by kernel_rfl)
    (LoopsP.cons q33_0 (s33_0 f67) rfl (e33_0 f67) LoopsP.nil) (e33 f67)
/-! laws.toShow -/
def p8 : List SP := [.agg [.r .device, .r .cue, .r .gust, .int .i64]]
def r8 : List SP := [.agg [.o 0 .device, .o 1 .cue, .o 2 .gust, .int .i64]]
noncomputable def F8 (f31 : List Device × Unit → Option (List Device × Unit)) (f32 : List Cue × Unit → Option (List Cue × Unit)) (f33 : List Gust × Unit → Option (List Gust × Unit)) (a : ShD × Unit) : Option (ShD × Unit) :=
  (f31 (a.1.1, ())).bind fun x1 => (f32 (a.1.2.1, ())).bind fun x2 => (f33 (a.1.2.2.1, ())).bind fun x3 => some ((x1.1, x2.1, x3.1, a.1.2.2.2.1, ()), ())
def E8 (f31 : List Device × Unit → Option (List Device × Unit)) (f32 : List Cue × Unit → Option (List Cue × Unit)) (f33 : List Gust × Unit → Option (List Gust × Unit)) : Env := envL [(31, mkE p31 r31 false f31), (32, mkE p32 r32 false f32), (33, mkE p33 r33 false f33)]
noncomputable def L8 (f31 : List Device × Unit → Option (List Device × Unit)) (f32 : List Cue × Unit → Option (List Cue × Unit)) (f33 : List Gust × Unit → Option (List Gust × Unit)) : LEnv (densS (muts p8 ++ r8)) := lenv []
theorem e8 (f31 : List Device × Unit → Option (List Device × Unit)) (f32 : List Cue × Unit → Option (List Cue × Unit)) (f33 : List Gust × Unit → Option (List Gust × Unit)) (a : densS p8) : runF (E8 f31 f32 f33) tab2 (fun _ => false) p8 r8 Proofs.Tryz.f8 (L8 f31 f32 f33) a = F8 f31 f32 f33 a := by kernel_rfl
theorem ok8 {f31 : List Device × Unit → Option (List Device × Unit)} {f32 : List Cue × Unit → Option (List Cue × Unit)} {f33 : List Gust × Unit → Option (List Gust × Unit)} (h31 : OK Proofs.Tryz.prog 31 (mkE p31 r31 false f31)) (h32 : OK Proofs.Tryz.prog 32 (mkE p32 r32 false f32)) (h33 : OK Proofs.Tryz.prog 33 (mkE p33 r33 false f33)) : OK Proofs.Tryz.prog 8 (mkE p8 r8 false (F8 f31 f32 f33)) :=
  fn_ok tab_ok2 (envL_ok (l := [(31, mkE p31 r31 false f31), (32, mkE p32 r32 false f32), (33, mkE p33 r33 false f33)]) (OKs.cons h31 (OKs.cons h32 (OKs.cons h33 OKs.nil)))) mixed2 (ann := (fun _ => false)) (L := L8 f31 f32 f33) (fn := Proofs.Tryz.f8) (c := bodyC Proofs.Tryz.f8) (ls := []) Proofs.Tryz.func8 (by kernel_rfl) (by kernel_rfl) (by kernel_rfl) (by kernel_rfl)
    LoopsP.nil (e8 f31 f32 f33)
/-! laws.toPlaceS -/
def p9 : List SP := [.one (.r .place)]
def r9 : List SP := [.one (.o 0 .place)]
def q9_0 : List SP := pat 23 0 [(0, .one (.r .place)), (3, .one (.o 5000001 .place)), (4, .one (.int .i64))]
noncomputable def s9_0 (f34 : Place × Unit → Option (Place × Unit)) (t1 : List Place × List Place × Int × Unit) (rec K : List Place × List Place × Int × Unit → Option (List Place × Unit)) : Option (List Place × Unit) :=
  cond (decide (t1.2.2.1 < (Int.ofNat (List.length t1.1)))) (rdL t1.1 t1.2.2.1 fun d2 => (f34 (d2, ())).bind fun x3 => rdL t1.2.1 t1.2.2.1 fun _ => (t1.2.1[(Int.toNat t1.2.2.1)]?).bind fun d4 => rec (t1.1, (List.set t1.2.1 (Int.toNat t1.2.2.1) x3.1), (w64 (t1.2.2.1 + 1)), ())) (K (t1.1, t1.2.1, t1.2.2.1, ()))
noncomputable def F9 (f34 : Place × Unit → Option (Place × Unit)) (a : List Place × Unit) : Option (List Place × Unit) :=
  okIf ((0 : Int) ≤ (Int.ofNat (List.length a.1))) (capK (Int.toNat (Int.ofNat (List.length a.1))) (iterF (s9_0 f34) fuel (a.1, (List.replicate (Int.toNat (Int.ofNat (List.length a.1))) (Ty.zero .place)), 0, ()) fun t5 => some (t5.2.1, ())))
def E9 (f34 : Place × Unit → Option (Place × Unit)) : Env := envL [(34, mkE p34 r34 false f34)]
noncomputable def L9 (f34 : Place × Unit → Option (Place × Unit)) : LEnv (densS (muts p9 ++ r9)) := lenv [(0, loopL (R := densS (muts p9 ++ r9)) q9_0 (s9_0 f34))]
theorem e9_0 (f34 : Place × Unit → Option (Place × Unit)) (X : Nat → St → Option (densS (muts p9 ++ r9))) (rec K : densS q9_0 → Option (densS (muts p9 ++ r9))) (t : densS q9_0) :
    ev (E9 f34) tab2 (fun _ => false) (L9 f34) (retK tab2 p9 r9 Proofs.Tryz.f9.results.toList) (loopC Proofs.Tryz.f9 0) (fun i s => cond (Nat.beq i 0) (decK 100 q9_0 s K) (X i s)) (fun s => decK 100 q9_0 s rec) (enc q9_0 t) = s9_0 f34 t rec K := by kernel_rfl
theorem e9 (f34 : Place × Unit → Option (Place × Unit)) (a : densS p9) : runF (E9 f34) tab2 (fun _ => false) p9 r9 Proofs.Tryz.f9 (L9 f34) a = F9 f34 a := by kernel_rfl
theorem ok9 {f34 : Place × Unit → Option (Place × Unit)} (h34 : OK Proofs.Tryz.prog 34 (mkE p34 r34 false f34)) : OK Proofs.Tryz.prog 9 (mkE p9 r9 false (F9 f34)) :=
  fn_ok tab_ok2 (envL_ok (l := [(34, mkE p34 r34 false f34)]) (OKs.cons h34 OKs.nil)) mixed2 (ann := (fun _ => false)) (L := L9 f34) (fn := Proofs.Tryz.f9) (c := bodyC Proofs.Tryz.f9) (ls := [(0, loopC Proofs.Tryz.f9 0)]) Proofs.Tryz.func9 (by kernel_rfl) (by kernel_rfl) (by kernel_rfl) (by kernel_rfl)
    (LoopsP.cons q9_0 (s9_0 f34) rfl (e9_0 f34) LoopsP.nil) (e9 f34)
/-! laws.toBox -/
def p10 : List SP := [.t .box]
def r10 : List SP := [.t .box]
noncomputable def F10 (f34 : Place × Unit → Option (Place × Unit)) (a : Box × Unit) : Option (Box × Unit) :=
  (f34 (a.1.Low, ())).bind fun x1 => (f34 (a.1.High, ())).bind fun x2 => some ((⟨⟨x1.1.X, x1.1.Y⟩, ⟨x2.1.X, x2.1.Y⟩⟩ : Box), ())
def E10 (f34 : Place × Unit → Option (Place × Unit)) : Env := envL [(34, mkE p34 r34 false f34)]
noncomputable def L10 (f34 : Place × Unit → Option (Place × Unit)) : LEnv (densS (muts p10 ++ r10)) := lenv []
theorem e10 (f34 : Place × Unit → Option (Place × Unit)) (a : densS p10) : runF (E10 f34) tab2 (fun _ => false) p10 r10 Proofs.Tryz.f10 (L10 f34) a = F10 f34 a := by kernel_rfl
theorem ok10 {f34 : Place × Unit → Option (Place × Unit)} (h34 : OK Proofs.Tryz.prog 34 (mkE p34 r34 false f34)) : OK Proofs.Tryz.prog 10 (mkE p10 r10 false (F10 f34)) :=
  fn_ok tab_ok2 (envL_ok (l := [(34, mkE p34 r34 false f34)]) (OKs.cons h34 OKs.nil)) mixed2 (ann := (fun _ => false)) (L := L10 f34) (fn := Proofs.Tryz.f10) (c := bodyC Proofs.Tryz.f10) (ls := []) Proofs.Tryz.func10 (by kernel_rfl) (by kernel_rfl) (by kernel_rfl) (by kernel_rfl)
    LoopsP.nil (e10 f34)
/-! laws.eqPlace -/
def p44 : List SP := [.t .place, .t .place]
def r44 : List SP := [.one (.bool)]
noncomputable def F44 (a : Place × Place × Unit) : Option (Bool × Unit) :=
  cond (!(decide (a.1.X = a.2.1.X))) (some (false, ())) (cond (!(decide (a.1.Y = a.2.1.Y))) (some (false, ())) (some (true, ())))
def E44 : Env := envL []
noncomputable def L44 : LEnv (densS (muts p44 ++ r44)) := lenv []
theorem e44 (a : densS p44) : runF (E44) tab2 (fun _ => false) p44 r44 Proofs.Tryz.f44 (L44) a = F44 a := by kernel_rfl
theorem ok44 : OK Proofs.Tryz.prog 44 (mkE p44 r44 false (F44)) :=
  fn_ok tab_ok2 (envL_ok (l := []) OKs.nil) mixed2 (ann := (fun _ => false)) (L := L44) (fn := Proofs.Tryz.f44) (c := bodyC Proofs.Tryz.f44) (ls := []) Proofs.Tryz.func44 (by kernel_rfl) (by kernel_rfl) (by kernel_rfl) (by kernel_rfl)
    LoopsP.nil (e44)
/-! laws.eqDevice -/
def p82 : List SP := [.t .device, .t .device]
def r82 : List SP := [.one (.bool)]
noncomputable def F82 (f44 : Place × Place × Unit → Option (Bool × Unit)) (a : Device × Device × Unit) : Option (Bool × Unit) :=
  cond (!decide (a.1.Name = a.2.1.Name)) (some (false, ())) (cond (!(decide (a.1.Kind = a.2.1.Kind))) (some (false, ())) (cond (!decide (a.1.Line = a.2.1.Line)) (some (false, ())) ((f44 (a.1.At, a.2.1.At, ())).bind fun x1 => cond (!x1.1) (some (false, ())) (cond (!(decide (a.1.Heading = a.2.1.Heading))) (some (false, ())) (cond (!(decide (a.1.Tilt = a.2.1.Tilt))) (some (false, ())) (cond (!(decide (a.1.Most = a.2.1.Most))) (some (false, ())) (some (true, ()))))))))
def E82 (f44 : Place × Place × Unit → Option (Bool × Unit)) : Env := envL [(44, mkE p44 r44 false f44)]
noncomputable def L82 (f44 : Place × Place × Unit → Option (Bool × Unit)) : LEnv (densS (muts p82 ++ r82)) := lenv []
theorem e82 (f44 : Place × Place × Unit → Option (Bool × Unit)) (a : densS p82) : runF (E82 f44) tab2 (fun _ => false) p82 r82 Proofs.Tryz.f82 (L82 f44) a = F82 f44 a := by kernel_rfl
theorem ok82 {f44 : Place × Place × Unit → Option (Bool × Unit)} (h44 : OK Proofs.Tryz.prog 44 (mkE p44 r44 false f44)) : OK Proofs.Tryz.prog 82 (mkE p82 r82 false (F82 f44)) :=
  fn_ok tab_ok2 (envL_ok (l := [(44, mkE p44 r44 false f44)]) (OKs.cons h44 OKs.nil)) mixed2 (ann := (fun _ => false)) (L := L82 f44) (fn := Proofs.Tryz.f82) (c := bodyC Proofs.Tryz.f82) (ls := []) Proofs.Tryz.func82 (by kernel_rfl) (by kernel_rfl) (by kernel_rfl) (by kernel_rfl)
    LoopsP.nil (e82 f44)
/-! laws.eqDeviceS -/
def p41 : List SP := [.one (.r .device), .one (.r .device)]
def r41 : List SP := [.one (.bool)]
def q41_0 : List SP := pat 27 0 [(0, .one (.r .device)), (1, .one (.r .device)), (5, .one (.int .i64))]
noncomputable def s41_0 (f82 : Device × Device × Unit → Option (Bool × Unit)) (t1 : List Device × List Device × Int × Unit) (rec K : List Device × List Device × Int × Unit → Option (Bool × Unit)) : Option (Bool × Unit) :=
  cond (decide (t1.2.2.1 < (Int.ofNat (List.length t1.1)))) (rdL t1.1 t1.2.2.1 fun d2 => rdL t1.2.1 t1.2.2.1 fun d3 => (f82 (d2, d3, ())).bind fun x4 => cond (!x4.1) (some (false, ())) (rec (t1.1, t1.2.1, (w64 (t1.2.2.1 + 1)), ()))) (K (t1.1, t1.2.1, t1.2.2.1, ()))
noncomputable def F41 (f82 : Device × Device × Unit → Option (Bool × Unit)) (a : List Device × List Device × Unit) : Option (Bool × Unit) :=
  cond (!(decide ((Int.ofNat (List.length a.1)) = (Int.ofNat (List.length a.2.1))))) (some (false, ())) (iterF (s41_0 f82) fuel (a.1, a.2.1, 0, ()) fun t5 => some (true, ()))
def E41 (f82 : Device × Device × Unit → Option (Bool × Unit)) : Env := envL [(82, mkE p82 r82 false f82)]
noncomputable def L41 (f82 : Device × Device × Unit → Option (Bool × Unit)) : LEnv (densS (muts p41 ++ r41)) := lenv [(0, loopL (R := densS (muts p41 ++ r41)) q41_0 (s41_0 f82))]
theorem e41_0 (f82 : Device × Device × Unit → Option (Bool × Unit)) (X : Nat → St → Option (densS (muts p41 ++ r41))) (rec K : densS q41_0 → Option (densS (muts p41 ++ r41))) (t : densS q41_0) :
    ev (E41 f82) tab2 (fun _ => false) (L41 f82) (retK tab2 p41 r41 Proofs.Tryz.f41.results.toList) (loopC Proofs.Tryz.f41 0) (fun i s => cond (Nat.beq i 0) (decK 100 q41_0 s K) (X i s)) (fun s => decK 100 q41_0 s rec) (enc q41_0 t) = s41_0 f82 t rec K := by kernel_rfl
theorem e41 (f82 : Device × Device × Unit → Option (Bool × Unit)) (a : densS p41) : runF (E41 f82) tab2 (fun _ => false) p41 r41 Proofs.Tryz.f41 (L41 f82) a = F41 f82 a := by kernel_rfl
theorem ok41 {f82 : Device × Device × Unit → Option (Bool × Unit)} (h82 : OK Proofs.Tryz.prog 82 (mkE p82 r82 false f82)) : OK Proofs.Tryz.prog 41 (mkE p41 r41 false (F41 f82)) :=
  fn_ok tab_ok2 (envL_ok (l := [(82, mkE p82 r82 false f82)]) (OKs.cons h82 OKs.nil)) mixed2 (ann := (fun _ => false)) (L := L41 f82) (fn := Proofs.Tryz.f41) (c := bodyC Proofs.Tryz.f41) (ls := [(0, loopC Proofs.Tryz.f41 0)]) Proofs.Tryz.func41 (by kernel_rfl) (by kernel_rfl) (by kernel_rfl) (by kernel_rfl)
    (LoopsP.cons q41_0 (s41_0 f82) rfl (e41_0 f82) LoopsP.nil) (e41 f82)
/-! laws.eqCue -/
def p83 : List SP := [.t .cue, .t .cue]
def r83 : List SP := [.one (.bool)]
noncomputable def F83 (a : Cue × Cue × Unit) : Option (Bool × Unit) :=
  cond (!(decide (a.1.Tick = a.2.1.Tick))) (some (false, ())) (cond (!decide (a.1.Name = a.2.1.Name)) (some (false, ())) (cond (!(decide (a.1.Level = a.2.1.Level))) (some (false, ())) (cond (!(decide (a.1.Ramp = a.2.1.Ramp))) (some (false, ())) (some (true, ())))))
def E83 : Env := envL []
noncomputable def L83 : LEnv (densS (muts p83 ++ r83)) := lenv []
theorem e83 (a : densS p83) : runF (E83) tab2 (fun _ => false) p83 r83 Proofs.Tryz.f83 (L83) a = F83 a := by kernel_rfl
theorem ok83 : OK Proofs.Tryz.prog 83 (mkE p83 r83 false (F83)) :=
  fn_ok tab_ok2 (envL_ok (l := []) OKs.nil) mixed2 (ann := (fun _ => false)) (L := L83) (fn := Proofs.Tryz.f83) (c := bodyC Proofs.Tryz.f83) (ls := []) Proofs.Tryz.func83 (by kernel_rfl) (by kernel_rfl) (by kernel_rfl) (by kernel_rfl)
    LoopsP.nil (e83)
/-! laws.eqCueS -/
def p42 : List SP := [.one (.r .cue), .one (.r .cue)]
def r42 : List SP := [.one (.bool)]
def q42_0 : List SP := pat 27 0 [(0, .one (.r .cue)), (1, .one (.r .cue)), (5, .one (.int .i64))]
noncomputable def s42_0 (f83 : Cue × Cue × Unit → Option (Bool × Unit)) (t1 : List Cue × List Cue × Int × Unit) (rec K : List Cue × List Cue × Int × Unit → Option (Bool × Unit)) : Option (Bool × Unit) :=
  cond (decide (t1.2.2.1 < (Int.ofNat (List.length t1.1)))) (rdL t1.1 t1.2.2.1 fun d2 => rdL t1.2.1 t1.2.2.1 fun d3 => (f83 (d2, d3, ())).bind fun x4 => cond (!x4.1) (some (false, ())) (rec (t1.1, t1.2.1, (w64 (t1.2.2.1 + 1)), ()))) (K (t1.1, t1.2.1, t1.2.2.1, ()))
noncomputable def F42 (f83 : Cue × Cue × Unit → Option (Bool × Unit)) (a : List Cue × List Cue × Unit) : Option (Bool × Unit) :=
  cond (!(decide ((Int.ofNat (List.length a.1)) = (Int.ofNat (List.length a.2.1))))) (some (false, ())) (iterF (s42_0 f83) fuel (a.1, a.2.1, 0, ()) fun t5 => some (true, ()))
def E42 (f83 : Cue × Cue × Unit → Option (Bool × Unit)) : Env := envL [(83, mkE p83 r83 false f83)]
noncomputable def L42 (f83 : Cue × Cue × Unit → Option (Bool × Unit)) : LEnv (densS (muts p42 ++ r42)) := lenv [(0, loopL (R := densS (muts p42 ++ r42)) q42_0 (s42_0 f83))]
theorem e42_0 (f83 : Cue × Cue × Unit → Option (Bool × Unit)) (X : Nat → St → Option (densS (muts p42 ++ r42))) (rec K : densS q42_0 → Option (densS (muts p42 ++ r42))) (t : densS q42_0) :
    ev (E42 f83) tab2 (fun _ => false) (L42 f83) (retK tab2 p42 r42 Proofs.Tryz.f42.results.toList) (loopC Proofs.Tryz.f42 0) (fun i s => cond (Nat.beq i 0) (decK 100 q42_0 s K) (X i s)) (fun s => decK 100 q42_0 s rec) (enc q42_0 t) = s42_0 f83 t rec K := by kernel_rfl
theorem e42 (f83 : Cue × Cue × Unit → Option (Bool × Unit)) (a : densS p42) : runF (E42 f83) tab2 (fun _ => false) p42 r42 Proofs.Tryz.f42 (L42 f83) a = F42 f83 a := by kernel_rfl
theorem ok42 {f83 : Cue × Cue × Unit → Option (Bool × Unit)} (h83 : OK Proofs.Tryz.prog 83 (mkE p83 r83 false f83)) : OK Proofs.Tryz.prog 42 (mkE p42 r42 false (F42 f83)) :=
  fn_ok tab_ok2 (envL_ok (l := [(83, mkE p83 r83 false f83)]) (OKs.cons h83 OKs.nil)) mixed2 (ann := (fun _ => false)) (L := L42 f83) (fn := Proofs.Tryz.f42) (c := bodyC Proofs.Tryz.f42) (ls := [(0, loopC Proofs.Tryz.f42 0)]) Proofs.Tryz.func42 (by kernel_rfl) (by kernel_rfl) (by kernel_rfl) (by kernel_rfl)
    (LoopsP.cons q42_0 (s42_0 f83) rfl (e42_0 f83) LoopsP.nil) (e42 f83)
/-! laws.eqGust -/
def p84 : List SP := [.t .gust, .t .gust]
def r84 : List SP := [.one (.bool)]
noncomputable def F84 (f44 : Place × Place × Unit → Option (Bool × Unit)) (a : Gust × Gust × Unit) : Option (Bool × Unit) :=
  cond (!(decide (a.1.From = a.2.1.From))) (some (false, ())) ((f44 (a.1.Drift, a.2.1.Drift, ())).bind fun x1 => cond (!x1.1) (some (false, ())) (some (true, ())))
def E84 (f44 : Place × Place × Unit → Option (Bool × Unit)) : Env := envL [(44, mkE p44 r44 false f44)]
noncomputable def L84 (f44 : Place × Place × Unit → Option (Bool × Unit)) : LEnv (densS (muts p84 ++ r84)) := lenv []
theorem e84 (f44 : Place × Place × Unit → Option (Bool × Unit)) (a : densS p84) : runF (E84 f44) tab2 (fun _ => false) p84 r84 Proofs.Tryz.f84 (L84 f44) a = F84 f44 a := by kernel_rfl
theorem ok84 {f44 : Place × Place × Unit → Option (Bool × Unit)} (h44 : OK Proofs.Tryz.prog 44 (mkE p44 r44 false f44)) : OK Proofs.Tryz.prog 84 (mkE p84 r84 false (F84 f44)) :=
  fn_ok tab_ok2 (envL_ok (l := [(44, mkE p44 r44 false f44)]) (OKs.cons h44 OKs.nil)) mixed2 (ann := (fun _ => false)) (L := L84 f44) (fn := Proofs.Tryz.f84) (c := bodyC Proofs.Tryz.f84) (ls := []) Proofs.Tryz.func84 (by kernel_rfl) (by kernel_rfl) (by kernel_rfl) (by kernel_rfl)
    LoopsP.nil (e84 f44)
/-! laws.eqGustS -/
def p43 : List SP := [.one (.r .gust), .one (.r .gust)]
def r43 : List SP := [.one (.bool)]
def q43_0 : List SP := pat 27 0 [(0, .one (.r .gust)), (1, .one (.r .gust)), (5, .one (.int .i64))]
noncomputable def s43_0 (f84 : Gust × Gust × Unit → Option (Bool × Unit)) (t1 : List Gust × List Gust × Int × Unit) (rec K : List Gust × List Gust × Int × Unit → Option (Bool × Unit)) : Option (Bool × Unit) :=
  cond (decide (t1.2.2.1 < (Int.ofNat (List.length t1.1)))) (rdL t1.1 t1.2.2.1 fun d2 => rdL t1.2.1 t1.2.2.1 fun d3 => (f84 (d2, d3, ())).bind fun x4 => cond (!x4.1) (some (false, ())) (rec (t1.1, t1.2.1, (w64 (t1.2.2.1 + 1)), ()))) (K (t1.1, t1.2.1, t1.2.2.1, ()))
noncomputable def F43 (f84 : Gust × Gust × Unit → Option (Bool × Unit)) (a : List Gust × List Gust × Unit) : Option (Bool × Unit) :=
  cond (!(decide ((Int.ofNat (List.length a.1)) = (Int.ofNat (List.length a.2.1))))) (some (false, ())) (iterF (s43_0 f84) fuel (a.1, a.2.1, 0, ()) fun t5 => some (true, ()))
def E43 (f84 : Gust × Gust × Unit → Option (Bool × Unit)) : Env := envL [(84, mkE p84 r84 false f84)]
noncomputable def L43 (f84 : Gust × Gust × Unit → Option (Bool × Unit)) : LEnv (densS (muts p43 ++ r43)) := lenv [(0, loopL (R := densS (muts p43 ++ r43)) q43_0 (s43_0 f84))]
theorem e43_0 (f84 : Gust × Gust × Unit → Option (Bool × Unit)) (X : Nat → St → Option (densS (muts p43 ++ r43))) (rec K : densS q43_0 → Option (densS (muts p43 ++ r43))) (t : densS q43_0) :
    ev (E43 f84) tab2 (fun _ => false) (L43 f84) (retK tab2 p43 r43 Proofs.Tryz.f43.results.toList) (loopC Proofs.Tryz.f43 0) (fun i s => cond (Nat.beq i 0) (decK 100 q43_0 s K) (X i s)) (fun s => decK 100 q43_0 s rec) (enc q43_0 t) = s43_0 f84 t rec K := by kernel_rfl
theorem e43 (f84 : Gust × Gust × Unit → Option (Bool × Unit)) (a : densS p43) : runF (E43 f84) tab2 (fun _ => false) p43 r43 Proofs.Tryz.f43 (L43 f84) a = F43 f84 a := by kernel_rfl
theorem ok43 {f84 : Gust × Gust × Unit → Option (Bool × Unit)} (h84 : OK Proofs.Tryz.prog 84 (mkE p84 r84 false f84)) : OK Proofs.Tryz.prog 43 (mkE p43 r43 false (F43 f84)) :=
  fn_ok tab_ok2 (envL_ok (l := [(84, mkE p84 r84 false f84)]) (OKs.cons h84 OKs.nil)) mixed2 (ann := (fun _ => false)) (L := L43 f84) (fn := Proofs.Tryz.f43) (c := bodyC Proofs.Tryz.f43) (ls := [(0, loopC Proofs.Tryz.f43 0)]) Proofs.Tryz.func43 (by kernel_rfl) (by kernel_rfl) (by kernel_rfl) (by kernel_rfl)
    (LoopsP.cons q43_0 (s43_0 f84) rfl (e43_0 f84) LoopsP.nil) (e43 f84)
/-! laws.eqShow -/
def p12 : List SP := [.agg [.r .device, .r .cue, .r .gust, .int .i64], .agg [.r .device, .r .cue, .r .gust, .int .i64]]
def r12 : List SP := [.one (.bool)]
noncomputable def F12 (f41 : List Device × List Device × Unit → Option (Bool × Unit)) (f42 : List Cue × List Cue × Unit → Option (Bool × Unit)) (f43 : List Gust × List Gust × Unit → Option (Bool × Unit)) (a : ShD × ShD × Unit) : Option (Bool × Unit) :=
  (f41 (a.1.1, a.2.1.1, ())).bind fun x1 => cond (!x1.1) (some (false, ())) ((f42 (a.1.2.1, a.2.1.2.1, ())).bind fun x2 => cond (!x2.1) (some (false, ())) ((f43 (a.1.2.2.1, a.2.1.2.2.1, ())).bind fun x3 => cond (!x3.1) (some (false, ())) (cond (!(decide (a.1.2.2.2.1 = a.2.1.2.2.2.1))) (some (false, ())) (some (true, ())))))
def E12 (f41 : List Device × List Device × Unit → Option (Bool × Unit)) (f42 : List Cue × List Cue × Unit → Option (Bool × Unit)) (f43 : List Gust × List Gust × Unit → Option (Bool × Unit)) : Env := envL [(41, mkE p41 r41 false f41), (42, mkE p42 r42 false f42), (43, mkE p43 r43 false f43)]
noncomputable def L12 (f41 : List Device × List Device × Unit → Option (Bool × Unit)) (f42 : List Cue × List Cue × Unit → Option (Bool × Unit)) (f43 : List Gust × List Gust × Unit → Option (Bool × Unit)) : LEnv (densS (muts p12 ++ r12)) := lenv []
theorem e12 (f41 : List Device × List Device × Unit → Option (Bool × Unit)) (f42 : List Cue × List Cue × Unit → Option (Bool × Unit)) (f43 : List Gust × List Gust × Unit → Option (Bool × Unit)) (a : densS p12) : runF (E12 f41 f42 f43) tab2 (fun _ => false) p12 r12 Proofs.Tryz.f12 (L12 f41 f42 f43) a = F12 f41 f42 f43 a := by kernel_rfl
theorem ok12 {f41 : List Device × List Device × Unit → Option (Bool × Unit)} {f42 : List Cue × List Cue × Unit → Option (Bool × Unit)} {f43 : List Gust × List Gust × Unit → Option (Bool × Unit)} (h41 : OK Proofs.Tryz.prog 41 (mkE p41 r41 false f41)) (h42 : OK Proofs.Tryz.prog 42 (mkE p42 r42 false f42)) (h43 : OK Proofs.Tryz.prog 43 (mkE p43 r43 false f43)) : OK Proofs.Tryz.prog 12 (mkE p12 r12 false (F12 f41 f42 f43)) :=
  fn_ok tab_ok2 (envL_ok (l := [(41, mkE p41 r41 false f41), (42, mkE p42 r42 false f42), (43, mkE p43 r43 false f43)]) (OKs.cons h41 (OKs.cons h42 (OKs.cons h43 OKs.nil)))) mixed2 (ann := (fun _ => false)) (L := L12 f41 f42 f43) (fn := Proofs.Tryz.f12) (c := bodyC Proofs.Tryz.f12) (ls := []) Proofs.Tryz.func12 (by kernel_rfl) (by kernel_rfl) (by kernel_rfl) (by kernel_rfl)
    LoopsP.nil (e12 f41 f42 f43)
/-! laws.eqPlaceS -/
def p13 : List SP := [.one (.r .place), .one (.r .place)]
def r13 : List SP := [.one (.bool)]
def q13_0 : List SP := pat 27 0 [(0, .one (.r .place)), (1, .one (.r .place)), (5, .one (.int .i64))]
noncomputable def s13_0 (f44 : Place × Place × Unit → Option (Bool × Unit)) (t1 : List Place × List Place × Int × Unit) (rec K : List Place × List Place × Int × Unit → Option (Bool × Unit)) : Option (Bool × Unit) :=
  cond (decide (t1.2.2.1 < (Int.ofNat (List.length t1.1)))) (rdL t1.1 t1.2.2.1 fun d2 => rdL t1.2.1 t1.2.2.1 fun d3 => (f44 (d2, d3, ())).bind fun x4 => cond (!x4.1) (some (false, ())) (rec (t1.1, t1.2.1, (w64 (t1.2.2.1 + 1)), ()))) (K (t1.1, t1.2.1, t1.2.2.1, ()))
noncomputable def F13 (f44 : Place × Place × Unit → Option (Bool × Unit)) (a : List Place × List Place × Unit) : Option (Bool × Unit) :=
  cond (!(decide ((Int.ofNat (List.length a.1)) = (Int.ofNat (List.length a.2.1))))) (some (false, ())) (iterF (s13_0 f44) fuel (a.1, a.2.1, 0, ()) fun t5 => some (true, ()))
def E13 (f44 : Place × Place × Unit → Option (Bool × Unit)) : Env := envL [(44, mkE p44 r44 false f44)]
noncomputable def L13 (f44 : Place × Place × Unit → Option (Bool × Unit)) : LEnv (densS (muts p13 ++ r13)) := lenv [(0, loopL (R := densS (muts p13 ++ r13)) q13_0 (s13_0 f44))]
theorem e13_0 (f44 : Place × Place × Unit → Option (Bool × Unit)) (X : Nat → St → Option (densS (muts p13 ++ r13))) (rec K : densS q13_0 → Option (densS (muts p13 ++ r13))) (t : densS q13_0) :
    ev (E13 f44) tab2 (fun _ => false) (L13 f44) (retK tab2 p13 r13 Proofs.Tryz.f13.results.toList) (loopC Proofs.Tryz.f13 0) (fun i s => cond (Nat.beq i 0) (decK 100 q13_0 s K) (X i s)) (fun s => decK 100 q13_0 s rec) (enc q13_0 t) = s13_0 f44 t rec K := by kernel_rfl
theorem e13 (f44 : Place × Place × Unit → Option (Bool × Unit)) (a : densS p13) : runF (E13 f44) tab2 (fun _ => false) p13 r13 Proofs.Tryz.f13 (L13 f44) a = F13 f44 a := by kernel_rfl
theorem ok13 {f44 : Place × Place × Unit → Option (Bool × Unit)} (h44 : OK Proofs.Tryz.prog 44 (mkE p44 r44 false f44)) : OK Proofs.Tryz.prog 13 (mkE p13 r13 false (F13 f44)) :=
  fn_ok tab_ok2 (envL_ok (l := [(44, mkE p44 r44 false f44)]) (OKs.cons h44 OKs.nil)) mixed2 (ann := (fun _ => false)) (L := L13 f44) (fn := Proofs.Tryz.f13) (c := bodyC Proofs.Tryz.f13) (ls := [(0, loopC Proofs.Tryz.f13 0)]) Proofs.Tryz.func13 (by kernel_rfl) (by kernel_rfl) (by kernel_rfl) (by kernel_rfl)
    (LoopsP.cons q13_0 (s13_0 f44) rfl (e13_0 f44) LoopsP.nil) (e13 f44)
/-! laws.FnExactSafetyLine -/
def p3 : List SP := [.agg [.r .device, .r .cue, .r .gust, .int .i64], .one (.r .place), .t .box]
def r3 : List SP := [.one (.bool)]
noncomputable def F3 (f5 : ShD × Int × Unit → Option (Int × Unit)) (f6 : List Place × Int × Unit → Option (Int × Unit)) (f8 : ShD × Unit → Option (ShD × Unit)) (f9 : List Place × Unit → Option (List Place × Unit)) (f10 : Box × Unit → Option (Box × Unit)) (f7 : ShD × List Place × Box × Unit → Option (Str × Unit)) (f11 : ShD × List Place × Box × Unit → Option (Str × Unit)) (f12 : ShD × ShD × Unit → Option (Bool × Unit)) (f13 : List Place × List Place × Unit → Option (Bool × Unit)) (a : ShD × List Place × Box × Unit) : Option (Bool × Unit) :=
  (f5 ((a.1.1, a.1.2.1, a.1.2.2.1, a.1.2.2.2.1, ()), 1048576, ())).bind fun x1 => cond (decide (x1.1 < 0)) (some (true, ())) ((f6 (a.2.1, x1.1, ())).bind fun x2 => cond (decide (x2.1 < 0)) (some (true, ())) ((f8 ((a.1.1, a.1.2.1, a.1.2.2.1, a.1.2.2.2.1, ()), ())).bind fun x3 => (f9 (a.2.1, ())).bind fun x4 => (f10 (a.2.2.1, ())).bind fun x5 => (f7 ((x3.1.1, x3.1.2.1, x3.1.2.2.1, x3.1.2.2.2.1, ()), x4.1, x5.1, ())).bind fun x6 => (f8 ((a.1.1, a.1.2.1, a.1.2.2.1, a.1.2.2.2.1, ()), ())).bind fun x7 => (f9 (a.2.1, ())).bind fun x8 => (f10 (a.2.2.1, ())).bind fun x9 => (f11 ((x7.1.1, x7.1.2.1, x7.1.2.2.1, x7.1.2.2.2.1, ()), x8.1, x9.1, ())).bind fun x10 => cond (!decide (x10.1 = x6.1)) (some (false, ())) ((f8 ((a.1.1, a.1.2.1, a.1.2.2.1, a.1.2.2.2.1, ()), ())).bind fun x11 => (f12 ((x7.1.1, x7.1.2.1, x7.1.2.2.1, x7.1.2.2.2.1, ()), (x11.1.1, x11.1.2.1, x11.1.2.2.1, x11.1.2.2.2.1, ()), ())).bind fun x12 => cond (!x12.1) (some (false, ())) ((f9 (a.2.1, ())).bind fun x13 => (f13 (x8.1, x13.1, ())).bind fun x14 => cond (!x14.1) (some (false, ())) (some (true, ()))))))
def E3 (f5 : ShD × Int × Unit → Option (Int × Unit)) (f6 : List Place × Int × Unit → Option (Int × Unit)) (f8 : ShD × Unit → Option (ShD × Unit)) (f9 : List Place × Unit → Option (List Place × Unit)) (f10 : Box × Unit → Option (Box × Unit)) (f7 : ShD × List Place × Box × Unit → Option (Str × Unit)) (f11 : ShD × List Place × Box × Unit → Option (Str × Unit)) (f12 : ShD × ShD × Unit → Option (Bool × Unit)) (f13 : List Place × List Place × Unit → Option (Bool × Unit)) : Env := envL [(5, mkE p5 r5 false f5), (6, mkE p6 r6 false f6), (8, mkE p8 r8 false f8), (9, mkE p9 r9 false f9), (10, mkE p10 r10 false f10), (7, mkE p7 r7 false f7), (11, mkE p11 r11 false f11), (12, mkE p12 r12 false f12), (13, mkE p13 r13 false f13)]
noncomputable def L3 (f5 : ShD × Int × Unit → Option (Int × Unit)) (f6 : List Place × Int × Unit → Option (Int × Unit)) (f8 : ShD × Unit → Option (ShD × Unit)) (f9 : List Place × Unit → Option (List Place × Unit)) (f10 : Box × Unit → Option (Box × Unit)) (f7 : ShD × List Place × Box × Unit → Option (Str × Unit)) (f11 : ShD × List Place × Box × Unit → Option (Str × Unit)) (f12 : ShD × ShD × Unit → Option (Bool × Unit)) (f13 : List Place × List Place × Unit → Option (Bool × Unit)) : LEnv (densS (muts p3 ++ r3)) := lenv []
theorem e3 (f5 : ShD × Int × Unit → Option (Int × Unit)) (f6 : List Place × Int × Unit → Option (Int × Unit)) (f8 : ShD × Unit → Option (ShD × Unit)) (f9 : List Place × Unit → Option (List Place × Unit)) (f10 : Box × Unit → Option (Box × Unit)) (f7 : ShD × List Place × Box × Unit → Option (Str × Unit)) (f11 : ShD × List Place × Box × Unit → Option (Str × Unit)) (f12 : ShD × ShD × Unit → Option (Bool × Unit)) (f13 : List Place × List Place × Unit → Option (Bool × Unit)) (a : densS p3) : runF (E3 f5 f6 f8 f9 f10 f7 f11 f12 f13) tab2 (fun _ => false) p3 r3 Proofs.Tryz.f3 (L3 f5 f6 f8 f9 f10 f7 f11 f12 f13) a = F3 f5 f6 f8 f9 f10 f7 f11 f12 f13 a := by kernel_rfl
theorem ok3 {f5 : ShD × Int × Unit → Option (Int × Unit)} {f6 : List Place × Int × Unit → Option (Int × Unit)} {f8 : ShD × Unit → Option (ShD × Unit)} {f9 : List Place × Unit → Option (List Place × Unit)} {f10 : Box × Unit → Option (Box × Unit)} {f7 : ShD × List Place × Box × Unit → Option (Str × Unit)} {f11 : ShD × List Place × Box × Unit → Option (Str × Unit)} {f12 : ShD × ShD × Unit → Option (Bool × Unit)} {f13 : List Place × List Place × Unit → Option (Bool × Unit)} (h5 : OK Proofs.Tryz.prog 5 (mkE p5 r5 false f5)) (h6 : OK Proofs.Tryz.prog 6 (mkE p6 r6 false f6)) (h8 : OK Proofs.Tryz.prog 8 (mkE p8 r8 false f8)) (h9 : OK Proofs.Tryz.prog 9 (mkE p9 r9 false f9)) (h10 : OK Proofs.Tryz.prog 10 (mkE p10 r10 false f10)) (h7 : OK Proofs.Tryz.prog 7 (mkE p7 r7 false f7)) (h11 : OK Proofs.Tryz.prog 11 (mkE p11 r11 false f11)) (h12 : OK Proofs.Tryz.prog 12 (mkE p12 r12 false f12)) (h13 : OK Proofs.Tryz.prog 13 (mkE p13 r13 false f13)) : OK Proofs.Tryz.prog 3 (mkE p3 r3 false (F3 f5 f6 f8 f9 f10 f7 f11 f12 f13)) :=
  fn_ok tab_ok2 (envL_ok (l := [(5, mkE p5 r5 false f5), (6, mkE p6 r6 false f6), (8, mkE p8 r8 false f8), (9, mkE p9 r9 false f9), (10, mkE p10 r10 false f10), (7, mkE p7 r7 false f7), (11, mkE p11 r11 false f11), (12, mkE p12 r12 false f12), (13, mkE p13 r13 false f13)]) (OKs.cons h5 (OKs.cons h6 (OKs.cons h8 (OKs.cons h9 (OKs.cons h10 (OKs.cons h7 (OKs.cons h11 (OKs.cons h12 (OKs.cons h13 OKs.nil)))))))))) mixed2 (ann := (fun _ => false)) (L := L3 f5 f6 f8 f9 f10 f7 f11 f12 f13) (fn := Proofs.Tryz.f3) (c := bodyC Proofs.Tryz.f3) (ls := []) Proofs.Tryz.func3 (by kernel_rfl) (by kernel_rfl) (by kernel_rfl) (by kernel_rfl)
    LoopsP.nil (e3 f5 f6 f8 f9 f10 f7 f11 f12 f13)
end Ev
