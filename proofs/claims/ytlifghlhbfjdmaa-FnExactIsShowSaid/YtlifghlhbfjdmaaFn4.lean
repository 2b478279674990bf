/- Functions of the program, as the evaluator sees them. -/
import Derived.Test.YtlifghlhbfjdmaaFn3
set_option linter.unusedVariables false
set_option maxRecDepth 100000
namespace Ev
open Go
def tab4 : Tab := [(3, ⟨1, false, 8, [.int .i64 0], [], .int .i64, false⟩),
  (4, ⟨1, false, 1, [.bool false], [], .bool, false⟩),
  (9, ⟨1, false, 16, [.str []], [], .str, false⟩),
  (44, ⟨1, false, 24, [.nils], [], .sl .cue, false⟩),
  (52, ⟨2, true, 16, [.int .i64 0, .int .i64 0], [(0, 1, false), (1, 1, false)], .struct, false⟩),
  (57, ⟨2, true, 16, [.int .i64 0, .int .i64 0], [(0, 1, false), (1, 1, false)], .struct, true⟩),
  (70, ⟨1, false, 24, [.nils], [], .sl .cue, false⟩),
  (77, ⟨1, false, 24, [.nils], [], .sl .device, false⟩),
  (78, ⟨1, false, 24, [.nils], [], .sl .gust, false⟩),
  (80, ⟨4, true, 80, [.nils, .nils, .nils, .int .i64 0], [(0, 1, false), (1, 1, false), (2, 1, false), (3, 1, false)], .struct, false⟩),
  (88, ⟨8, true, 80, [.str [], .int .i64 0, .str [], .int .i64 0, .int .i64 0, .int .i64 0, .int .i64 0, .int .i64 0], [(0, 1, false), (1, 1, false), (2, 1, false), (3, 2, true), (5, 1, false), (6, 1, false), (7, 1, false)], .struct, true⟩),
  (97, ⟨8, true, 80, [.str [], .int .i64 0, .str [], .int .i64 0, .int .i64 0, .int .i64 0, .int .i64 0, .int .i64 0], [(0, 1, false), (1, 1, false), (2, 1, false), (3, 2, true), (5, 1, false), (6, 1, false), (7, 1, false)], .struct, false⟩),
  (104, ⟨1, false, 24, [.nils], [], .sl .device, false⟩),
  (105, ⟨1, false, 24, [.nils], [], .sl .gust, false⟩),
  (107, ⟨4, true, 80, [.nils, .nils, .nils, .int .i64 0], [(0, 1, false), (1, 1, false), (2, 1, false), (3, 1, false)], .struct, false⟩),
  (182, ⟨3, true, 24, [.int .i64 0, .int .i64 0, .int .i64 0], [(0, 1, false), (1, 2, true)], .struct, false⟩),
  (185, ⟨3, true, 24, [.int .i64 0, .int .i64 0, .int .i64 0], [(0, 1, false), (1, 2, true)], .struct, false⟩)]
theorem tab_ok4 : TabOK Proofs.Try.prog tab4 := tab_of2 (by kernel_rfl) (by kernel_rfl)
theorem mixed4 : Proofs.Try.prog.follows .mixedOrders = true := by kernel_rfl
/-! laws.szDeviceS -/
def p126 : List SP := [.one (.r .device), .one (.int .i64)]
def r126 : List SP := [.one (.int .i64)]
def q126_0 : List SP := pat 27 0 [(0, .one (.r .device)), (1, .one (.int .i64)), (5, .one (.int .i64))]
noncomputable def s126_0 (f61 : Device × Int × Unit → Option (Int × Unit)) (t1 : List Device × Int × Int × Unit) (rec K : List Device × Int × Int × Unit → Option (Int × Unit)) : Option (Int × Unit) :=
  cond (decide (t1.2.2.1 < (Int.ofNat (List.length t1.1)))) (rdL t1.1 t1.2.2.1 fun d2 => (f61 (d2, t1.2.1, ())).bind fun x3 => cond (decide (x3.1 < 0)) (some ((-1), ())) (rec (t1.1, x3.1, (w64 (t1.2.2.1 + 1)), ()))) (K (t1.1, t1.2.1, t1.2.2.1, ()))
noncomputable def F126 (f61 : Device × Int × Unit → Option (Int × Unit)) (a : List Device × Int × Unit) : Option (Int × Unit) :=
  cond (decide ((w64 (a.2.1 - (Int.ofNat (List.length a.1)))) < 0)) (some ((-1), ())) (iterF (s126_0 f61) fuel (a.1, (w64 (a.2.1 - (Int.ofNat (List.length a.1)))), 0, ()) fun t4 => some (t4.2.1, ()))
def E126 (f61 : Device × Int × Unit → Option (Int × Unit)) : Env := envL [(61, mkE p61 r61 false f61)]
noncomputable def L126 (f61 : Device × Int × Unit → Option (Int × Unit)) : LEnv (densS (muts p126 ++ r126)) := lenv [(0, loopL (R := densS (muts p126 ++ r126)) q126_0 (s126_0 f61))]
theorem e126_0 (f61 : Device × Int × Unit → Option (Int × Unit)) (X : Nat → St → Option (densS (muts p126 ++ r126))) (rec K : densS q126_0 → Option (densS (muts p126 ++ r126))) (t : densS q126_0) :
    ev (E126 f61) tab4 (fun _ => false) (L126 f61) (retK tab4 p126 r126 Proofs.Try.f126.results.toList) (loopC Proofs.Try.f126 0) (fun i s => cond (Nat.beq i 0) (decK 100 q126_0 s K) (X i s)) (fun s => decK 100 q126_0 s rec) (enc q126_0 t) = s126_0 f61 t rec K := by kernel_rfl
theorem e126 (f61 : Device × Int × Unit → Option (Int × Unit)) (a : densS p126) : runF (E126 f61) tab4 (fun _ => false) p126 r126 Proofs.Try.f126 (L126 f61) a = F126 f61 a := by kernel_rfl
theorem ok126 {f61 : Device × Int × Unit → Option (Int × Unit)} (h61 : OK Proofs.Try.prog 61 (mkE p61 r61 false f61)) : OK Proofs.Try.prog 126 (mkE p126 r126 false (F126 f61)) :=
  fn_ok tab_ok4 (envL_ok (l := [(61, mkE p61 r61 false f61)]) (OKs.cons h61 OKs.nil)) mixed4 (ann := (fun _ => false)) (L := L126 f61) (fn := Proofs.Try.f126) (c := bodyC Proofs.Try.f126) (ls := [(0, loopC Proofs.Try.f126 0)]) Proofs.Try.func126 (by kernel_rfl) (by kernel_rfl) (by kernel_rfl) (by kernel_rfl)
    (LoopsP.cons q126_0 (s126_0 f61) rfl (e126_0 f61) LoopsP.nil) (e126 f61)
/-! laws.szGustS -/
def p127 : List SP := [.one (.r .gust), .one (.int .i64)]
def r127 : List SP := [.one (.int .i64)]
noncomputable def F127 (a : List Gust × Int × Unit) : Option (Int × Unit) :=
  cond (decide ((w64 (a.2.1 - (Int.ofNat (List.length a.1)))) < 0)) (some ((-1), ())) (some ((w64 (a.2.1 - (Int.ofNat (List.length a.1)))), ()))
def E127 : Env := envL []
noncomputable def L127 : LEnv (densS (muts p127 ++ r127)) := lenv []
theorem e127 (a : densS p127) : runF (E127) tab4 (fun _ => false) p127 r127 Proofs.Try.f127 (L127) a = F127 a := by kernel_rfl
theorem ok127 : OK Proofs.Try.prog 127 (mkE p127 r127 false (F127)) :=
  fn_ok tab_ok4 (envL_ok (l := []) OKs.nil) mixed4 (ann := (fun _ => false)) (L := L127) (fn := Proofs.Try.f127) (c := bodyC Proofs.Try.f127) (ls := []) Proofs.Try.func127 (by kernel_rfl) (by kernel_rfl) (by kernel_rfl) (by kernel_rfl)
    LoopsP.nil (e127)
/-! laws.szShow -/
def p65 : List SP := [.agg [.r .device, .r .cue, .r .gust, .int .i64], .one (.int .i64)]
def r65 : List SP := [.one (.int .i64)]
noncomputable def F65 (f126 : List Device × Int × Unit → Option (Int × Unit)) (f41 : List Cue × Int × Unit → Option (Int × Unit)) (f127 : List Gust × Int × Unit → Option (Int × Unit)) (a : (List Device × List Cue × List Gust × Int × Unit) × Int × Unit) : Option (Int × Unit) :=
  (f126 (a.1.1, a.2.1, ())).bind fun x1 => cond (decide (x1.1 < 0)) (some ((-1), ())) ((f41 (a.1.2.1, x1.1, ())).bind fun x2 => cond (decide (x2.1 < 0)) (some ((-1), ())) ((f127 (a.1.2.2.1, x2.1, ())).bind fun x3 => cond (decide (x3.1 < 0)) (some ((-1), ())) (some (x3.1, ()))))
def E65 (f126 : List Device × Int × Unit → Option (Int × Unit)) (f41 : List Cue × Int × Unit → Option (Int × Unit)) (f127 : List Gust × Int × Unit → Option (Int × Unit)) : Env := envL [(126, mkE p126 r126 false f126), (41, mkE p41 r41 false f41), (127, mkE p127 r127 false f127)]
noncomputable def L65 (f126 : List Device × Int × Unit → Option (Int × Unit)) (f41 : List Cue × Int × Unit → Option (Int × Unit)) (f127 : List Gust × Int × Unit → Option (Int × Unit)) : LEnv (densS (muts p65 ++ r65)) := lenv []
theorem e65 (f126 : List Device × Int × Unit → Option (Int × Unit)) (f41 : List Cue × Int × Unit → Option (Int × Unit)) (f127 : List Gust × Int × Unit → Option (Int × Unit)) (a : densS p65) : runF (E65 f126 f41 f127) tab4 (fun _ => false) p65 r65 Proofs.Try.f65 (L65 f126 f41 f127) a = F65 f126 f41 f127 a := by kernel_rfl
theorem ok65 {f126 : List Device × Int × Unit → Option (Int × Unit)} {f41 : List Cue × Int × Unit → Option (Int × Unit)} {f127 : List Gust × Int × Unit → Option (Int × Unit)} (h126 : OK Proofs.Try.prog 126 (mkE p126 r126 false f126)) (h41 : OK Proofs.Try.prog 41 (mkE p41 r41 false f41)) (h127 : OK Proofs.Try.prog 127 (mkE p127 r127 false f127)) : OK Proofs.Try.prog 65 (mkE p65 r65 false (F65 f126 f41 f127)) :=
  fn_ok tab_ok4 (envL_ok (l := [(126, mkE p126 r126 false f126), (41, mkE p41 r41 false f41), (127, mkE p127 r127 false f127)]) (OKs.cons h126 (OKs.cons h41 (OKs.cons h127 OKs.nil)))) mixed4 (ann := (fun _ => false)) (L := L65 f126 f41 f127) (fn := Proofs.Try.f65) (c := bodyC Proofs.Try.f65) (ls := []) Proofs.Try.func65 (by kernel_rfl) (by kernel_rfl) (by kernel_rfl) (by kernel_rfl)
    LoopsP.nil (e65 f126 f41 f127)
/-! laws.toDeviceS -/
def p130 : List SP := [.one (.r .device)]
def r130 : List SP := [.one (.o 0 .device)]
def q130_0 : List SP := pat 23 0 [(0, .one (.r .device)), (3, .one (.o 5000001 .device)), (4, .one (.int .i64))]
noncomputable def s130_0 (f63 : Device × Unit → Option (Device × Unit)) (t1 : List Device × List Device × Int × Unit) (rec K : List Device × List Device × Int × Unit → Option (List Device × Unit)) : Option (List Device × Unit) :=
  cond (decide (t1.2.2.1 < (Int.ofNat (List.length t1.1)))) (rdL t1.1 t1.2.2.1 fun d2 => (f63 (d2, ())).bind fun x3 => rdL t1.2.1 t1.2.2.1 fun _ => (t1.2.1[(Int.toNat t1.2.2.1)]?).bind fun d4 => rec (t1.1, (List.set t1.2.1 (Int.toNat t1.2.2.1) x3.1), (w64 (t1.2.2.1 + 1)), ())) (K (t1.1, t1.2.1, t1.2.2.1, ()))
noncomputable def F130 (f63 : Device × Unit → Option (Device × Unit)) (a : List Device × Unit) : Option (List Device × Unit) :=
  okIf (0 ≤ (Int.ofNat (List.length a.1))) (capK (Int.toNat (Int.ofNat (List.length a.1))) (iterF (s130_0 f63) fuel (a.1, (List.replicate (Int.toNat (Int.ofNat (List.length a.1))) (Ty.zero .device)), 0, ()) fun t5 => some (t5.2.1, ())))
def E130 (f63 : Device × Unit → Option (Device × Unit)) : Env := envL [(63, mkE p63 r63 false f63)]
noncomputable def L130 (f63 : Device × Unit → Option (Device × Unit)) : LEnv (densS (muts p130 ++ r130)) := lenv [(0, loopL (R := densS (muts p130 ++ r130)) q130_0 (s130_0 f63))]
theorem e130_0 (f63 : Device × Unit → Option (Device × Unit)) (X : Nat → St → Option (densS (muts p130 ++ r130))) (rec K : densS q130_0 → Option (densS (muts p130 ++ r130))) (t : densS q130_0) :
    ev (E130 f63) tab4 (fun _ => false) (L130 f63) (retK tab4 p130 r130 Proofs.Try.f130.results.toList) (loopC Proofs.Try.f130 0) (fun i s => cond (Nat.beq i 0) (decK 100 q130_0 s K) (X i s)) (fun s => decK 100 q130_0 s rec) (enc q130_0 t) = s130_0 f63 t rec K := by kernel_rfl
theorem e130 (f63 : Device × Unit → Option (Device × Unit)) (a : densS p130) : runF (E130 f63) tab4 (fun _ => false) p130 r130 Proofs.Try.f130 (L130 f63) a = F130 f63 a := by kernel_rfl
theorem ok130 {f63 : Device × Unit → Option (Device × Unit)} (h63 : OK Proofs.Try.prog 63 (mkE p63 r63 false f63)) : OK Proofs.Try.prog 130 (mkE p130 r130 false (F130 f63)) :=
  fn_ok tab_ok4 (envL_ok (l := [(63, mkE p63 r63 false f63)]) (OKs.cons h63 OKs.nil)) mixed4 (ann := (fun _ => false)) (L := L130 f63) (fn := Proofs.Try.f130) (c := bodyC Proofs.Try.f130) (ls := [(0, loopC Proofs.Try.f130 0)]) Proofs.Try.func130 (by kernel_rfl) (by kernel_rfl) (by kernel_rfl) (by kernel_rfl)
    (LoopsP.cons q130_0 (s130_0 f63) rfl (e130_0 f63) LoopsP.nil) (e130 f63)
/-! laws.toGust -/
def p176 : List SP := [.t .gust]
def r176 : List SP := [.t .gust]
noncomputable def F176 (f92 : Place × Unit → Option (Place × Unit)) (a : Gust × Unit) : Option (Gust × Unit) :=
  (f92 (a.1.Drift, ())).bind fun x1 => some ((⟨a.1.From, ⟨x1.1.X, x1.1.Y⟩⟩ : Gust), ())
def E176 (f92 : Place × Unit → Option (Place × Unit)) : Env := envL [(92, mkE p92 r92 false f92)]
noncomputable def L176 (f92 : Place × Unit → Option (Place × Unit)) : LEnv (densS (muts p176 ++ r176)) := lenv []
theorem e176 (f92 : Place × Unit → Option (Place × Unit)) (a : densS p176) : runF (E176 f92) tab4 (fun _ => false) p176 r176 Proofs.Try.f176 (L176 f92) a = F176 f92 a := by kernel_rfl
theorem ok176 {f92 : Place × Unit → Option (Place × Unit)} (h92 : OK Proofs.Try.prog 92 (mkE p92 r92 false f92)) : OK Proofs.Try.prog 176 (mkE p176 r176 false (F176 f92)) :=
  fn_ok tab_ok4 (envL_ok (l := [(92, mkE p92 r92 false f92)]) (OKs.cons h92 OKs.nil)) mixed4 (ann := (fun _ => false)) (L := L176 f92) (fn := Proofs.Try.f176) (c := bodyC Proofs.Try.f176) (ls := []) Proofs.Try.func176 (by kernel_rfl) (by kernel_rfl) (by kernel_rfl) (by kernel_rfl)
    LoopsP.nil (e176 f92)
/-! laws.toGustS -/
def p131 : List SP := [.one (.r .gust)]
def r131 : List SP := [.one (.o 0 .gust)]
def q131_0 : List SP := pat 23 0 [(0, .one (.r .gust)), (3, .one (.o 5000001 .gust)), (4, .one (.int .i64))]
noncomputable def s131_0 (f176 : Gust × Unit → Option (Gust × Unit)) (t1 : List Gust × List Gust × Int × Unit) (rec K : List Gust × List Gust × Int × Unit → Option (List Gust × Unit)) : Option (List Gust × Unit) :=
  cond (decide (t1.2.2.1 < (Int.ofNat (List.length t1.1)))) (rdL t1.1 t1.2.2.1 fun d2 => (f176 (d2, ())).bind fun x3 => rdL t1.2.1 t1.2.2.1 fun _ => (t1.2.1[(Int.toNat t1.2.2.1)]?).bind fun d4 => rec (t1.1, (List.set t1.2.1 (Int.toNat t1.2.2.1) x3.1), (w64 (t1.2.2.1 + 1)), ())) (K (t1.1, t1.2.1, t1.2.2.1, ()))
noncomputable def F131 (f176 : Gust × Unit → Option (Gust × Unit)) (a : List Gust × Unit) : Option (List Gust × Unit) :=
  okIf (0 ≤ (Int.ofNat (List.length a.1))) (capK (Int.toNat (Int.ofNat (List.length a.1))) (iterF (s131_0 f176) fuel (a.1, (List.replicate (Int.toNat (Int.ofNat (List.length a.1))) (Ty.zero .gust)), 0, ()) fun t5 => some (t5.2.1, ())))
def E131 (f176 : Gust × Unit → Option (Gust × Unit)) : Env := envL [(176, mkE p176 r176 false f176)]
noncomputable def L131 (f176 : Gust × Unit → Option (Gust × Unit)) : LEnv (densS (muts p131 ++ r131)) := lenv [(0, loopL (R := densS (muts p131 ++ r131)) q131_0 (s131_0 f176))]
theorem e131_0 (f176 : Gust × Unit → Option (Gust × Unit)) (X : Nat → St → Option (densS (muts p131 ++ r131))) (rec K : densS q131_0 → Option (densS (muts p131 ++ r131))) (t : densS q131_0) :
    ev (E131 f176) tab4 (fun _ => false) (L131 f176) (retK tab4 p131 r131 Proofs.Try.f131.results.toList) (loopC Proofs.Try.f131 0) (fun i s => cond (Nat.beq i 0) (decK 100 q131_0 s K) (X i s)) (fun s => decK 100 q131_0 s rec) (enc q131_0 t) = s131_0 f176 t rec K := by kernel_rfl
theorem e131 (f176 : Gust × Unit → Option (Gust × Unit)) (a : densS p131) : runF (E131 f176) tab4 (fun _ => false) p131 r131 Proofs.Try.f131 (L131 f176) a = F131 f176 a := by kernel_rfl
theorem ok131 {f176 : Gust × Unit → Option (Gust × Unit)} (h176 : OK Proofs.Try.prog 176 (mkE p176 r176 false f176)) : OK Proofs.Try.prog 131 (mkE p131 r131 false (F131 f176)) :=
  fn_ok tab_ok4 (envL_ok (l := [(176, mkE p176 r176 false f176)]) (OKs.cons h176 OKs.nil)) mixed4 (ann := (fun _ => false)) (L := L131 f176) (fn := Proofs.Try.f131) (c := bodyC Proofs.Try.f131) (ls := [(0, loopC Proofs.Try.f131 0)]) Proofs.Try.func131 (by kernel_rfl) (by kernel_rfl) (by kernel_rfl) (by kernel_rfl)
    (LoopsP.cons q131_0 (s131_0 f176) rfl (e131_0 f176) LoopsP.nil) (e131 f176)
/-! laws.toShow -/
def p67 : List SP := [.agg [.r .device, .r .cue, .r .gust, .int .i64]]
def r67 : List SP := [.agg [.o 0 .device, .o 1 .cue, .o 2 .gust, .int .i64]]
noncomputable def F67 (f130 : List Device × Unit → Option (List Device × Unit)) (f43 : List Cue × Unit → Option (List Cue × Unit)) (f131 : List Gust × Unit → Option (List Gust × Unit)) (a : (List Device × List Cue × List Gust × Int × Unit) × Unit) : Option ((List Device × List Cue × List Gust × Int × Unit) × Unit) :=
  (f130 (a.1.1, ())).bind fun x1 => (f43 (a.1.2.1, ())).bind fun x2 => (f131 (a.1.2.2.1, ())).bind fun x3 => some ((x1.1, x2.1, x3.1, a.1.2.2.2.1, ()), ())
def E67 (f130 : List Device × Unit → Option (List Device × Unit)) (f43 : List Cue × Unit → Option (List Cue × Unit)) (f131 : List Gust × Unit → Option (List Gust × Unit)) : Env := envL [(130, mkE p130 r130 false f130), (43, mkE p43 r43 false f43), (131, mkE p131 r131 false f131)]
noncomputable def L67 (f130 : List Device × Unit → Option (List Device × Unit)) (f43 : List Cue × Unit → Option (List Cue × Unit)) (f131 : List Gust × Unit → Option (List Gust × Unit)) : LEnv (densS (muts p67 ++ r67)) := lenv []
theorem e67 (f130 : List Device × Unit → Option (List Device × Unit)) (f43 : List Cue × Unit → Option (List Cue × Unit)) (f131 : List Gust × Unit → Option (List Gust × Unit)) (a : densS p67) : runF (E67 f130 f43 f131) tab4 (fun _ => false) p67 r67 Proofs.Try.f67 (L67 f130 f43 f131) a = F67 f130 f43 f131 a := by kernel_rfl
theorem ok67 {f130 : List Device × Unit → Option (List Device × Unit)} {f43 : List Cue × Unit → Option (List Cue × Unit)} {f131 : List Gust × Unit → Option (List Gust × Unit)} (h130 : OK Proofs.Try.prog 130 (mkE p130 r130 false f130)) (h43 : OK Proofs.Try.prog 43 (mkE p43 r43 false f43)) (h131 : OK Proofs.Try.prog 131 (mkE p131 r131 false f131)) : OK Proofs.Try.prog 67 (mkE p67 r67 false (F67 f130 f43 f131)) :=
  fn_ok tab_ok4 (envL_ok (l := [(130, mkE p130 r130 false f130), (43, mkE p43 r43 false f43), (131, mkE p131 r131 false f131)]) (OKs.cons h130 (OKs.cons h43 (OKs.cons h131 OKs.nil)))) mixed4 (ann := (fun _ => false)) (L := L67 f130 f43 f131) (fn := Proofs.Try.f67) (c := bodyC Proofs.Try.f67) (ls := []) Proofs.Try.func67 (by kernel_rfl) (by kernel_rfl) (by kernel_rfl) (by kernel_rfl)
    LoopsP.nil (e67 f130 f43 f131)
/-! spec.FindDevice -/
def p193 : List SP := [.one (.r .device), .one (.str)]
def r193 : List SP := [.one (.int .i64)]
def q193_0 : List SP := pat 20 0 [(1, .one (.str)), (7, .one (.r .device)), (8, .one (.int .i64)), (9, .one (.int .i64))]
noncomputable def s193_0 (t1 : Str × List Device × Int × Int × Unit) (rec K : Str × List Device × Int × Int × Unit → Option (Int × Unit)) : Option (Int × Unit) :=
  cond (decide (t1.2.2.2.1 < t1.2.2.1)) (rdL t1.2.1 t1.2.2.2.1 fun d2 => cond (decide (d2.Name = t1.1)) (some (t1.2.2.2.1, ())) (rec (t1.1, t1.2.1, t1.2.2.1, (w64 (t1.2.2.2.1 + 1)), ()))) (K (t1.1, t1.2.1, t1.2.2.1, t1.2.2.2.1, ()))
noncomputable def F193 (a : List Device × Str × Unit) : Option (Int × Unit) :=
  iterF (s193_0) fuel (a.2.1, a.1, (Int.ofNat (List.length a.1)), 0, ()) fun t3 => some ((-1), ())
def E193 : Env := envL []
noncomputable def L193 : LEnv (densS (muts p193 ++ r193)) := lenv [(0, loopL (R := densS (muts p193 ++ r193)) q193_0 (s193_0))]
theorem e193_0 (X : Nat → St → Option (densS (muts p193 ++ r193))) (rec K : densS q193_0 → Option (densS (muts p193 ++ r193))) (t : densS q193_0) :
    ev (E193) tab4 (fun _ => false) (L193) (retK tab4 p193 r193 Proofs.Try.f193.results.toList) (loopC Proofs.Try.f193 0) (fun i s => cond (Nat.beq i 0) (decK 100 q193_0 s K) (X i s)) (fun s => decK 100 q193_0 s rec) (enc q193_0 t) = s193_0 t rec K := by kernel_rfl
theorem e193 (a : densS p193) : runF (E193) tab4 (fun _ => false) p193 r193 Proofs.Try.f193 (L193) a = F193 a := by kernel_rfl
theorem ok193 : OK Proofs.Try.prog 193 (mkE p193 r193 false (F193)) :=
  fn_ok tab_ok4 (envL_ok (l := []) OKs.nil) mixed4 (ann := (fun _ => false)) (L := L193) (fn := Proofs.Try.f193) (c := bodyC Proofs.Try.f193) (ls := [(0, loopC Proofs.Try.f193 0)]) Proofs.Try.func193 (by kernel_rfl) (by kernel_rfl) (by kernel_rfl) (by kernel_rfl)
    (LoopsP.cons q193_0 (s193_0) rfl (e193_0) LoopsP.nil) (e193)
/-! spec.l6Hangs -/
def p174 : List SP := [.one (.r .device), .t .device]
def r174 : List SP := [.one (.bool)]
noncomputable def F174 (f193 : List Device × Str × Unit → Option (Int × Unit)) (a : List Device × Device × Unit) : Option (Bool × Unit) :=
  (f193 (a.1, a.2.1.Line, ())).bind fun x1 => cond (decide (a.2.1.Kind = 2)) (cond (decide (x1.1 ≥ 0)) (rdL a.1 x1.1 fun d2 => some ((decide (d2.Kind = 1)), ())) (some (false, ()))) (cond (decide (a.2.1.Kind = 3)) (cond (decide (x1.1 ≥ 0)) (rdL a.1 x1.1 fun d3 => some ((decide (d3.Kind = 2)), ())) (some (false, ()))) (some (true, ())))
def E174 (f193 : List Device × Str × Unit → Option (Int × Unit)) : Env := envL [(193, mkE p193 r193 false f193)]
noncomputable def L174 (f193 : List Device × Str × Unit → Option (Int × Unit)) : LEnv (densS (muts p174 ++ r174)) := lenv []
theorem e174 (f193 : List Device × Str × Unit → Option (Int × Unit)) (a : densS p174) : runF (E174 f193) tab4 (fun _ => false) p174 r174 Proofs.Try.f174 (L174 f193) a = F174 f193 a := by kernel_rfl
theorem ok174 {f193 : List Device × Str × Unit → Option (Int × Unit)} (h193 : OK Proofs.Try.prog 193 (mkE p193 r193 false f193)) : OK Proofs.Try.prog 174 (mkE p174 r174 false (F174 f193)) :=
  fn_ok tab_ok4 (envL_ok (l := [(193, mkE p193 r193 false f193)]) (OKs.cons h193 OKs.nil)) mixed4 (ann := (fun _ => false)) (L := L174 f193) (fn := Proofs.Try.f174) (c := bodyC Proofs.Try.f174) (ls := []) Proofs.Try.func174 (by kernel_rfl) (by kernel_rfl) (by kernel_rfl) (by kernel_rfl)
    LoopsP.nil (e174 f193)
/-! spec.IsRig -/
def p128 : List SP := [.one (.r .device)]
def r128 : List SP := [.one (.bool)]
def q128_0 : List SP := pat 40 0 [(0, .one (.r .device)), (5, .one (.r .device)), (6, .one (.int .i64)), (7, .one (.int .i64))]
noncomputable def s128_0 (f57 : Device × Unit → Option (Bool × Unit)) (f174 : List Device × Device × Unit → Option (Bool × Unit)) (t1 : List Device × List Device × Int × Int × Unit) (rec K : List Device × List Device × Int × Int × Unit → Option (Bool × Unit)) : Option (Bool × Unit) :=
  cond (decide (t1.2.2.2.1 < t1.2.2.1)) (rdL t1.2.1 t1.2.2.2.1 fun d2 => (f57 (d2, ())).bind fun x3 => cond (!(!x3.1)) (cond (decide (t1.2.2.2.1 > 0)) (rdL t1.1 (w64 (t1.2.2.2.1 - 1)) fun d4 => cond (!(!Op.bytesLess d4.Name d2.Name)) ((f174 (t1.1, d2, ())).bind fun x5 => cond (!x5.1) (some (false, ())) (rec (t1.1, t1.2.1, t1.2.2.1, (w64 (t1.2.2.2.1 + 1)), ()))) (some (false, ()))) ((f174 (t1.1, d2, ())).bind fun x6 => cond (!x6.1) (some (false, ())) (rec (t1.1, t1.2.1, t1.2.2.1, (w64 (t1.2.2.2.1 + 1)), ())))) (some (false, ()))) (K (t1.1, t1.2.1, t1.2.2.1, t1.2.2.2.1, ()))
noncomputable def F128 (f57 : Device × Unit → Option (Bool × Unit)) (f174 : List Device × Device × Unit → Option (Bool × Unit)) (a : List Device × Unit) : Option (Bool × Unit) :=
  iterF (s128_0 f57 f174) fuel (a.1, a.1, (Int.ofNat (List.length a.1)), 0, ()) fun t7 => some ((decide ((Int.ofNat (List.length t7.1)) ≤ 8)), ())
def E128 (f57 : Device × Unit → Option (Bool × Unit)) (f174 : List Device × Device × Unit → Option (Bool × Unit)) : Env := envL [(57, mkE p57 r57 false f57), (174, mkE p174 r174 false f174)]
noncomputable def L128 (f57 : Device × Unit → Option (Bool × Unit)) (f174 : List Device × Device × Unit → Option (Bool × Unit)) : LEnv (densS (muts p128 ++ r128)) := lenv [(0, loopL (R := densS (muts p128 ++ r128)) q128_0 (s128_0 f57 f174))]
theorem e128_0 (f57 : Device × Unit → Option (Bool × Unit)) (f174 : List Device × Device × Unit → Option (Bool × Unit)) (X : Nat → St → Option (densS (muts p128 ++ r128))) (rec K : densS q128_0 → Option (densS (muts p128 ++ r128))) (t : densS q128_0) :
    ev (E128 f57 f174) tab4 (fun _ => false) (L128 f57 f174) (retK tab4 p128 r128 Proofs.Try.f128.results.toList) (loopC Proofs.Try.f128 0) (fun i s => cond (Nat.beq i 0) (decK 100 q128_0 s K) (X i s)) (fun s => decK 100 q128_0 s rec) (enc q128_0 t) = s128_0 f57 f174 t rec K := by kernel_rfl
theorem e128 (f57 : Device × Unit → Option (Bool × Unit)) (f174 : List Device × Device × Unit → Option (Bool × Unit)) (a : densS p128) : runF (E128 f57 f174) tab4 (fun _ => false) p128 r128 Proofs.Try.f128 (L128 f57 f174) a = F128 f57 f174 a := by kernel_rfl
theorem ok128 {f57 : Device × Unit → Option (Bool × Unit)} {f174 : List Device × Device × Unit → Option (Bool × Unit)} (h57 : OK Proofs.Try.prog 57 (mkE p57 r57 false f57)) (h174 : OK Proofs.Try.prog 174 (mkE p174 r174 false f174)) : OK Proofs.Try.prog 128 (mkE p128 r128 false (F128 f57 f174)) :=
  fn_ok tab_ok4 (envL_ok (l := [(57, mkE p57 r57 false f57), (174, mkE p174 r174 false f174)]) (OKs.cons h57 (OKs.cons h174 OKs.nil))) mixed4 (ann := (fun _ => false)) (L := L128 f57 f174) (fn := Proofs.Try.f128) (c := bodyC Proofs.Try.f128) (ls := [(0, loopC Proofs.Try.f128 0)]) Proofs.Try.func128 (by kernel_rfl) (by kernel_rfl) (by kernel_rfl) (by kernel_rfl)
    (LoopsP.cons q128_0 (s128_0 f57 f174) rfl (e128_0 f57 f174) LoopsP.nil) (e128 f57 f174)
/-! spec.IsWind -/
def p129 : List SP := [.one (.r .gust)]
def r129 : List SP := [.one (.bool)]
def q129_0 : List SP := pat 41 0 [(0, .one (.r .gust)), (5, .one (.r .gust)), (6, .one (.int .i64)), (7, .one (.int .i64))]
noncomputable def s129_0 (f119 : Int × Int × Int × Unit → Option (Bool × Unit)) (f175 : Place × Unit → Option (Bool × Unit)) (t1 : List Gust × List Gust × Int × Int × Unit) (rec K : List Gust × List Gust × Int × Int × Unit → Option (Bool × Unit)) : Option (Bool × Unit) :=
  cond (decide (t1.2.2.2.1 < t1.2.2.1)) (rdL t1.2.1 t1.2.2.2.1 fun d2 => (f119 (d2.From, 0, 64, ())).bind fun x3 => cond (!(!x3.1)) ((f175 (d2.Drift, ())).bind fun x4 => cond (!(!x4.1)) (cond (decide (t1.2.2.2.1 > 0)) (rdL t1.1 (w64 (t1.2.2.2.1 - 1)) fun d5 => cond (decide (d5.From ≥ d2.From)) (some (false, ())) (rec (t1.1, t1.2.1, t1.2.2.1, (w64 (t1.2.2.2.1 + 1)), ()))) (rec (t1.1, t1.2.1, t1.2.2.1, (w64 (t1.2.2.2.1 + 1)), ()))) (some (false, ()))) (some (false, ()))) (K (t1.1, t1.2.1, t1.2.2.1, t1.2.2.2.1, ()))
noncomputable def F129 (f119 : Int × Int × Int × Unit → Option (Bool × Unit)) (f175 : Place × Unit → Option (Bool × Unit)) (a : List Gust × Unit) : Option (Bool × Unit) :=
  iterF (s129_0 f119 f175) fuel (a.1, a.1, (Int.ofNat (List.length a.1)), 0, ()) fun t6 => some ((decide ((Int.ofNat (List.length t6.1)) ≤ 8)), ())
def E129 (f119 : Int × Int × Int × Unit → Option (Bool × Unit)) (f175 : Place × Unit → Option (Bool × Unit)) : Env := envL [(119, mkE p119 r119 false f119), (175, mkE p175 r175 false f175)]
noncomputable def L129 (f119 : Int × Int × Int × Unit → Option (Bool × Unit)) (f175 : Place × Unit → Option (Bool × Unit)) : LEnv (densS (muts p129 ++ r129)) := lenv [(0, loopL (R := densS (muts p129 ++ r129)) q129_0 (s129_0 f119 f175))]
theorem e129_0 (f119 : Int × Int × Int × Unit → Option (Bool × Unit)) (f175 : Place × Unit → Option (Bool × Unit)) (X : Nat → St → Option (densS (muts p129 ++ r129))) (rec K : densS q129_0 → Option (densS (muts p129 ++ r129))) (t : densS q129_0) :
    ev (E129 f119 f175) tab4 (fun _ => false) (L129 f119 f175) (retK tab4 p129 r129 Proofs.Try.f129.results.toList) (loopC Proofs.Try.f129 0) (fun i s => cond (Nat.beq i 0) (decK 100 q129_0 s K) (X i s)) (fun s => decK 100 q129_0 s rec) (enc q129_0 t) = s129_0 f119 f175 t rec K := by kernel_rfl
theorem e129 (f119 : Int × Int × Int × Unit → Option (Bool × Unit)) (f175 : Place × Unit → Option (Bool × Unit)) (a : densS p129) : runF (E129 f119 f175) tab4 (fun _ => false) p129 r129 Proofs.Try.f129 (L129 f119 f175) a = F129 f119 f175 a := by kernel_rfl
theorem ok129 {f119 : Int × Int × Int × Unit → Option (Bool × Unit)} {f175 : Place × Unit → Option (Bool × Unit)} (h119 : OK Proofs.Try.prog 119 (mkE p119 r119 false f119)) (h175 : OK Proofs.Try.prog 175 (mkE p175 r175 false f175)) : OK Proofs.Try.prog 129 (mkE p129 r129 false (F129 f119 f175)) :=
  fn_ok tab_ok4 (envL_ok (l := [(119, mkE p119 r119 false f119), (175, mkE p175 r175 false f175)]) (OKs.cons h119 (OKs.cons h175 OKs.nil))) mixed4 (ann := (fun _ => false)) (L := L129 f119 f175) (fn := Proofs.Try.f129) (c := bodyC Proofs.Try.f129) (ls := [(0, loopC Proofs.Try.f129 0)]) Proofs.Try.func129 (by kernel_rfl) (by kernel_rfl) (by kernel_rfl) (by kernel_rfl)
    (LoopsP.cons q129_0 (s129_0 f119 f175) rfl (e129_0 f119 f175) LoopsP.nil) (e129 f119 f175)
/-! spec.IsShow -/
def p66 : List SP := [.agg [.r .device, .r .cue, .r .gust, .int .i64]]
def r66 : List SP := [.one (.bool)]
noncomputable def F66 (f128 : List Device × Unit → Option (Bool × Unit)) (f98 : List Cue × Unit → Option (Bool × Unit)) (f129 : List Gust × Unit → Option (Bool × Unit)) (f119 : Int × Int × Int × Unit → Option (Bool × Unit)) (a : (List Device × List Cue × List Gust × Int × Unit) × Unit) : Option (Bool × Unit) :=
  (f128 (a.1.1, ())).bind fun x1 => cond x1.1 ((f98 (a.1.2.1, ())).bind fun x2 => cond x2.1 ((f129 (a.1.2.2.1, ())).bind fun x3 => cond x3.1 ((f119 (a.1.2.2.2.1, 0, 64, ())).bind fun x4 => some (x4.1, ())) (some (false, ()))) (some (false, ()))) (some (false, ()))
def E66 (f128 : List Device × Unit → Option (Bool × Unit)) (f98 : List Cue × Unit → Option (Bool × Unit)) (f129 : List Gust × Unit → Option (Bool × Unit)) (f119 : Int × Int × Int × Unit → Option (Bool × Unit)) : Env := envL [(128, mkE p128 r128 false f128), (98, mkE p98 r98 false f98), (129, mkE p129 r129 false f129), (119, mkE p119 r119 false f119)]
noncomputable def L66 (f128 : List Device × Unit → Option (Bool × Unit)) (f98 : List Cue × Unit → Option (Bool × Unit)) (f129 : List Gust × Unit → Option (Bool × Unit)) (f119 : Int × Int × Int × Unit → Option (Bool × Unit)) : LEnv (densS (muts p66 ++ r66)) := lenv []
theorem e66 (f128 : List Device × Unit → Option (Bool × Unit)) (f98 : List Cue × Unit → Option (Bool × Unit)) (f129 : List Gust × Unit → Option (Bool × Unit)) (f119 : Int × Int × Int × Unit → Option (Bool × Unit)) (a : densS p66) : runF (E66 f128 f98 f129 f119) tab4 (fun _ => false) p66 r66 Proofs.Try.f66 (L66 f128 f98 f129 f119) a = F66 f128 f98 f129 f119 a := by kernel_rfl
theorem ok66 {f128 : List Device × Unit → Option (Bool × Unit)} {f98 : List Cue × Unit → Option (Bool × Unit)} {f129 : List Gust × Unit → Option (Bool × Unit)} {f119 : Int × Int × Int × Unit → Option (Bool × Unit)} (h128 : OK Proofs.Try.prog 128 (mkE p128 r128 false f128)) (h98 : OK Proofs.Try.prog 98 (mkE p98 r98 false f98)) (h129 : OK Proofs.Try.prog 129 (mkE p129 r129 false f129)) (h119 : OK Proofs.Try.prog 119 (mkE p119 r119 false f119)) : OK Proofs.Try.prog 66 (mkE p66 r66 false (F66 f128 f98 f129 f119)) :=
  fn_ok tab_ok4 (envL_ok (l := [(128, mkE p128 r128 false f128), (98, mkE p98 r98 false f98), (129, mkE p129 r129 false f129), (119, mkE p119 r119 false f119)]) (OKs.cons h128 (OKs.cons h98 (OKs.cons h129 (OKs.cons h119 OKs.nil))))) mixed4 (ann := (fun _ => false)) (L := L66 f128 f98 f129 f119) (fn := Proofs.Try.f66) (c := bodyC Proofs.Try.f66) (ls := []) Proofs.Try.func66 (by kernel_rfl) (by kernel_rfl) (by kernel_rfl) (by kernel_rfl)
    LoopsP.nil (e66 f128 f98 f129 f119)
/-! impl.FindDevice$1 -/
def p201 : List SP := [.t .device, .sp [.str]]
def r201 : List SP := [.one (.bool)]
noncomputable def F201 (a : Device × (Str × Unit) × Unit) : Option (Bool × Unit) :=
  some ((decide (a.1.Name = a.2.1.1)), ())
def E201 : Env := envL []
noncomputable def L201 : LEnv (densS (muts p201 ++ r201)) := lenv []
theorem e201 (a : densS p201) : runF (E201) tab4 (fun _ => false) p201 r201 Proofs.Try.f201 (L201) a = F201 a := by kernel_rfl
theorem ok201 : OK Proofs.Try.prog 201 (mkE p201 r201 false (F201)) :=
  fn_ok tab_ok4 (envL_ok (l := []) OKs.nil) mixed4 (ann := (fun _ => false)) (L := L201) (fn := Proofs.Try.f201) (c := bodyC Proofs.Try.f201) (ls := []) Proofs.Try.func201 (by kernel_rfl) (by kernel_rfl) (by kernel_rfl) (by kernel_rfl)
    LoopsP.nil (e201)
/-! slices.IndexFunc[[]impl.Device,impl.Device] -/
def p200 : List SP := [.one (.r .device), .fn 201 [.str]]
def r200 : List SP := [.one (.int .i64)]
def q200_0 : List SP := pat 19 0 [(0, .one (.r .device)), (1, .fn 201 [.str]), (7, .one (.int .i64)), (8, .one (.int .i64))]
noncomputable def s200_0 (f201 : Device × (Str × Unit) × Unit → Option (Bool × Unit)) (t1 : List Device × (Str × Unit) × Int × Int × Unit) (rec K : List Device × (Str × Unit) × Int × Int × Unit → Option (Int × Unit)) : Option (Int × Unit) :=
  cond (decide (t1.2.2.2.1 < t1.2.2.1)) (rdL t1.1 t1.2.2.2.1 fun d2 => (f201 (d2, (t1.2.1.1, ()), ())).bind fun x3 => cond x3.1 (some (t1.2.2.2.1, ())) (rec (t1.1, (t1.2.1.1, ()), t1.2.2.1, (w64 (t1.2.2.2.1 + 1)), ()))) (K (t1.1, (t1.2.1.1, ()), t1.2.2.1, t1.2.2.2.1, ()))
noncomputable def F200 (f201 : Device × (Str × Unit) × Unit → Option (Bool × Unit)) (a : List Device × (Str × Unit) × Unit) : Option (Int × Unit) :=
  iterF (s200_0 f201) fuel (a.1, (a.2.1.1, ()), (Int.ofNat (List.length a.1)), 0, ()) fun t4 => some ((-1), ())
def E200 (f201 : Device × (Str × Unit) × Unit → Option (Bool × Unit)) : Env := envL [(201, mkE p201 r201 false f201)]
noncomputable def L200 (f201 : Device × (Str × Unit) × Unit → Option (Bool × Unit)) : LEnv (densS (muts p200 ++ r200)) := lenv [(0, loopL (R := densS (muts p200 ++ r200)) q200_0 (s200_0 f201))]
theorem e200_0 (f201 : Device × (Str × Unit) × Unit → Option (Bool × Unit)) (X : Nat → St → Option (densS (muts p200 ++ r200))) (rec K : densS q200_0 → Option (densS (muts p200 ++ r200))) (t : densS q200_0) :
    ev (E200 f201) tab4 (fun _ => false) (L200 f201) (retK tab4 p200 r200 Proofs.Try.f200.results.toList) (loopC Proofs.Try.f200 0) (fun i s => cond (Nat.beq i 0) (decK 100 q200_0 s K) (X i s)) (fun s => decK 100 q200_0 s rec) (enc q200_0 t) = s200_0 f201 t rec K := by kernel_rfl
theorem e200 (f201 : Device × (Str × Unit) × Unit → Option (Bool × Unit)) (a : densS p200) : runF (E200 f201) tab4 (fun _ => false) p200 r200 Proofs.Try.f200 (L200 f201) a = F200 f201 a := by kernel_rfl
theorem ok200 {f201 : Device × (Str × Unit) × Unit → Option (Bool × Unit)} (h201 : OK Proofs.Try.prog 201 (mkE p201 r201 false f201)) : OK Proofs.Try.prog 200 (mkE p200 r200 false (F200 f201)) :=
  fn_ok tab_ok4 (envL_ok (l := [(201, mkE p201 r201 false f201)]) (OKs.cons h201 OKs.nil)) mixed4 (ann := (fun _ => false)) (L := L200 f201) (fn := Proofs.Try.f200) (c := bodyC Proofs.Try.f200) (ls := [(0, loopC Proofs.Try.f200 0)]) Proofs.Try.func200 (by kernel_rfl) (by kernel_rfl) (by kernel_rfl) (by kernel_rfl)
    (LoopsP.cons q200_0 (s200_0 f201) rfl (e200_0 f201) LoopsP.nil) (e200 f201)
/-! impl.FindDevice -/
def p194 : List SP := [.one (.r .device), .one (.str)]
def r194 : List SP := [.one (.int .i64)]
noncomputable def F194 (f200 : List Device × (Str × Unit) × Unit → Option (Int × Unit)) (a : List Device × Str × Unit) : Option (Int × Unit) :=
  (f200 (a.1, (a.2.1, ()), ())).bind fun x1 => some (x1.1, ())
def E194 (f200 : List Device × (Str × Unit) × Unit → Option (Int × Unit)) : Env := envL [(200, mkE p200 r200 false f200)]
noncomputable def L194 (f200 : List Device × (Str × Unit) × Unit → Option (Int × Unit)) : LEnv (densS (muts p194 ++ r194)) := lenv []
theorem e194 (f200 : List Device × (Str × Unit) × Unit → Option (Int × Unit)) (a : densS p194) : runF (E194 f200) tab4 (fun _ => false) p194 r194 Proofs.Try.f194 (L194 f200) a = F194 f200 a := by kernel_rfl
theorem ok194 {f200 : List Device × (Str × Unit) × Unit → Option (Int × Unit)} (h200 : OK Proofs.Try.prog 200 (mkE p200 r200 false f200)) : OK Proofs.Try.prog 194 (mkE p194 r194 false (F194 f200)) :=
  fn_ok tab_ok4 (envL_ok (l := [(200, mkE p200 r200 false f200)]) (OKs.cons h200 OKs.nil)) mixed4 (ann := (fun _ => false)) (L := L194 f200) (fn := Proofs.Try.f194) (c := bodyC Proofs.Try.f194) (ls := []) Proofs.Try.func194 (by kernel_rfl) (by kernel_rfl) (by kernel_rfl) (by kernel_rfl)
    LoopsP.nil (e194 f200)
/-! impl.isHung -/
def p177 : List SP := [.one (.r .device), .t .device]
def r177 : List SP := [.one (.bool)]
noncomputable def F177 (f194 : List Device × Str × Unit → Option (Int × Unit)) (a : List Device × Device × Unit) : Option (Bool × Unit) :=
  cond (decide (a.2.1.Kind = 1)) (some (true, ())) ((f194 (a.1, a.2.1.Line, ())).bind fun x1 => cond (decide (x1.1 ≥ 0)) (rdL a.1 x1.1 fun d2 => some ((decide (d2.Kind = (w64 (a.2.1.Kind - 1)))), ())) (some (false, ())))
def E177 (f194 : List Device × Str × Unit → Option (Int × Unit)) : Env := envL [(194, mkE p194 r194 false f194)]
noncomputable def L177 (f194 : List Device × Str × Unit → Option (Int × Unit)) : LEnv (densS (muts p177 ++ r177)) := lenv []
theorem e177 (f194 : List Device × Str × Unit → Option (Int × Unit)) (a : densS p177) : runF (E177 f194) tab4 (fun _ => false) p177 r177 Proofs.Try.f177 (L177 f194) a = F177 f194 a := by kernel_rfl
theorem ok177 {f194 : List Device × Str × Unit → Option (Int × Unit)} (h194 : OK Proofs.Try.prog 194 (mkE p194 r194 false f194)) : OK Proofs.Try.prog 177 (mkE p177 r177 false (F177 f194)) :=
  fn_ok tab_ok4 (envL_ok (l := [(194, mkE p194 r194 false f194)]) (OKs.cons h194 OKs.nil)) mixed4 (ann := (fun _ => false)) (L := L177 f194) (fn := Proofs.Try.f177) (c := bodyC Proofs.Try.f177) (ls := []) Proofs.Try.func177 (by kernel_rfl) (by kernel_rfl) (by kernel_rfl) (by kernel_rfl)
    LoopsP.nil (e177 f194)
/-! impl.IsRig -/
def p132 : List SP := [.one (.r .device)]
def r132 : List SP := [.one (.bool)]
def q132_0 : List SP := pat 40 0 [(0, .one (.r .device)), (8, .one (.r .device)), (9, .one (.int .i64)), (10, .one (.int .i64))]
noncomputable def s132_0 (f56 : Device × Unit → Option (Bool × Unit)) (f177 : List Device × Device × Unit → Option (Bool × Unit)) (t1 : List Device × List Device × Int × Int × Unit) (rec K : List Device × List Device × Int × Int × Unit → Option (Bool × Unit)) : Option (Bool × Unit) :=
  cond (decide (t1.2.2.2.1 < t1.2.2.1)) (rdL t1.2.1 t1.2.2.2.1 fun d2 => (f56 (d2, ())).bind fun x3 => cond (!(!x3.1)) (cond (decide (t1.2.2.2.1 > 0)) (rdL t1.1 (w64 (t1.2.2.2.1 - 1)) fun d4 => cond (!(Op.bytesLess d2.Name d4.Name || decide (d2.Name = d4.Name))) ((f177 (t1.1, d2, ())).bind fun x5 => cond (!x5.1) (some (false, ())) (rec (t1.1, t1.2.1, t1.2.2.1, (w64 (t1.2.2.2.1 + 1)), ()))) (some (false, ()))) ((f177 (t1.1, d2, ())).bind fun x6 => cond (!x6.1) (some (false, ())) (rec (t1.1, t1.2.1, t1.2.2.1, (w64 (t1.2.2.2.1 + 1)), ())))) (some (false, ()))) (K (t1.1, t1.2.1, t1.2.2.1, t1.2.2.2.1, ()))
noncomputable def F132 (f56 : Device × Unit → Option (Bool × Unit)) (f177 : List Device × Device × Unit → Option (Bool × Unit)) (a : List Device × Unit) : Option (Bool × Unit) :=
  cond (decide ((Int.ofNat (List.length a.1)) > 8)) (some (false, ())) (iterF (s132_0 f56 f177) fuel (a.1, a.1, (Int.ofNat (List.length a.1)), 0, ()) fun t7 => some (true, ()))
def E132 (f56 : Device × Unit → Option (Bool × Unit)) (f177 : List Device × Device × Unit → Option (Bool × Unit)) : Env := envL [(56, mkE p56 r56 false f56), (177, mkE p177 r177 false f177)]
noncomputable def L132 (f56 : Device × Unit → Option (Bool × Unit)) (f177 : List Device × Device × Unit → Option (Bool × Unit)) : LEnv (densS (muts p132 ++ r132)) := lenv [(0, loopL (R := densS (muts p132 ++ r132)) q132_0 (s132_0 f56 f177))]
theorem e132_0 (f56 : Device × Unit → Option (Bool × Unit)) (f177 : List Device × Device × Unit → Option (Bool × Unit)) (X : Nat → St → Option (densS (muts p132 ++ r132))) (rec K : densS q132_0 → Option (densS (muts p132 ++ r132))) (t : densS q132_0) :
    ev (E132 f56 f177) tab4 (fun _ => false) (L132 f56 f177) (retK tab4 p132 r132 Proofs.Try.f132.results.toList) (loopC Proofs.Try.f132 0) (fun i s => cond (Nat.beq i 0) (decK 100 q132_0 s K) (X i s)) (fun s => decK 100 q132_0 s rec) (enc q132_0 t) = s132_0 f56 f177 t rec K := by kernel_rfl
theorem e132 (f56 : Device × Unit → Option (Bool × Unit)) (f177 : List Device × Device × Unit → Option (Bool × Unit)) (a : densS p132) : runF (E132 f56 f177) tab4 (fun _ => false) p132 r132 Proofs.Try.f132 (L132 f56 f177) a = F132 f56 f177 a := by kernel_rfl
theorem ok132 {f56 : Device × Unit → Option (Bool × Unit)} {f177 : List Device × Device × Unit → Option (Bool × Unit)} (h56 : OK Proofs.Try.prog 56 (mkE p56 r56 false f56)) (h177 : OK Proofs.Try.prog 177 (mkE p177 r177 false f177)) : OK Proofs.Try.prog 132 (mkE p132 r132 false (F132 f56 f177)) :=
  fn_ok tab_ok4 (envL_ok (l := [(56, mkE p56 r56 false f56), (177, mkE p177 r177 false f177)]) (OKs.cons h56 (OKs.cons h177 OKs.nil))) mixed4 (ann := (fun _ => false)) (L := L132 f56 f177) (fn := Proofs.Try.f132) (c := bodyC Proofs.Try.f132) (ls := [(0, loopC Proofs.Try.f132 0)]) Proofs.Try.func132 (by kernel_rfl) (by kernel_rfl) (by kernel_rfl) (by kernel_rfl)
    (LoopsP.cons q132_0 (s132_0 f56 f177) rfl (e132_0 f56 f177) LoopsP.nil) (e132 f56 f177)
/-! impl.IsWind -/
def p133 : List SP := [.one (.r .gust)]
def r133 : List SP := [.one (.bool)]
def q133_0 : List SP := pat 41 0 [(0, .one (.r .gust)), (5, .one (.r .gust)), (6, .one (.int .i64)), (7, .one (.int .i64))]
noncomputable def s133_0 (f72 : Int × Int × Int × Unit → Option (Bool × Unit)) (f121 : Place × Unit → Option (Bool × Unit)) (t1 : List Gust × List Gust × Int × Int × Unit) (rec K : List Gust × List Gust × Int × Int × Unit → Option (Bool × Unit)) : Option (Bool × Unit) :=
  cond (decide (t1.2.2.2.1 < t1.2.2.1)) (rdL t1.2.1 t1.2.2.2.1 fun d2 => (f72 (d2.From, 0, 64, ())).bind fun x3 => cond (!(!x3.1)) ((f121 (d2.Drift, ())).bind fun x4 => cond (!(!x4.1)) (cond (decide (t1.2.2.2.1 > 0)) (rdL t1.1 (w64 (t1.2.2.2.1 - 1)) fun d5 => cond (decide (d2.From ≤ d5.From)) (some (false, ())) (rec (t1.1, t1.2.1, t1.2.2.1, (w64 (t1.2.2.2.1 + 1)), ()))) (rec (t1.1, t1.2.1, t1.2.2.1, (w64 (t1.2.2.2.1 + 1)), ()))) (some (false, ()))) (some (false, ()))) (K (t1.1, t1.2.1, t1.2.2.1, t1.2.2.2.1, ()))
noncomputable def F133 (f72 : Int × Int × Int × Unit → Option (Bool × Unit)) (f121 : Place × Unit → Option (Bool × Unit)) (a : List Gust × Unit) : Option (Bool × Unit) :=
  iterF (s133_0 f72 f121) fuel (a.1, a.1, (Int.ofNat (List.length a.1)), 0, ()) fun t6 => some ((decide ((Int.ofNat (List.length t6.1)) ≤ 8)), ())
def E133 (f72 : Int × Int × Int × Unit → Option (Bool × Unit)) (f121 : Place × Unit → Option (Bool × Unit)) : Env := envL [(72, mkE p72 r72 false f72), (121, mkE p121 r121 false f121)]
noncomputable def L133 (f72 : Int × Int × Int × Unit → Option (Bool × Unit)) (f121 : Place × Unit → Option (Bool × Unit)) : LEnv (densS (muts p133 ++ r133)) := lenv [(0, loopL (R := densS (muts p133 ++ r133)) q133_0 (s133_0 f72 f121))]
theorem e133_0 (f72 : Int × Int × Int × Unit → Option (Bool × Unit)) (f121 : Place × Unit → Option (Bool × Unit)) (X : Nat → St → Option (densS (muts p133 ++ r133))) (rec K : densS q133_0 → Option (densS (muts p133 ++ r133))) (t : densS q133_0) :
    ev (E133 f72 f121) tab4 (fun _ => false) (L133 f72 f121) (retK tab4 p133 r133 Proofs.Try.f133.results.toList) (loopC Proofs.Try.f133 0) (fun i s => cond (Nat.beq i 0) (decK 100 q133_0 s K) (X i s)) (fun s => decK 100 q133_0 s rec) (enc q133_0 t) = s133_0 f72 f121 t rec K := by kernel_rfl
theorem e133 (f72 : Int × Int × Int × Unit → Option (Bool × Unit)) (f121 : Place × Unit → Option (Bool × Unit)) (a : densS p133) : runF (E133 f72 f121) tab4 (fun _ => false) p133 r133 Proofs.Try.f133 (L133 f72 f121) a = F133 f72 f121 a := by kernel_rfl
theorem ok133 {f72 : Int × Int × Int × Unit → Option (Bool × Unit)} {f121 : Place × Unit → Option (Bool × Unit)} (h72 : OK Proofs.Try.prog 72 (mkE p72 r72 false f72)) (h121 : OK Proofs.Try.prog 121 (mkE p121 r121 false f121)) : OK Proofs.Try.prog 133 (mkE p133 r133 false (F133 f72 f121)) :=
  fn_ok tab_ok4 (envL_ok (l := [(72, mkE p72 r72 false f72), (121, mkE p121 r121 false f121)]) (OKs.cons h72 (OKs.cons h121 OKs.nil))) mixed4 (ann := (fun _ => false)) (L := L133 f72 f121) (fn := Proofs.Try.f133) (c := bodyC Proofs.Try.f133) (ls := [(0, loopC Proofs.Try.f133 0)]) Proofs.Try.func133 (by kernel_rfl) (by kernel_rfl) (by kernel_rfl) (by kernel_rfl)
    (LoopsP.cons q133_0 (s133_0 f72 f121) rfl (e133_0 f72 f121) LoopsP.nil) (e133 f72 f121)
/-! impl.IsShow -/
def p68 : List SP := [.agg [.r .device, .r .cue, .r .gust, .int .i64]]
def r68 : List SP := [.one (.bool)]
noncomputable def F68 (f132 : List Device × Unit → Option (Bool × Unit)) (f85 : List Cue × Unit → Option (Bool × Unit)) (f133 : List Gust × Unit → Option (Bool × Unit)) (f72 : Int × Int × Int × Unit → Option (Bool × Unit)) (a : (List Device × List Cue × List Gust × Int × Unit) × Unit) : Option (Bool × Unit) :=
  (f132 (a.1.1, ())).bind fun x1 => cond x1.1 ((f85 (a.1.2.1, ())).bind fun x2 => cond x2.1 ((f133 (a.1.2.2.1, ())).bind fun x3 => cond x3.1 ((f72 (a.1.2.2.2.1, 0, 64, ())).bind fun x4 => some (x4.1, ())) (some (false, ()))) (some (false, ()))) (some (false, ()))
def E68 (f132 : List Device × Unit → Option (Bool × Unit)) (f85 : List Cue × Unit → Option (Bool × Unit)) (f133 : List Gust × Unit → Option (Bool × Unit)) (f72 : Int × Int × Int × Unit → Option (Bool × Unit)) : Env := envL [(132, mkE p132 r132 false f132), (85, mkE p85 r85 false f85), (133, mkE p133 r133 false f133), (72, mkE p72 r72 false f72)]
noncomputable def L68 (f132 : List Device × Unit → Option (Bool × Unit)) (f85 : List Cue × Unit → Option (Bool × Unit)) (f133 : List Gust × Unit → Option (Bool × Unit)) (f72 : Int × Int × Int × Unit → Option (Bool × Unit)) : LEnv (densS (muts p68 ++ r68)) := lenv []
theorem e68 (f132 : List Device × Unit → Option (Bool × Unit)) (f85 : List Cue × Unit → Option (Bool × Unit)) (f133 : List Gust × Unit → Option (Bool × Unit)) (f72 : Int × Int × Int × Unit → Option (Bool × Unit)) (a : densS p68) : runF (E68 f132 f85 f133 f72) tab4 (fun _ => false) p68 r68 Proofs.Try.f68 (L68 f132 f85 f133 f72) a = F68 f132 f85 f133 f72 a := by kernel_rfl
theorem ok68 {f132 : List Device × Unit → Option (Bool × Unit)} {f85 : List Cue × Unit → Option (Bool × Unit)} {f133 : List Gust × Unit → Option (Bool × Unit)} {f72 : Int × Int × Int × Unit → Option (Bool × Unit)} (h132 : OK Proofs.Try.prog 132 (mkE p132 r132 false f132)) (h85 : OK Proofs.Try.prog 85 (mkE p85 r85 false f85)) (h133 : OK Proofs.Try.prog 133 (mkE p133 r133 false f133)) (h72 : OK Proofs.Try.prog 72 (mkE p72 r72 false f72)) : OK Proofs.Try.prog 68 (mkE p68 r68 false (F68 f132 f85 f133 f72)) :=
  fn_ok tab_ok4 (envL_ok (l := [(132, mkE p132 r132 false f132), (85, mkE p85 r85 false f85), (133, mkE p133 r133 false f133), (72, mkE p72 r72 false f72)]) (OKs.cons h132 (OKs.cons h85 (OKs.cons h133 (OKs.cons h72 OKs.nil))))) mixed4 (ann := (fun _ => false)) (L := L68 f132 f85 f133 f72) (fn := Proofs.Try.f68) (c := bodyC Proofs.Try.f68) (ls := []) Proofs.Try.func68 (by kernel_rfl) (by kernel_rfl) (by kernel_rfl) (by kernel_rfl)
    LoopsP.nil (e68 f132 f85 f133 f72)
/-! laws.eqDevice -/
def p178 : List SP := [.t .device, .t .device]
def r178 : List SP := [.one (.bool)]
noncomputable def F178 (f96 : Place × Place × Unit → Option (Bool × Unit)) (a : Device × Device × Unit) : Option (Bool × Unit) :=
  cond (!decide (a.1.Name = a.2.1.Name)) (some (false, ())) (cond (!(decide (a.1.Kind = a.2.1.Kind))) (some (false, ())) (cond (!decide (a.1.Line = a.2.1.Line)) (some (false, ())) ((f96 (a.1.At, a.2.1.At, ())).bind fun x1 => cond (!x1.1) (some (false, ())) (cond (!(decide (a.1.Heading = a.2.1.Heading))) (some (false, ())) (cond (!(decide (a.1.Tilt = a.2.1.Tilt))) (some (false, ())) (cond (!(decide (a.1.Most = a.2.1.Most))) (some (false, ())) (some (true, ()))))))))
def E178 (f96 : Place × Place × Unit → Option (Bool × Unit)) : Env := envL [(96, mkE p96 r96 false f96)]
noncomputable def L178 (f96 : Place × Place × Unit → Option (Bool × Unit)) : LEnv (densS (muts p178 ++ r178)) := lenv []
theorem e178 (f96 : Place × Place × Unit → Option (Bool × Unit)) (a : densS p178) : runF (E178 f96) tab4 (fun _ => false) p178 r178 Proofs.Try.f178 (L178 f96) a = F178 f96 a := by kernel_rfl
theorem ok178 {f96 : Place × Place × Unit → Option (Bool × Unit)} (h96 : OK Proofs.Try.prog 96 (mkE p96 r96 false f96)) : OK Proofs.Try.prog 178 (mkE p178 r178 false (F178 f96)) :=
  fn_ok tab_ok4 (envL_ok (l := [(96, mkE p96 r96 false f96)]) (OKs.cons h96 OKs.nil)) mixed4 (ann := (fun _ => false)) (L := L178 f96) (fn := Proofs.Try.f178) (c := bodyC Proofs.Try.f178) (ls := []) Proofs.Try.func178 (by kernel_rfl) (by kernel_rfl) (by kernel_rfl) (by kernel_rfl)
    LoopsP.nil (e178 f96)
/-! laws.eqDeviceS -/
def p134 : List SP := [.one (.r .device), .one (.r .device)]
def r134 : List SP := [.one (.bool)]
def q134_0 : List SP := pat 27 0 [(0, .one (.r .device)), (1, .one (.r .device)), (5, .one (.int .i64))]
noncomputable def s134_0 (f178 : Device × Device × Unit → Option (Bool × Unit)) (t1 : List Device × List Device × Int × Unit) (rec K : List Device × List Device × Int × Unit → Option (Bool × Unit)) : Option (Bool × Unit) :=
  cond (decide (t1.2.2.1 < (Int.ofNat (List.length t1.1)))) (rdL t1.1 t1.2.2.1 fun d2 => rdL t1.2.1 t1.2.2.1 fun d3 => (f178 (d2, d3, ())).bind fun x4 => cond (!x4.1) (some (false, ())) (rec (t1.1, t1.2.1, (w64 (t1.2.2.1 + 1)), ()))) (K (t1.1, t1.2.1, t1.2.2.1, ()))
noncomputable def F134 (f178 : Device × Device × Unit → Option (Bool × Unit)) (a : List Device × List Device × Unit) : Option (Bool × Unit) :=
  cond (!(decide ((Int.ofNat (List.length a.1)) = (Int.ofNat (List.length a.2.1))))) (some (false, ())) (iterF (s134_0 f178) fuel (a.1, a.2.1, 0, ()) fun t5 => some (true, ()))
def E134 (f178 : Device × Device × Unit → Option (Bool × Unit)) : Env := envL [(178, mkE p178 r178 false f178)]
noncomputable def L134 (f178 : Device × Device × Unit → Option (Bool × Unit)) : LEnv (densS (muts p134 ++ r134)) := lenv [(0, loopL (R := densS (muts p134 ++ r134)) q134_0 (s134_0 f178))]
theorem e134_0 (f178 : Device × Device × Unit → Option (Bool × Unit)) (X : Nat → St → Option (densS (muts p134 ++ r134))) (rec K : densS q134_0 → Option (densS (muts p134 ++ r134))) (t : densS q134_0) :
    ev (E134 f178) tab4 (fun _ => false) (L134 f178) (retK tab4 p134 r134 Proofs.Try.f134.results.toList) (loopC Proofs.Try.f134 0) (fun i s => cond (Nat.beq i 0) (decK 100 q134_0 s K) (X i s)) (fun s => decK 100 q134_0 s rec) (enc q134_0 t) = s134_0 f178 t rec K := by kernel_rfl
theorem e134 (f178 : Device × Device × Unit → Option (Bool × Unit)) (a : densS p134) : runF (E134 f178) tab4 (fun _ => false) p134 r134 Proofs.Try.f134 (L134 f178) a = F134 f178 a := by kernel_rfl
theorem ok134 {f178 : Device × Device × Unit → Option (Bool × Unit)} (h178 : OK Proofs.Try.prog 178 (mkE p178 r178 false f178)) : OK Proofs.Try.prog 134 (mkE p134 r134 false (F134 f178)) :=
  fn_ok tab_ok4 (envL_ok (l := [(178, mkE p178 r178 false f178)]) (OKs.cons h178 OKs.nil)) mixed4 (ann := (fun _ => false)) (L := L134 f178) (fn := Proofs.Try.f134) (c := bodyC Proofs.Try.f134) (ls := [(0, loopC Proofs.Try.f134 0)]) Proofs.Try.func134 (by kernel_rfl) (by kernel_rfl) (by kernel_rfl) (by kernel_rfl)
    (LoopsP.cons q134_0 (s134_0 f178) rfl (e134_0 f178) LoopsP.nil) (e134 f178)
/-! laws.eqGust -/
def p179 : List SP := [.t .gust, .t .gust]
def r179 : List SP := [.one (.bool)]
noncomputable def F179 (f96 : Place × Place × Unit → Option (Bool × Unit)) (a : Gust × Gust × Unit) : Option (Bool × Unit) :=
  cond (!(decide (a.1.From = a.2.1.From))) (some (false, ())) ((f96 (a.1.Drift, a.2.1.Drift, ())).bind fun x1 => cond (!x1.1) (some (false, ())) (some (true, ())))
def E179 (f96 : Place × Place × Unit → Option (Bool × Unit)) : Env := envL [(96, mkE p96 r96 false f96)]
noncomputable def L179 (f96 : Place × Place × Unit → Option (Bool × Unit)) : LEnv (densS (muts p179 ++ r179)) := lenv []
theorem e179 (f96 : Place × Place × Unit → Option (Bool × Unit)) (a : densS p179) : runF (E179 f96) tab4 (fun _ => false) p179 r179 Proofs.Try.f179 (L179 f96) a = F179 f96 a := by kernel_rfl
theorem ok179 {f96 : Place × Place × Unit → Option (Bool × Unit)} (h96 : OK Proofs.Try.prog 96 (mkE p96 r96 false f96)) : OK Proofs.Try.prog 179 (mkE p179 r179 false (F179 f96)) :=
  fn_ok tab_ok4 (envL_ok (l := [(96, mkE p96 r96 false f96)]) (OKs.cons h96 OKs.nil)) mixed4 (ann := (fun _ => false)) (L := L179 f96) (fn := Proofs.Try.f179) (c := bodyC Proofs.Try.f179) (ls := []) Proofs.Try.func179 (by kernel_rfl) (by kernel_rfl) (by kernel_rfl) (by kernel_rfl)
    LoopsP.nil (e179 f96)
/-! laws.eqGustS -/
def p135 : List SP := [.one (.r .gust), .one (.r .gust)]
def r135 : List SP := [.one (.bool)]
def q135_0 : List SP := pat 27 0 [(0, .one (.r .gust)), (1, .one (.r .gust)), (5, .one (.int .i64))]
noncomputable def s135_0 (f179 : Gust × Gust × Unit → Option (Bool × Unit)) (t1 : List Gust × List Gust × Int × Unit) (rec K : List Gust × List Gust × Int × Unit → Option (Bool × Unit)) : Option (Bool × Unit) :=
  cond (decide (t1.2.2.1 < (Int.ofNat (List.length t1.1)))) (rdL t1.1 t1.2.2.1 fun d2 => rdL t1.2.1 t1.2.2.1 fun d3 => (f179 (d2, d3, ())).bind fun x4 => cond (!x4.1) (some (false, ())) (rec (t1.1, t1.2.1, (w64 (t1.2.2.1 + 1)), ()))) (K (t1.1, t1.2.1, t1.2.2.1, ()))
noncomputable def F135 (f179 : Gust × Gust × Unit → Option (Bool × Unit)) (a : List Gust × List Gust × Unit) : Option (Bool × Unit) :=
  cond (!(decide ((Int.ofNat (List.length a.1)) = (Int.ofNat (List.length a.2.1))))) (some (false, ())) (iterF (s135_0 f179) fuel (a.1, a.2.1, 0, ()) fun t5 => some (true, ()))
def E135 (f179 : Gust × Gust × Unit → Option (Bool × Unit)) : Env := envL [(179, mkE p179 r179 false f179)]
noncomputable def L135 (f179 : Gust × Gust × Unit → Option (Bool × Unit)) : LEnv (densS (muts p135 ++ r135)) := lenv [(0, loopL (R := densS (muts p135 ++ r135)) q135_0 (s135_0 f179))]
theorem e135_0 (f179 : Gust × Gust × Unit → Option (Bool × Unit)) (X : Nat → St → Option (densS (muts p135 ++ r135))) (rec K : densS q135_0 → Option (densS (muts p135 ++ r135))) (t : densS q135_0) :
    ev (E135 f179) tab4 (fun _ => false) (L135 f179) (retK tab4 p135 r135 Proofs.Try.f135.results.toList) (loopC Proofs.Try.f135 0) (fun i s => cond (Nat.beq i 0) (decK 100 q135_0 s K) (X i s)) (fun s => decK 100 q135_0 s rec) (enc q135_0 t) = s135_0 f179 t rec K := by kernel_rfl
theorem e135 (f179 : Gust × Gust × Unit → Option (Bool × Unit)) (a : densS p135) : runF (E135 f179) tab4 (fun _ => false) p135 r135 Proofs.Try.f135 (L135 f179) a = F135 f179 a := by kernel_rfl
theorem ok135 {f179 : Gust × Gust × Unit → Option (Bool × Unit)} (h179 : OK Proofs.Try.prog 179 (mkE p179 r179 false f179)) : OK Proofs.Try.prog 135 (mkE p135 r135 false (F135 f179)) :=
  fn_ok tab_ok4 (envL_ok (l := [(179, mkE p179 r179 false f179)]) (OKs.cons h179 OKs.nil)) mixed4 (ann := (fun _ => false)) (L := L135 f179) (fn := Proofs.Try.f135) (c := bodyC Proofs.Try.f135) (ls := [(0, loopC Proofs.Try.f135 0)]) Proofs.Try.func135 (by kernel_rfl) (by kernel_rfl) (by kernel_rfl) (by kernel_rfl)
    (LoopsP.cons q135_0 (s135_0 f179) rfl (e135_0 f179) LoopsP.nil) (e135 f179)
/-! laws.eqShow -/
def p69 : List SP := [.agg [.r .device, .r .cue, .r .gust, .int .i64], .agg [.r .device, .r .cue, .r .gust, .int .i64]]
def r69 : List SP := [.one (.bool)]
noncomputable def F69 (f134 : List Device × List Device × Unit → Option (Bool × Unit)) (f45 : List Cue × List Cue × Unit → Option (Bool × Unit)) (f135 : List Gust × List Gust × Unit → Option (Bool × Unit)) (a : (List Device × List Cue × List Gust × Int × Unit) × (List Device × List Cue × List Gust × Int × Unit) × Unit) : Option (Bool × Unit) :=
  (f134 (a.1.1, a.2.1.1, ())).bind fun x1 => cond (!x1.1) (some (false, ())) ((f45 (a.1.2.1, a.2.1.2.1, ())).bind fun x2 => cond (!x2.1) (some (false, ())) ((f135 (a.1.2.2.1, a.2.1.2.2.1, ())).bind fun x3 => cond (!x3.1) (some (false, ())) (cond (!(decide (a.1.2.2.2.1 = a.2.1.2.2.2.1))) (some (false, ())) (some (true, ())))))
def E69 (f134 : List Device × List Device × Unit → Option (Bool × Unit)) (f45 : List Cue × List Cue × Unit → Option (Bool × Unit)) (f135 : List Gust × List Gust × Unit → Option (Bool × Unit)) : Env := envL [(134, mkE p134 r134 false f134), (45, mkE p45 r45 false f45), (135, mkE p135 r135 false f135)]
noncomputable def L69 (f134 : List Device × List Device × Unit → Option (Bool × Unit)) (f45 : List Cue × List Cue × Unit → Option (Bool × Unit)) (f135 : List Gust × List Gust × Unit → Option (Bool × Unit)) : LEnv (densS (muts p69 ++ r69)) := lenv []
theorem e69 (f134 : List Device × List Device × Unit → Option (Bool × Unit)) (f45 : List Cue × List Cue × Unit → Option (Bool × Unit)) (f135 : List Gust × List Gust × Unit → Option (Bool × Unit)) (a : densS p69) : runF (E69 f134 f45 f135) tab4 (fun _ => false) p69 r69 Proofs.Try.f69 (L69 f134 f45 f135) a = F69 f134 f45 f135 a := by kernel_rfl
theorem ok69 {f134 : List Device × List Device × Unit → Option (Bool × Unit)} {f45 : List Cue × List Cue × Unit → Option (Bool × Unit)} {f135 : List Gust × List Gust × Unit → Option (Bool × Unit)} (h134 : OK Proofs.Try.prog 134 (mkE p134 r134 false f134)) (h45 : OK Proofs.Try.prog 45 (mkE p45 r45 false f45)) (h135 : OK Proofs.Try.prog 135 (mkE p135 r135 false f135)) : OK Proofs.Try.prog 69 (mkE p69 r69 false (F69 f134 f45 f135)) :=
  fn_ok tab_ok4 (envL_ok (l := [(134, mkE p134 r134 false f134), (45, mkE p45 r45 false f45), (135, mkE p135 r135 false f135)]) (OKs.cons h134 (OKs.cons h45 (OKs.cons h135 OKs.nil)))) mixed4 (ann := (fun _ => false)) (L := L69 f134 f45 f135) (fn := Proofs.Try.f69) (c := bodyC Proofs.Try.f69) (ls := []) Proofs.Try.func69 (by kernel_rfl) (by kernel_rfl) (by kernel_rfl) (by kernel_rfl)
    LoopsP.nil (e69 f134 f45 f135)
/-! laws.FnExactIsShow -/
def p12 : List SP := [.agg [.r .device, .r .cue, .r .gust, .int .i64]]
def r12 : List SP := [.one (.bool)]
noncomputable def F12 (f65 : (List Device × List Cue × List Gust × Int × Unit) × Int × Unit → Option (Int × Unit)) (f67 : (List Device × List Cue × List Gust × Int × Unit) × Unit → Option ((List Device × List Cue × List Gust × Int × Unit) × Unit)) (f66 : (List Device × List Cue × List Gust × Int × Unit) × Unit → Option (Bool × Unit)) (f68 : (List Device × List Cue × List Gust × Int × Unit) × Unit → Option (Bool × Unit)) (f69 : (List Device × List Cue × List Gust × Int × Unit) × (List Device × List Cue × List Gust × Int × Unit) × Unit → Option (Bool × Unit)) (a : (List Device × List Cue × List Gust × Int × Unit) × Unit) : Option (Bool × Unit) :=
  (f65 ((a.1.1, a.1.2.1, a.1.2.2.1, a.1.2.2.2.1, ()), 1048576, ())).bind fun x1 => cond (decide (x1.1 < 0)) (some (true, ())) ((f67 ((a.1.1, a.1.2.1, a.1.2.2.1, a.1.2.2.2.1, ()), ())).bind fun x2 => (f66 ((x2.1.1, x2.1.2.1, x2.1.2.2.1, x2.1.2.2.2.1, ()), ())).bind fun x3 => (f67 ((a.1.1, a.1.2.1, a.1.2.2.1, a.1.2.2.2.1, ()), ())).bind fun x4 => (f68 ((x4.1.1, x4.1.2.1, x4.1.2.2.1, x4.1.2.2.2.1, ()), ())).bind fun x5 => cond (!(decide (x5.1 = x3.1))) (some (false, ())) ((f67 ((a.1.1, a.1.2.1, a.1.2.2.1, a.1.2.2.2.1, ()), ())).bind fun x6 => (f69 ((x4.1.1, x4.1.2.1, x4.1.2.2.1, x4.1.2.2.2.1, ()), (x6.1.1, x6.1.2.1, x6.1.2.2.1, x6.1.2.2.2.1, ()), ())).bind fun x7 => cond (!x7.1) (some (false, ())) (some (true, ()))))
def E12 (f65 : (List Device × List Cue × List Gust × Int × Unit) × Int × Unit → Option (Int × Unit)) (f67 : (List Device × List Cue × List Gust × Int × Unit) × Unit → Option ((List Device × List Cue × List Gust × Int × Unit) × Unit)) (f66 : (List Device × List Cue × List Gust × Int × Unit) × Unit → Option (Bool × Unit)) (f68 : (List Device × List Cue × List Gust × Int × Unit) × Unit → Option (Bool × Unit)) (f69 : (List Device × List Cue × List Gust × Int × Unit) × (List Device × List Cue × List Gust × Int × Unit) × Unit → Option (Bool × Unit)) : Env := envL [(65, mkE p65 r65 false f65), (67, mkE p67 r67 false f67), (66, mkE p66 r66 false f66), (68, mkE p68 r68 false f68), (69, mkE p69 r69 false f69)]
noncomputable def L12 (f65 : (List Device × List Cue × List Gust × Int × Unit) × Int × Unit → Option (Int × Unit)) (f67 : (List Device × List Cue × List Gust × Int × Unit) × Unit → Option ((List Device × List Cue × List Gust × Int × Unit) × Unit)) (f66 : (List Device × List Cue × List Gust × Int × Unit) × Unit → Option (Bool × Unit)) (f68 : (List Device × List Cue × List Gust × Int × Unit) × Unit → Option (Bool × Unit)) (f69 : (List Device × List Cue × List Gust × Int × Unit) × (List Device × List Cue × List Gust × Int × Unit) × Unit → Option (Bool × Unit)) : LEnv (densS (muts p12 ++ r12)) := lenv []
theorem e12 (f65 : (List Device × List Cue × List Gust × Int × Unit) × Int × Unit → Option (Int × Unit)) (f67 : (List Device × List Cue × List Gust × Int × Unit) × Unit → Option ((List Device × List Cue × List Gust × Int × Unit) × Unit)) (f66 : (List Device × List Cue × List Gust × Int × Unit) × Unit → Option (Bool × Unit)) (f68 : (List Device × List Cue × List Gust × Int × Unit) × Unit → Option (Bool × Unit)) (f69 : (List Device × List Cue × List Gust × Int × Unit) × (List Device × List Cue × List Gust × Int × Unit) × Unit → Option (Bool × Unit)) (a : densS p12) : runF (E12 f65 f67 f66 f68 f69) tab4 (fun _ => false) p12 r12 Proofs.Try.f12 (L12 f65 f67 f66 f68 f69) a = F12 f65 f67 f66 f68 f69 a := by kernel_rfl
theorem ok12 {f65 : (List Device × List Cue × List Gust × Int × Unit) × Int × Unit → Option (Int × Unit)} {f67 : (List Device × List Cue × List Gust × Int × Unit) × Unit → Option ((List Device × List Cue × List Gust × Int × Unit) × Unit)} {f66 : (List Device × List Cue × List Gust × Int × Unit) × Unit → Option (Bool × Unit)} {f68 : (List Device × List Cue × List Gust × Int × Unit) × Unit → Option (Bool × Unit)} {f69 : (List Device × List Cue × List Gust × Int × Unit) × (List Device × List Cue × List Gust × Int × Unit) × Unit → Option (Bool × Unit)} (h65 : OK Proofs.Try.prog 65 (mkE p65 r65 false f65)) (h67 : OK Proofs.Try.prog 67 (mkE p67 r67 false f67)) (h66 : OK Proofs.Try.prog 66 (mkE p66 r66 false f66)) (h68 : OK Proofs.Try.prog 68 (mkE p68 r68 false f68)) (h69 : OK Proofs.Try.prog 69 (mkE p69 r69 false f69)) : OK Proofs.Try.prog 12 (mkE p12 r12 false (F12 f65 f67 f66 f68 f69)) :=
  fn_ok tab_ok4 (envL_ok (l := [(65, mkE p65 r65 false f65), (67, mkE p67 r67 false f67), (66, mkE p66 r66 false f66), (68, mkE p68 r68 false f68), (69, mkE p69 r69 false f69)]) (OKs.cons h65 (OKs.cons h67 (OKs.cons h66 (OKs.cons h68 (OKs.cons h69 OKs.nil)))))) mixed4 (ann := (fun _ => false)) (L := L12 f65 f67 f66 f68 f69) (fn := Proofs.Try.f12) (c := bodyC Proofs.Try.f12) (ls := []) Proofs.Try.func12 (by kernel_rfl) (by kernel_rfl) (by kernel_rfl) (by kernel_rfl)
    LoopsP.nil (e12 f65 f67 f66 f68 f69)
end Ev
