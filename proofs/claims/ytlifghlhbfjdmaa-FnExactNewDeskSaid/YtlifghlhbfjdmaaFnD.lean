/- Functions of the program, as the evaluator sees them. -/
import Derived.Test.YtlifghlhbfjdmaaFlat
set_option linter.unusedVariables false
set_option maxRecDepth 100000
namespace Ev
open Go
def tab : Tab := [(3, ⟨1, false, 8, [.int .i64 0], [], .int .i64, false⟩),
  (5, ⟨1, false, 1, [.int .u8 0], [], .int .u8, false⟩),
  (9, ⟨1, false, 16, [.str []], [], .str, false⟩),
  (22, ⟨1, false, 24, [.nils], [], .sl .u8, false⟩),
  (44, ⟨1, false, 24, [.nils], [], .sl .cue, false⟩),
  (57, ⟨2, true, 16, [.int .i64 0, .int .i64 0], [(0, 1, false), (1, 1, false)], .struct, false⟩),
  (59, ⟨4, true, 32, [.int .i64 0, .int .i64 0, .int .i64 0, .int .i64 0], [(0, 2, true), (2, 2, true)], .struct, false⟩),
  (65, ⟨1, false, 24, [.nils], [], .sl .place, false⟩),
  (77, ⟨1, false, 24, [.nils], [], .sl .device, false⟩),
  (78, ⟨1, false, 24, [.nils], [], .sl .gust, false⟩),
  (80, ⟨4, true, 80, [.nils, .nils, .nils, .int .i64 0], [(0, 1, false), (1, 1, false), (2, 1, false), (3, 1, false)], .struct, false⟩),
  (82, ⟨9, true, 136, [.nils, .nils, .nils, .int .i64 0, .nils, .int .i64 0, .int .i64 0, .int .i64 0, .int .i64 0], [(0, 4, true), (4, 1, false), (5, 4, true)], .struct, false⟩),
  (88, ⟨8, true, 80, [.str [], .int .i64 0, .str [], .int .i64 0, .int .i64 0, .int .i64 0, .int .i64 0, .int .i64 0], [(0, 1, false), (1, 1, false), (2, 1, false), (3, 2, true), (5, 1, false), (6, 1, false), (7, 1, false)], .struct, false⟩),
  (127, ⟨4, true, 40, [.int .i64 0, .str [], .int .i64 0, .int .i64 0], [(0, 1, false), (1, 1, false), (2, 1, false), (3, 1, false)], .struct, false⟩),
  (182, ⟨3, true, 24, [.int .i64 0, .int .i64 0, .int .i64 0], [(0, 1, false), (1, 2, true)], .struct, false⟩)]
theorem tab_ok : TabOK Proofs.Try.prog tab := tab_of2 (by kernel_rfl) (by kernel_rfl)
theorem mixed : Proofs.Try.prog.follows .mixedOrders = true := by kernel_rfl
/-! spec.NewDesk -/
def p49 : List SP := []
def r49 : List SP := [.agg [.o 0 .device, .o 1 .cue, .o 2 .gust, .int .i64, .o 3 .place, .int .i64, .int .i64, .int .i64, .int .i64]]
noncomputable def F49 (a : Unit) : Option ((List Device × List Cue × List Gust × Int × List Place × Int × Int × Int × Int × Unit) × Unit) :=
  some (([], [], [], 0, ([(⟨0, 0⟩ : Place)] : List Place), 0, 0, 0, 0, ()), ())
def E49 : Env := envL []
noncomputable def L49 : LEnv (densS (muts p49 ++ r49)) := lenv []
theorem e49 (a : densS p49) : runF (E49) tab (fun _ => false) p49 r49 Proofs.Try.f49 (L49) a = F49 a := by kernel_rfl
theorem ok49 : OK Proofs.Try.prog 49 (mkE p49 r49 false (F49)) :=
  fn_ok tab_ok (envL_ok (l := []) OKs.nil) mixed (ann := (fun _ => false)) (L := L49) (fn := Proofs.Try.f49) (c := bodyC Proofs.Try.f49) (ls := []) Proofs.Try.func49 (by kernel_rfl) (by kernel_rfl) (by kernel_rfl) (by kernel_rfl)
    LoopsP.nil (e49)
/-! impl.NewDesk -/
def p50 : List SP := []
def r50 : List SP := [.agg [.o 0 .device, .o 1 .cue, .o 2 .gust, .int .i64, .o 3 .place, .int .i64, .int .i64, .int .i64, .int .i64]]
noncomputable def F50 (a : Unit) : Option ((List Device × List Cue × List Gust × Int × List Place × Int × Int × Int × Int × Unit) × Unit) :=
  some (([], [], [], 0, ([(⟨0, 0⟩ : Place)] : List Place), 0, 0, 0, 0, ()), ())
def E50 : Env := envL []
noncomputable def L50 : LEnv (densS (muts p50 ++ r50)) := lenv []
theorem e50 (a : densS p50) : runF (E50) tab (fun _ => false) p50 r50 Proofs.Try.f50 (L50) a = F50 a := by kernel_rfl
theorem ok50 : OK Proofs.Try.prog 50 (mkE p50 r50 false (F50)) :=
  fn_ok tab_ok (envL_ok (l := []) OKs.nil) mixed (ann := (fun _ => false)) (L := L50) (fn := Proofs.Try.f50) (c := bodyC Proofs.Try.f50) (ls := []) Proofs.Try.func50 (by kernel_rfl) (by kernel_rfl) (by kernel_rfl) (by kernel_rfl)
    LoopsP.nil (e50)
/-! laws.eqPlace -/
def p96 : List SP := [.t .place, .t .place]
def r96 : List SP := [.one (.bool)]
noncomputable def F96 (a : Place × Place × Unit) : Option (Bool × Unit) :=
  cond (!(decide (a.1.X = a.2.1.X))) (some (false, ())) (cond (!(decide (a.1.Y = a.2.1.Y))) (some (false, ())) (some (true, ())))
def E96 : Env := envL []
noncomputable def L96 : LEnv (densS (muts p96 ++ r96)) := lenv []
theorem e96 (a : densS p96) : runF (E96) tab (fun _ => false) p96 r96 Proofs.Try.f96 (L96) a = F96 a := by kernel_rfl
theorem ok96 : OK Proofs.Try.prog 96 (mkE p96 r96 false (F96)) :=
  fn_ok tab_ok (envL_ok (l := []) OKs.nil) mixed (ann := (fun _ => false)) (L := L96) (fn := Proofs.Try.f96) (c := bodyC Proofs.Try.f96) (ls := []) Proofs.Try.func96 (by kernel_rfl) (by kernel_rfl) (by kernel_rfl) (by kernel_rfl)
    LoopsP.nil (e96)
/-! laws.eqDevice -/
def p178 : List SP := [.t .device, .t .device]
def r178 : List SP := [.one (.bool)]
noncomputable def F178 (f96 : Place × Place × Unit → Option (Bool × Unit)) (a : Device × Device × Unit) : Option (Bool × Unit) :=
  cond (!decide (a.1.Name = a.2.1.Name)) (some (false, ())) (cond (!(decide (a.1.Kind = a.2.1.Kind))) (some (false, ())) (cond (!decide (a.1.Line = a.2.1.Line)) (some (false, ())) ((f96 (a.1.At, a.2.1.At, ())).bind fun x1 => cond (!x1.1) (some (false, ())) (cond (!(decide (a.1.Heading = a.2.1.Heading))) (some (false, ())) (cond (!(decide (a.1.Tilt = a.2.1.Tilt))) (some (false, ())) (cond (!(decide (a.1.Most = a.2.1.Most))) (some (false, ())) (some (true, ()))))))))
def E178 (f96 : Place × Place × Unit → Option (Bool × Unit)) : Env := envL [(96, mkE p96 r96 false f96)]
noncomputable def L178 (f96 : Place × Place × Unit → Option (Bool × Unit)) : LEnv (densS (muts p178 ++ r178)) := lenv []
theorem e178 (f96 : Place × Place × Unit → Option (Bool × Unit)) (a : densS p178) : runF (E178 f96) tab (fun _ => false) p178 r178 Proofs.Try.f178 (L178 f96) a = F178 f96 a := by kernel_rfl
theorem ok178 {f96 : Place × Place × Unit → Option (Bool × Unit)} (h96 : OK Proofs.Try.prog 96 (mkE p96 r96 false f96)) : OK Proofs.Try.prog 178 (mkE p178 r178 false (F178 f96)) :=
  fn_ok tab_ok (envL_ok (l := [(96, mkE p96 r96 false f96)]) (OKs.cons h96 OKs.nil)) mixed (ann := (fun _ => false)) (L := L178 f96) (fn := Proofs.Try.f178) (c := bodyC Proofs.Try.f178) (ls := []) Proofs.Try.func178 (by kernel_rfl) (by kernel_rfl) (by kernel_rfl) (by kernel_rfl)
    LoopsP.nil (e178 f96)
/-! laws.eqDeviceS -/
def p134 : List SP := [.one (.r .device), .one (.r .device)]
def r134 : List SP := [.one (.bool)]
def q134_0 : List SP := pat 27 0 [(0, .one (.r .device)), (1, .one (.r .device)), (5, .one (.int .i64))]
noncomputable def s134_0 (f178 : Device × Device × Unit → Option (Bool × Unit)) (t1 : List Device × List Device × Int × Unit) (rec K : List Device × List Device × Int × Unit → Option (Bool × Unit)) : Option (Bool × Unit) :=
  cond (decide (t1.2.2.1 < (Int.ofNat (List.length t1.1)))) (rdL t1.1 t1.2.2.1 fun d2 => rdL t1.2.1 t1.2.2.1 fun d3 => (f178 (d2, d3, ())).bind fun x4 => cond (!x4.1) (some (false, ())) (rec (t1.1, t1.2.1, (w64 (t1.2.2.1 + 1)), ()))) (K (t1.1, t1.2.1, t1.2.2.1, ()))
noncomputable def F134 (f178 : Device × Device × Unit → Option (Bool × Unit)) (a : List Device × List Device × Unit) : Option (Bool × Unit) :=
  cond (!(decide ((Int.ofNat (List.length a.1)) = (Int.ofNat (List.length a.2.1))))) (some (false, ())) (iterF (s134_0 f178) fuel (a.1, a.2.1, 0, ()) fun t5 => some (true, ()))
def E134 (f178 : Device × Device × Unit → Option (Bool × Unit)) : Env := envL [(178, mkE p178 r178 false f178)]
noncomputable def L134 (f178 : Device × Device × Unit → Option (Bool × Unit)) : LEnv (densS (muts p134 ++ r134)) := lenv [(0, loopL (R := densS (muts p134 ++ r134)) q134_0 (s134_0 f178))]
theorem e134_0 (f178 : Device × Device × Unit → Option (Bool × Unit)) (X : Nat → St → Option (densS (muts p134 ++ r134))) (rec K : densS q134_0 → Option (densS (muts p134 ++ r134))) (t : densS q134_0) :
    ev (E134 f178) tab (fun _ => false) (L134 f178) (retK tab p134 r134 Proofs.Try.f134.results.toList) (loopC Proofs.Try.f134 0) (fun i s => cond (Nat.beq i 0) (decK 100 q134_0 s K) (X i s)) (fun s => decK 100 q134_0 s rec) (enc q134_0 t) = s134_0 f178 t rec K := by kernel_rfl
theorem e134 (f178 : Device × Device × Unit → Option (Bool × Unit)) (a : densS p134) : runF (E134 f178) tab (fun _ => false) p134 r134 Proofs.Try.f134 (L134 f178) a = F134 f178 a := by kernel_rfl
theorem ok134 {f178 : Device × Device × Unit → Option (Bool × Unit)} (h178 : OK Proofs.Try.prog 178 (mkE p178 r178 false f178)) : OK Proofs.Try.prog 134 (mkE p134 r134 false (F134 f178)) :=
  fn_ok tab_ok (envL_ok (l := [(178, mkE p178 r178 false f178)]) (OKs.cons h178 OKs.nil)) mixed (ann := (fun _ => false)) (L := L134 f178) (fn := Proofs.Try.f134) (c := bodyC Proofs.Try.f134) (ls := [(0, loopC Proofs.Try.f134 0)]) Proofs.Try.func134 (by kernel_rfl) (by kernel_rfl) (by kernel_rfl) (by kernel_rfl)
    (LoopsP.cons q134_0 (s134_0 f178) rfl (e134_0 f178) LoopsP.nil) (e134 f178)
/-! laws.eqCue -/
def p101 : List SP := [.t .cue, .t .cue]
def r101 : List SP := [.one (.bool)]
noncomputable def F101 (a : Cue × Cue × Unit) : Option (Bool × Unit) :=
  cond (!(decide (a.1.Tick = a.2.1.Tick))) (some (false, ())) (cond (!decide (a.1.Name = a.2.1.Name)) (some (false, ())) (cond (!(decide (a.1.Level = a.2.1.Level))) (some (false, ())) (cond (!(decide (a.1.Ramp = a.2.1.Ramp))) (some (false, ())) (some (true, ())))))
def E101 : Env := envL []
noncomputable def L101 : LEnv (densS (muts p101 ++ r101)) := lenv []
theorem e101 (a : densS p101) : runF (E101) tab (fun _ => false) p101 r101 Proofs.Try.f101 (L101) a = F101 a := by kernel_rfl
theorem ok101 : OK Proofs.Try.prog 101 (mkE p101 r101 false (F101)) :=
  fn_ok tab_ok (envL_ok (l := []) OKs.nil) mixed (ann := (fun _ => false)) (L := L101) (fn := Proofs.Try.f101) (c := bodyC Proofs.Try.f101) (ls := []) Proofs.Try.func101 (by kernel_rfl) (by kernel_rfl) (by kernel_rfl) (by kernel_rfl)
    LoopsP.nil (e101)
/-! laws.eqCueS -/
def p45 : List SP := [.one (.r .cue), .one (.r .cue)]
def r45 : List SP := [.one (.bool)]
def q45_0 : List SP := pat 27 0 [(0, .one (.r .cue)), (1, .one (.r .cue)), (5, .one (.int .i64))]
noncomputable def s45_0 (f101 : Cue × Cue × Unit → Option (Bool × Unit)) (t1 : List Cue × List Cue × Int × Unit) (rec K : List Cue × List Cue × Int × Unit → Option (Bool × Unit)) : Option (Bool × Unit) :=
  cond (decide (t1.2.2.1 < (Int.ofNat (List.length t1.1)))) (rdL t1.1 t1.2.2.1 fun d2 => rdL t1.2.1 t1.2.2.1 fun d3 => (f101 (d2, d3, ())).bind fun x4 => cond (!x4.1) (some (false, ())) (rec (t1.1, t1.2.1, (w64 (t1.2.2.1 + 1)), ()))) (K (t1.1, t1.2.1, t1.2.2.1, ()))
noncomputable def F45 (f101 : Cue × Cue × Unit → Option (Bool × Unit)) (a : List Cue × List Cue × Unit) : Option (Bool × Unit) :=
  cond (!(decide ((Int.ofNat (List.length a.1)) = (Int.ofNat (List.length a.2.1))))) (some (false, ())) (iterF (s45_0 f101) fuel (a.1, a.2.1, 0, ()) fun t5 => some (true, ()))
def E45 (f101 : Cue × Cue × Unit → Option (Bool × Unit)) : Env := envL [(101, mkE p101 r101 false f101)]
noncomputable def L45 (f101 : Cue × Cue × Unit → Option (Bool × Unit)) : LEnv (densS (muts p45 ++ r45)) := lenv [(0, loopL (R := densS (muts p45 ++ r45)) q45_0 (s45_0 f101))]
theorem e45_0 (f101 : Cue × Cue × Unit → Option (Bool × Unit)) (X : Nat → St → Option (densS (muts p45 ++ r45))) (rec K : densS q45_0 → Option (densS (muts p45 ++ r45))) (t : densS q45_0) :
    ev (E45 f101) tab (fun _ => false) (L45 f101) (retK tab p45 r45 Proofs.Try.f45.results.toList) (loopC Proofs.Try.f45 0) (fun i s => cond (Nat.beq i 0) (decK 100 q45_0 s K) (X i s)) (fun s => decK 100 q45_0 s rec) (enc q45_0 t) = s45_0 f101 t rec K := by kernel_rfl
theorem e45 (f101 : Cue × Cue × Unit → Option (Bool × Unit)) (a : densS p45) : runF (E45 f101) tab (fun _ => false) p45 r45 Proofs.Try.f45 (L45 f101) a = F45 f101 a := by kernel_rfl
theorem ok45 {f101 : Cue × Cue × Unit → Option (Bool × Unit)} (h101 : OK Proofs.Try.prog 101 (mkE p101 r101 false f101)) : OK Proofs.Try.prog 45 (mkE p45 r45 false (F45 f101)) :=
  fn_ok tab_ok (envL_ok (l := [(101, mkE p101 r101 false f101)]) (OKs.cons h101 OKs.nil)) mixed (ann := (fun _ => false)) (L := L45 f101) (fn := Proofs.Try.f45) (c := bodyC Proofs.Try.f45) (ls := [(0, loopC Proofs.Try.f45 0)]) Proofs.Try.func45 (by kernel_rfl) (by kernel_rfl) (by kernel_rfl) (by kernel_rfl)
    (LoopsP.cons q45_0 (s45_0 f101) rfl (e45_0 f101) LoopsP.nil) (e45 f101)
/-! laws.eqGust -/
def p179 : List SP := [.t .gust, .t .gust]
def r179 : List SP := [.one (.bool)]
noncomputable def F179 (f96 : Place × Place × Unit → Option (Bool × Unit)) (a : Gust × Gust × Unit) : Option (Bool × Unit) :=
  cond (!(decide (a.1.From = a.2.1.From))) (some (false, ())) ((f96 (a.1.Drift, a.2.1.Drift, ())).bind fun x1 => cond (!x1.1) (some (false, ())) (some (true, ())))
def E179 (f96 : Place × Place × Unit → Option (Bool × Unit)) : Env := envL [(96, mkE p96 r96 false f96)]
noncomputable def L179 (f96 : Place × Place × Unit → Option (Bool × Unit)) : LEnv (densS (muts p179 ++ r179)) := lenv []
theorem e179 (f96 : Place × Place × Unit → Option (Bool × Unit)) (a : densS p179) : runF (E179 f96) tab (fun _ => false) p179 r179 Proofs.Try.f179 (L179 f96) a = F179 f96 a := by kernel_rfl
theorem ok179 {f96 : Place × Place × Unit → Option (Bool × Unit)} (h96 : OK Proofs.Try.prog 96 (mkE p96 r96 false f96)) : OK Proofs.Try.prog 179 (mkE p179 r179 false (F179 f96)) :=
  fn_ok tab_ok (envL_ok (l := [(96, mkE p96 r96 false f96)]) (OKs.cons h96 OKs.nil)) mixed (ann := (fun _ => false)) (L := L179 f96) (fn := Proofs.Try.f179) (c := bodyC Proofs.Try.f179) (ls := []) Proofs.Try.func179 (by kernel_rfl) (by kernel_rfl) (by kernel_rfl) (by kernel_rfl)
    LoopsP.nil (e179 f96)
/-! laws.eqGustS -/
def p135 : List SP := [.one (.r .gust), .one (.r .gust)]
def r135 : List SP := [.one (.bool)]
def q135_0 : List SP := pat 27 0 [(0, .one (.r .gust)), (1, .one (.r .gust)), (5, .one (.int .i64))]
noncomputable def s135_0 (f179 : Gust × Gust × Unit → Option (Bool × Unit)) (t1 : List Gust × List Gust × Int × Unit) (rec K : List Gust × List Gust × Int × Unit → Option (Bool × Unit)) : Option (Bool × Unit) :=
  cond (decide (t1.2.2.1 < (Int.ofNat (List.length t1.1)))) (rdL t1.1 t1.2.2.1 fun d2 => rdL t1.2.1 t1.2.2.1 fun d3 => (f179 (d2, d3, ())).bind fun x4 => cond (!x4.1) (some (false, ())) (rec (t1.1, t1.2.1, (w64 (t1.2.2.1 + 1)), ()))) (K (t1.1, t1.2.1, t1.2.2.1, ()))
noncomputable def F135 (f179 : Gust × Gust × Unit → Option (Bool × Unit)) (a : List Gust × List Gust × Unit) : Option (Bool × Unit) :=
  cond (!(decide ((Int.ofNat (List.length a.1)) = (Int.ofNat (List.length a.2.1))))) (some (false, ())) (iterF (s135_0 f179) fuel (a.1, a.2.1, 0, ()) fun t5 => some (true, ()))
def E135 (f179 : Gust × Gust × Unit → Option (Bool × Unit)) : Env := envL [(179, mkE p179 r179 false f179)]
noncomputable def L135 (f179 : Gust × Gust × Unit → Option (Bool × Unit)) : LEnv (densS (muts p135 ++ r135)) := lenv [(0, loopL (R := densS (muts p135 ++ r135)) q135_0 (s135_0 f179))]
theorem e135_0 (f179 : Gust × Gust × Unit → Option (Bool × Unit)) (X : Nat → St → Option (densS (muts p135 ++ r135))) (rec K : densS q135_0 → Option (densS (muts p135 ++ r135))) (t : densS q135_0) :
    ev (E135 f179) tab (fun _ => false) (L135 f179) (retK tab p135 r135 Proofs.Try.f135.results.toList) (loopC Proofs.Try.f135 0) (fun i s => cond (Nat.beq i 0) (decK 100 q135_0 s K) (X i s)) (fun s => decK 100 q135_0 s rec) (enc q135_0 t) = s135_0 f179 t rec K := by kernel_rfl
theorem e135 (f179 : Gust × Gust × Unit → Option (Bool × Unit)) (a : densS p135) : runF (E135 f179) tab (fun _ => false) p135 r135 Proofs.Try.f135 (L135 f179) a = F135 f179 a := by kernel_rfl
theorem ok135 {f179 : Gust × Gust × Unit → Option (Bool × Unit)} (h179 : OK Proofs.Try.prog 179 (mkE p179 r179 false f179)) : OK Proofs.Try.prog 135 (mkE p135 r135 false (F135 f179)) :=
  fn_ok tab_ok (envL_ok (l := [(179, mkE p179 r179 false f179)]) (OKs.cons h179 OKs.nil)) mixed (ann := (fun _ => false)) (L := L135 f179) (fn := Proofs.Try.f135) (c := bodyC Proofs.Try.f135) (ls := [(0, loopC Proofs.Try.f135 0)]) Proofs.Try.func135 (by kernel_rfl) (by kernel_rfl) (by kernel_rfl) (by kernel_rfl)
    (LoopsP.cons q135_0 (s135_0 f179) rfl (e135_0 f179) LoopsP.nil) (e135 f179)
/-! laws.eqShow -/
def p69 : List SP := [.agg [.r .device, .r .cue, .r .gust, .int .i64], .agg [.r .device, .r .cue, .r .gust, .int .i64]]
def r69 : List SP := [.one (.bool)]
noncomputable def F69 (f134 : List Device × List Device × Unit → Option (Bool × Unit)) (f45 : List Cue × List Cue × Unit → Option (Bool × Unit)) (f135 : List Gust × List Gust × Unit → Option (Bool × Unit)) (a : (List Device × List Cue × List Gust × Int × Unit) × (List Device × List Cue × List Gust × Int × Unit) × Unit) : Option (Bool × Unit) :=
  (f134 (a.1.1, a.2.1.1, ())).bind fun x1 => cond (!x1.1) (some (false, ())) ((f45 (a.1.2.1, a.2.1.2.1, ())).bind fun x2 => cond (!x2.1) (some (false, ())) ((f135 (a.1.2.2.1, a.2.1.2.2.1, ())).bind fun x3 => cond (!x3.1) (some (false, ())) (cond (!(decide (a.1.2.2.2.1 = a.2.1.2.2.2.1))) (some (false, ())) (some (true, ())))))
def E69 (f134 : List Device × List Device × Unit → Option (Bool × Unit)) (f45 : List Cue × List Cue × Unit → Option (Bool × Unit)) (f135 : List Gust × List Gust × Unit → Option (Bool × Unit)) : Env := envL [(134, mkE p134 r134 false f134), (45, mkE p45 r45 false f45), (135, mkE p135 r135 false f135)]
noncomputable def L69 (f134 : List Device × List Device × Unit → Option (Bool × Unit)) (f45 : List Cue × List Cue × Unit → Option (Bool × Unit)) (f135 : List Gust × List Gust × Unit → Option (Bool × Unit)) : LEnv (densS (muts p69 ++ r69)) := lenv []
theorem e69 (f134 : List Device × List Device × Unit → Option (Bool × Unit)) (f45 : List Cue × List Cue × Unit → Option (Bool × Unit)) (f135 : List Gust × List Gust × Unit → Option (Bool × Unit)) (a : densS p69) : runF (E69 f134 f45 f135) tab (fun _ => false) p69 r69 Proofs.Try.f69 (L69 f134 f45 f135) a = F69 f134 f45 f135 a := by kernel_rfl
theorem ok69 {f134 : List Device × List Device × Unit → Option (Bool × Unit)} {f45 : List Cue × List Cue × Unit → Option (Bool × Unit)} {f135 : List Gust × List Gust × Unit → Option (Bool × Unit)} (h134 : OK Proofs.Try.prog 134 (mkE p134 r134 false f134)) (h45 : OK Proofs.Try.prog 45 (mkE p45 r45 false f45)) (h135 : OK Proofs.Try.prog 135 (mkE p135 r135 false f135)) : OK Proofs.Try.prog 69 (mkE p69 r69 false (F69 f134 f45 f135)) :=
  fn_ok tab_ok (envL_ok (l := [(134, mkE p134 r134 false f134), (45, mkE p45 r45 false f45), (135, mkE p135 r135 false f135)]) (OKs.cons h134 (OKs.cons h45 (OKs.cons h135 OKs.nil)))) mixed (ann := (fun _ => false)) (L := L69 f134 f45 f135) (fn := Proofs.Try.f69) (c := bodyC Proofs.Try.f69) (ls := []) Proofs.Try.func69 (by kernel_rfl) (by kernel_rfl) (by kernel_rfl) (by kernel_rfl)
    LoopsP.nil (e69 f134 f45 f135)
/-! laws.eqPlaceS -/
def p40 : List SP := [.one (.r .place), .one (.r .place)]
def r40 : List SP := [.one (.bool)]
def q40_0 : List SP := pat 27 0 [(0, .one (.r .place)), (1, .one (.r .place)), (5, .one (.int .i64))]
noncomputable def s40_0 (f96 : Place × Place × Unit → Option (Bool × Unit)) (t1 : List Place × List Place × Int × Unit) (rec K : List Place × List Place × Int × Unit → Option (Bool × Unit)) : Option (Bool × Unit) :=
  cond (decide (t1.2.2.1 < (Int.ofNat (List.length t1.1)))) (rdL t1.1 t1.2.2.1 fun d2 => rdL t1.2.1 t1.2.2.1 fun d3 => (f96 (d2, d3, ())).bind fun x4 => cond (!x4.1) (some (false, ())) (rec (t1.1, t1.2.1, (w64 (t1.2.2.1 + 1)), ()))) (K (t1.1, t1.2.1, t1.2.2.1, ()))
noncomputable def F40 (f96 : Place × Place × Unit → Option (Bool × Unit)) (a : List Place × List Place × Unit) : Option (Bool × Unit) :=
  cond (!(decide ((Int.ofNat (List.length a.1)) = (Int.ofNat (List.length a.2.1))))) (some (false, ())) (iterF (s40_0 f96) fuel (a.1, a.2.1, 0, ()) fun t5 => some (true, ()))
def E40 (f96 : Place × Place × Unit → Option (Bool × Unit)) : Env := envL [(96, mkE p96 r96 false f96)]
noncomputable def L40 (f96 : Place × Place × Unit → Option (Bool × Unit)) : LEnv (densS (muts p40 ++ r40)) := lenv [(0, loopL (R := densS (muts p40 ++ r40)) q40_0 (s40_0 f96))]
theorem e40_0 (f96 : Place × Place × Unit → Option (Bool × Unit)) (X : Nat → St → Option (densS (muts p40 ++ r40))) (rec K : densS q40_0 → Option (densS (muts p40 ++ r40))) (t : densS q40_0) :
    ev (E40 f96) tab (fun _ => false) (L40 f96) (retK tab p40 r40 Proofs.Try.f40.results.toList) (loopC Proofs.Try.f40 0) (fun i s => cond (Nat.beq i 0) (decK 100 q40_0 s K) (X i s)) (fun s => decK 100 q40_0 s rec) (enc q40_0 t) = s40_0 f96 t rec K := by kernel_rfl
theorem e40 (f96 : Place × Place × Unit → Option (Bool × Unit)) (a : densS p40) : runF (E40 f96) tab (fun _ => false) p40 r40 Proofs.Try.f40 (L40 f96) a = F40 f96 a := by kernel_rfl
theorem ok40 {f96 : Place × Place × Unit → Option (Bool × Unit)} (h96 : OK Proofs.Try.prog 96 (mkE p96 r96 false f96)) : OK Proofs.Try.prog 40 (mkE p40 r40 false (F40 f96)) :=
  fn_ok tab_ok (envL_ok (l := [(96, mkE p96 r96 false f96)]) (OKs.cons h96 OKs.nil)) mixed (ann := (fun _ => false)) (L := L40 f96) (fn := Proofs.Try.f40) (c := bodyC Proofs.Try.f40) (ls := [(0, loopC Proofs.Try.f40 0)]) Proofs.Try.func40 (by kernel_rfl) (by kernel_rfl) (by kernel_rfl) (by kernel_rfl)
    (LoopsP.cons q40_0 (s40_0 f96) rfl (e40_0 f96) LoopsP.nil) (e40 f96)
/-! laws.eqBox -/
def p39 : List SP := [.t .box, .t .box]
def r39 : List SP := [.one (.bool)]
noncomputable def F39 (f96 : Place × Place × Unit → Option (Bool × Unit)) (a : Box × Box × Unit) : Option (Bool × Unit) :=
  (f96 (a.1.Low, a.2.1.Low, ())).bind fun x1 => cond (!x1.1) (some (false, ())) ((f96 (a.1.High, a.2.1.High, ())).bind fun x2 => cond (!x2.1) (some (false, ())) (some (true, ())))
def E39 (f96 : Place × Place × Unit → Option (Bool × Unit)) : Env := envL [(96, mkE p96 r96 false f96)]
noncomputable def L39 (f96 : Place × Place × Unit → Option (Bool × Unit)) : LEnv (densS (muts p39 ++ r39)) := lenv []
theorem e39 (f96 : Place × Place × Unit → Option (Bool × Unit)) (a : densS p39) : runF (E39 f96) tab (fun _ => false) p39 r39 Proofs.Try.f39 (L39 f96) a = F39 f96 a := by kernel_rfl
theorem ok39 {f96 : Place × Place × Unit → Option (Bool × Unit)} (h96 : OK Proofs.Try.prog 96 (mkE p96 r96 false f96)) : OK Proofs.Try.prog 39 (mkE p39 r39 false (F39 f96)) :=
  fn_ok tab_ok (envL_ok (l := [(96, mkE p96 r96 false f96)]) (OKs.cons h96 OKs.nil)) mixed (ann := (fun _ => false)) (L := L39 f96) (fn := Proofs.Try.f39) (c := bodyC Proofs.Try.f39) (ls := []) Proofs.Try.func39 (by kernel_rfl) (by kernel_rfl) (by kernel_rfl) (by kernel_rfl)
    LoopsP.nil (e39 f96)
/-! laws.eqDesk -/
def p51 : List SP := [.agg [.r .device, .r .cue, .r .gust, .int .i64, .r .place, .int .i64, .int .i64, .int .i64, .int .i64], .agg [.r .device, .r .cue, .r .gust, .int .i64, .r .place, .int .i64, .int .i64, .int .i64, .int .i64]]
def r51 : List SP := [.one (.bool)]
noncomputable def F51 (f69 : (List Device × List Cue × List Gust × Int × Unit) × (List Device × List Cue × List Gust × Int × Unit) × Unit → Option (Bool × Unit)) (f40 : List Place × List Place × Unit → Option (Bool × Unit)) (f39 : Box × Box × Unit → Option (Bool × Unit)) (a : (List Device × List Cue × List Gust × Int × List Place × Int × Int × Int × Int × Unit) × (List Device × List Cue × List Gust × Int × List Place × Int × Int × Int × Int × Unit) × Unit) : Option (Bool × Unit) :=
  (f69 ((a.1.1, a.1.2.1, a.1.2.2.1, a.1.2.2.2.1, ()), (a.2.1.1, a.2.1.2.1, a.2.1.2.2.1, a.2.1.2.2.2.1, ()), ())).bind fun x1 => cond (!x1.1) (some (false, ())) ((f40 (a.1.2.2.2.2.1, a.2.1.2.2.2.2.1, ())).bind fun x2 => cond (!x2.1) (some (false, ())) ((f39 ((⟨⟨a.1.2.2.2.2.2.1, a.1.2.2.2.2.2.2.1⟩, ⟨a.1.2.2.2.2.2.2.2.1, a.1.2.2.2.2.2.2.2.2.1⟩⟩ : Box), (⟨⟨a.2.1.2.2.2.2.2.1, a.2.1.2.2.2.2.2.2.1⟩, ⟨a.2.1.2.2.2.2.2.2.2.1, a.2.1.2.2.2.2.2.2.2.2.1⟩⟩ : Box), ())).bind fun x3 => cond (!x3.1) (some (false, ())) (some (true, ()))))
def E51 (f69 : (List Device × List Cue × List Gust × Int × Unit) × (List Device × List Cue × List Gust × Int × Unit) × Unit → Option (Bool × Unit)) (f40 : List Place × List Place × Unit → Option (Bool × Unit)) (f39 : Box × Box × Unit → Option (Bool × Unit)) : Env := envL [(69, mkE p69 r69 false f69), (40, mkE p40 r40 false f40), (39, mkE p39 r39 false f39)]
noncomputable def L51 (f69 : (List Device × List Cue × List Gust × Int × Unit) × (List Device × List Cue × List Gust × Int × Unit) × Unit → Option (Bool × Unit)) (f40 : List Place × List Place × Unit → Option (Bool × Unit)) (f39 : Box × Box × Unit → Option (Bool × Unit)) : LEnv (densS (muts p51 ++ r51)) := lenv []
theorem e51 (f69 : (List Device × List Cue × List Gust × Int × Unit) × (List Device × List Cue × List Gust × Int × Unit) × Unit → Option (Bool × Unit)) (f40 : List Place × List Place × Unit → Option (Bool × Unit)) (f39 : Box × Box × Unit → Option (Bool × Unit)) (a : densS p51) : runF (E51 f69 f40 f39) tab (fun _ => false) p51 r51 Proofs.Try.f51 (L51 f69 f40 f39) a = F51 f69 f40 f39 a := by kernel_rfl
theorem ok51 {f69 : (List Device × List Cue × List Gust × Int × Unit) × (List Device × List Cue × List Gust × Int × Unit) × Unit → Option (Bool × Unit)} {f40 : List Place × List Place × Unit → Option (Bool × Unit)} {f39 : Box × Box × Unit → Option (Bool × Unit)} (h69 : OK Proofs.Try.prog 69 (mkE p69 r69 false f69)) (h40 : OK Proofs.Try.prog 40 (mkE p40 r40 false f40)) (h39 : OK Proofs.Try.prog 39 (mkE p39 r39 false f39)) : OK Proofs.Try.prog 51 (mkE p51 r51 false (F51 f69 f40 f39)) :=
  fn_ok tab_ok (envL_ok (l := [(69, mkE p69 r69 false f69), (40, mkE p40 r40 false f40), (39, mkE p39 r39 false f39)]) (OKs.cons h69 (OKs.cons h40 (OKs.cons h39 OKs.nil)))) mixed (ann := (fun _ => false)) (L := L51 f69 f40 f39) (fn := Proofs.Try.f51) (c := bodyC Proofs.Try.f51) (ls := []) Proofs.Try.func51 (by kernel_rfl) (by kernel_rfl) (by kernel_rfl) (by kernel_rfl)
    LoopsP.nil (e51 f69 f40 f39)
/-! laws.markText -/
def p102 : List SP := [.one (.int .i64)]
def r102 : List SP := [.one (.str)]
def q102_0 : List SP := pat 20 0 [(0, .one (.int .i64)), (3, .one (.str))]
noncomputable def s102_0 (t1 : Int × Str × Unit) (rec K : Int × Str × Unit → Option (Str × Unit)) : Option (Str × Unit) :=
  cond (decide (t1.1 > 0)) (capK (List.length (List.map (fun n => UInt8.ofNat (Int.toNat n)) ([(IntKind.wrap .u8 (w64 (48 + (Int.tmod t1.1 10))))] : List Int)) + List.length t1.2.1) (rec ((w64 (Int.tdiv t1.1 10)), ((List.map (fun n => UInt8.ofNat (Int.toNat n)) ([(IntKind.wrap .u8 (w64 (48 + (Int.tmod t1.1 10))))] : List Int)) ++ t1.2.1), ()))) (K (t1.1, t1.2.1, ()))
noncomputable def F102 (a : Int × Unit) : Option (Str × Unit) :=
  cond (decide (a.1 ≤ 0)) (some ([109, 48], ())) (iterF (s102_0) fuel (a.1, [], ()) fun t2 => capK (List.length [109] + List.length t2.2.1) (some (([109] ++ t2.2.1), ())))
def E102 : Env := envL []
noncomputable def L102 : LEnv (densS (muts p102 ++ r102)) := lenv [(0, loopL (R := densS (muts p102 ++ r102)) q102_0 (s102_0))]
theorem e102_0 (X : Nat → St → Option (densS (muts p102 ++ r102))) (rec K : densS q102_0 → Option (densS (muts p102 ++ r102))) (t : densS q102_0) :
    ev (E102) tab (fun _ => false) (L102) (retK tab p102 r102 Proofs.Try.f102.results.toList) (loopC Proofs.Try.f102 0) (fun i s => cond (Nat.beq i 0) (decK 100 q102_0 s K) (X i s)) (fun s => decK 100 q102_0 s rec) (enc q102_0 t) = s102_0 t rec K := by kernel_rfl
theorem e102 (a : densS p102) : runF (E102) tab (fun _ => false) p102 r102 Proofs.Try.f102 (L102) a = F102 a := by kernel_rfl
theorem ok102 : OK Proofs.Try.prog 102 (mkE p102 r102 false (F102)) :=
  fn_ok tab_ok (envL_ok (l := []) OKs.nil) mixed (ann := (fun _ => false)) (L := L102) (fn := Proofs.Try.f102) (c := bodyC Proofs.Try.f102) (ls := [(0, loopC Proofs.Try.f102 0)]) Proofs.Try.func102 (by kernel_rfl) (by kernel_rfl) (by kernel_rfl) (by kernel_rfl)
    (LoopsP.cons q102_0 (s102_0) rfl (e102_0) LoopsP.nil) (e102)
/-! laws.markDeviceS -/
def p155 : List SP := [.one (.o 0 .device), .one (.int .i64)]
def r155 : List SP := [.one (.int .i64)]
def q155_0 : List SP := pat 73 0 [(0, .one (.o 0 .device)), (1, .one (.int .i64)), (5, .one (.int .i64))]
noncomputable def s155_0 (f102 : Int × Unit → Option (Str × Unit)) (t1 : List Device × Int × Int × Unit) (rec K : List Device × Int × Int × Unit → Option (List Device × Int × Unit)) : Option (List Device × Int × Unit) :=
  cond (decide (t1.2.2.1 < (Int.ofNat (List.length t1.1)))) ((f102 (t1.2.1, ())).bind fun x2 => rdL t1.1 t1.2.2.1 fun _ => (t1.1[(Int.toNat t1.2.2.1)]?).bind fun d3 => rdL (List.set t1.1 (Int.toNat t1.2.2.1) (⟨x2.1, d3.Kind, d3.Line, ⟨d3.At.X, d3.At.Y⟩, d3.Heading, d3.Tilt, d3.Most⟩ : Device)) t1.2.2.1 fun _ => ((List.set t1.1 (Int.toNat t1.2.2.1) (⟨x2.1, d3.Kind, d3.Line, ⟨d3.At.X, d3.At.Y⟩, d3.Heading, d3.Tilt, d3.Most⟩ : Device))[(Int.toNat t1.2.2.1)]?).bind fun d4 => (f102 ((w64 ((w64 (t1.2.1 + 1)) + 1)), ())).bind fun x5 => rdL (List.set (List.set t1.1 (Int.toNat t1.2.2.1) (⟨x2.1, d3.Kind, d3.Line, ⟨d3.At.X, d3.At.Y⟩, d3.Heading, d3.Tilt, d3.Most⟩ : Device)) (Int.toNat t1.2.2.1) (⟨d4.Name, (w64 (t1.2.1 + 1)), d4.Line, ⟨d4.At.X, d4.At.Y⟩, d4.Heading, d4.Tilt, d4.Most⟩ : Device)) t1.2.2.1 fun _ => ((List.set (List.set t1.1 (Int.toNat t1.2.2.1) (⟨x2.1, d3.Kind, d3.Line, ⟨d3.At.X, d3.At.Y⟩, d3.Heading, d3.Tilt, d3.Most⟩ : Device)) (Int.toNat t1.2.2.1) (⟨d4.Name, (w64 (t1.2.1 + 1)), d4.Line, ⟨d4.At.X, d4.At.Y⟩, d4.Heading, d4.Tilt, d4.Most⟩ : Device))[(Int.toNat t1.2.2.1)]?).bind fun d6 => rdL (List.set (List.set (List.set t1.1 (Int.toNat t1.2.2.1) (⟨x2.1, d3.Kind, d3.Line, ⟨d3.At.X, d3.At.Y⟩, d3.Heading, d3.Tilt, d3.Most⟩ : Device)) (Int.toNat t1.2.2.1) (⟨d4.Name, (w64 (t1.2.1 + 1)), d4.Line, ⟨d4.At.X, d4.At.Y⟩, d4.Heading, d4.Tilt, d4.Most⟩ : Device)) (Int.toNat t1.2.2.1) (⟨d6.Name, d6.Kind, x5.1, ⟨d6.At.X, d6.At.Y⟩, d6.Heading, d6.Tilt, d6.Most⟩ : Device)) t1.2.2.1 fun _ => ((List.set (List.set (List.set t1.1 (Int.toNat t1.2.2.1) (⟨x2.1, d3.Kind, d3.Line, ⟨d3.At.X, d3.At.Y⟩, d3.Heading, d3.Tilt, d3.Most⟩ : Device)) (Int.toNat t1.2.2.1) (⟨d4.Name, (w64 (t1.2.1 + 1)), d4.Line, ⟨d4.At.X, d4.At.Y⟩, d4.Heading, d4.Tilt, d4.Most⟩ : Device)) (Int.toNat t1.2.2.1) (⟨d6.Name, d6.Kind, x5.1, ⟨d6.At.X, d6.At.Y⟩, d6.Heading, d6.Tilt, d6.Most⟩ : Device))[(Int.toNat t1.2.2.1)]?).bind fun d7 => rdL (List.set (List.set (List.set (List.set t1.1 (Int.toNat t1.2.2.1) (⟨x2.1, d3.Kind, d3.Line, ⟨d3.At.X, d3.At.Y⟩, d3.Heading, d3.Tilt, d3.Most⟩ : Device)) (Int.toNat t1.2.2.1) (⟨d4.Name, (w64 (t1.2.1 + 1)), d4.Line, ⟨d4.At.X, d4.At.Y⟩, d4.Heading, d4.Tilt, d4.Most⟩ : Device)) (Int.toNat t1.2.2.1) (⟨d6.Name, d6.Kind, x5.1, ⟨d6.At.X, d6.At.Y⟩, d6.Heading, d6.Tilt, d6.Most⟩ : Device)) (Int.toNat t1.2.2.1) (⟨d7.Name, d7.Kind, d7.Line, ⟨(w64 ((w64 ((w64 (t1.2.1 + 1)) + 1)) + 1)), d7.At.Y⟩, d7.Heading, d7.Tilt, d7.Most⟩ : Device)) t1.2.2.1 fun _ => ((List.set (List.set (List.set (List.set t1.1 (Int.toNat t1.2.2.1) (⟨x2.1, d3.Kind, d3.Line, ⟨d3.At.X, d3.At.Y⟩, d3.Heading, d3.Tilt, d3.Most⟩ : Device)) (Int.toNat t1.2.2.1) (⟨d4.Name, (w64 (t1.2.1 + 1)), d4.Line, ⟨d4.At.X, d4.At.Y⟩, d4.Heading, d4.Tilt, d4.Most⟩ : Device)) (Int.toNat t1.2.2.1) (⟨d6.Name, d6.Kind, x5.1, ⟨d6.At.X, d6.At.Y⟩, d6.Heading, d6.Tilt, d6.Most⟩ : Device)) (Int.toNat t1.2.2.1) (⟨d7.Name, d7.Kind, d7.Line, ⟨(w64 ((w64 ((w64 (t1.2.1 + 1)) + 1)) + 1)), d7.At.Y⟩, d7.Heading, d7.Tilt, d7.Most⟩ : Device))[(Int.toNat t1.2.2.1)]?).bind fun d8 => rdL (List.set (List.set (List.set (List.set (List.set t1.1 (Int.toNat t1.2.2.1) (⟨x2.1, d3.Kind, d3.Line, ⟨d3.At.X, d3.At.Y⟩, d3.Heading, d3.Tilt, d3.Most⟩ : Device)) (Int.toNat t1.2.2.1) (⟨d4.Name, (w64 (t1.2.1 + 1)), d4.Line, ⟨d4.At.X, d4.At.Y⟩, d4.Heading, d4.Tilt, d4.Most⟩ : Device)) (Int.toNat t1.2.2.1) (⟨d6.Name, d6.Kind, x5.1, ⟨d6.At.X, d6.At.Y⟩, d6.Heading, d6.Tilt, d6.Most⟩ : Device)) (Int.toNat t1.2.2.1) (⟨d7.Name, d7.Kind, d7.Line, ⟨(w64 ((w64 ((w64 (t1.2.1 + 1)) + 1)) + 1)), d7.At.Y⟩, d7.Heading, d7.Tilt, d7.Most⟩ : Device)) (Int.toNat t1.2.2.1) (⟨d8.Name, d8.Kind, d8.Line, ⟨d8.At.X, (w64 ((w64 ((w64 ((w64 (t1.2.1 + 1)) + 1)) + 1)) + 1))⟩, d8.Heading, d8.Tilt, d8.Most⟩ : Device)) t1.2.2.1 fun _ => ((List.set (List.set (List.set (List.set (List.set t1.1 (Int.toNat t1.2.2.1) (⟨x2.1, d3.Kind, d3.Line, ⟨d3.At.X, d3.At.Y⟩, d3.Heading, d3.Tilt, d3.Most⟩ : Device)) (Int.toNat t1.2.2.1) (⟨d4.Name, (w64 (t1.2.1 + 1)), d4.Line, ⟨d4.At.X, d4.At.Y⟩, d4.Heading, d4.Tilt, d4.Most⟩ : Device)) (Int.toNat t1.2.2.1) (⟨d6.Name, d6.Kind, x5.1, ⟨d6.At.X, d6.At.Y⟩, d6.Heading, d6.Tilt, d6.Most⟩ : Device)) (Int.toNat t1.2.2.1) (⟨d7.Name, d7.Kind, d7.Line, ⟨(w64 ((w64 ((w64 (t1.2.1 + 1)) + 1)) + 1)), d7.At.Y⟩, d7.Heading, d7.Tilt, d7.Most⟩ : Device)) (Int.toNat t1.2.2.1) (⟨d8.Name, d8.Kind, d8.Line, ⟨d8.At.X, (w64 ((w64 ((w64 ((w64 (t1.2.1 + 1)) + 1)) + 1)) + 1))⟩, d8.Heading, d8.Tilt, d8.Most⟩ : Device))[(Int.toNat t1.2.2.1)]?).bind fun d9 => rdL (List.set (List.set (List.set (List.set (List.set (List.set t1.1 (Int.toNat t1.2.2.1) (⟨x2.1, d3.Kind, d3.Line, ⟨d3.At.X, d3.At.Y⟩, d3.Heading, d3.Tilt, d3.Most⟩ : Device)) (Int.toNat t1.2.2.1) (⟨d4.Name, (w64 (t1.2.1 + 1)), d4.Line, ⟨d4.At.X, d4.At.Y⟩, d4.Heading, d4.Tilt, d4.Most⟩ : Device)) (Int.toNat t1.2.2.1) (⟨d6.Name, d6.Kind, x5.1, ⟨d6.At.X, d6.At.Y⟩, d6.Heading, d6.Tilt, d6.Most⟩ : Device)) (Int.toNat t1.2.2.1) (⟨d7.Name, d7.Kind, d7.Line, ⟨(w64 ((w64 ((w64 (t1.2.1 + 1)) + 1)) + 1)), d7.At.Y⟩, d7.Heading, d7.Tilt, d7.Most⟩ : Device)) (Int.toNat t1.2.2.1) (⟨d8.Name, d8.Kind, d8.Line, ⟨d8.At.X, (w64 ((w64 ((w64 ((w64 (t1.2.1 + 1)) + 1)) + 1)) + 1))⟩, d8.Heading, d8.Tilt, d8.Most⟩ : Device)) (Int.toNat t1.2.2.1) (⟨d9.Name, d9.Kind, d9.Line, ⟨d9.At.X, d9.At.Y⟩, (w64 ((w64 ((w64 ((w64 ((w64 (t1.2.1 + 1)) + 1)) + 1)) + 1)) + 1)), d9.Tilt, d9.Most⟩ : Device)) t1.2.2.1 fun _ => ((List.set (List.set (List.set (List.set (List.set (List.set t1.1 (Int.toNat t1.2.2.1) (⟨x2.1, d3.Kind, d3.Line, ⟨d3.At.X, d3.At.Y⟩, d3.Heading, d3.Tilt, d3.Most⟩ : Device)) (Int.toNat t1.2.2.1) (⟨d4.Name, (w64 (t1.2.1 + 1)), d4.Line, ⟨d4.At.X, d4.At.Y⟩, d4.Heading, d4.Tilt, d4.Most⟩ : Device)) (Int.toNat t1.2.2.1) (⟨d6.Name, d6.Kind, x5.1, ⟨d6.At.X, d6.At.Y⟩, d6.Heading, d6.Tilt, d6.Most⟩ : Device)) (Int.toNat t1.2.2.1) (⟨d7.Name, d7.Kind, d7.Line, ⟨(w64 ((w64 ((w64 (t1.2.1 + 1)) + 1)) + 1)), d7.At.Y⟩, d7.Heading, d7.Tilt, d7.Most⟩ : Device)) (Int.toNat t1.2.2.1) (⟨d8.Name, d8.Kind, d8.Line, ⟨d8.At.X, (w64 ((w64 ((w64 ((w64 (t1.2.1 + 1)) + 1)) + 1)) + 1))⟩, d8.Heading, d8.Tilt, d8.Most⟩ : Device)) (Int.toNat t1.2.2.1) (⟨d9.Name, d9.Kind, d9.Line, ⟨d9.At.X, d9.At.Y⟩, (w64 ((w64 ((w64 ((w64 ((w64 (t1.2.1 + 1)) + 1)) + 1)) + 1)) + 1)), d9.Tilt, d9.Most⟩ : Device))[(Int.toNat t1.2.2.1)]?).bind fun d10 => rdL (List.set (List.set (List.set (List.set (List.set (List.set (List.set t1.1 (Int.toNat t1.2.2.1) (⟨x2.1, d3.Kind, d3.Line, ⟨d3.At.X, d3.At.Y⟩, d3.Heading, d3.Tilt, d3.Most⟩ : Device)) (Int.toNat t1.2.2.1) (⟨d4.Name, (w64 (t1.2.1 + 1)), d4.Line, ⟨d4.At.X, d4.At.Y⟩, d4.Heading, d4.Tilt, d4.Most⟩ : Device)) (Int.toNat t1.2.2.1) (⟨d6.Name, d6.Kind, x5.1, ⟨d6.At.X, d6.At.Y⟩, d6.Heading, d6.Tilt, d6.Most⟩ : Device)) (Int.toNat t1.2.2.1) (⟨d7.Name, d7.Kind, d7.Line, ⟨(w64 ((w64 ((w64 (t1.2.1 + 1)) + 1)) + 1)), d7.At.Y⟩, d7.Heading, d7.Tilt, d7.Most⟩ : Device)) (Int.toNat t1.2.2.1) (⟨d8.Name, d8.Kind, d8.Line, ⟨d8.At.X, (w64 ((w64 ((w64 ((w64 (t1.2.1 + 1)) + 1)) + 1)) + 1))⟩, d8.Heading, d8.Tilt, d8.Most⟩ : Device)) (Int.toNat t1.2.2.1) (⟨d9.Name, d9.Kind, d9.Line, ⟨d9.At.X, d9.At.Y⟩, (w64 ((w64 ((w64 ((w64 ((w64 (t1.2.1 + 1)) + 1)) + 1)) + 1)) + 1)), d9.Tilt, d9.Most⟩ : Device)) (Int.toNat t1.2.2.1) (⟨d10.Name, d10.Kind, d10.Line, ⟨d10.At.X, d10.At.Y⟩, d10.Heading, (w64 ((w64 ((w64 ((w64 ((w64 ((w64 (t1.2.1 + 1)) + 1)) + 1)) + 1)) + 1)) + 1)), d10.Most⟩ : Device)) t1.2.2.1 fun _ => ((List.set (List.set (List.set (List.set (List.set (List.set (List.set t1.1 (Int.toNat t1.2.2.1) (⟨x2.1, d3.Kind, d3.Line, ⟨d3.At.X, d3.At.Y⟩, d3.Heading, d3.Tilt, d3.Most⟩ : Device)) (Int.toNat t1.2.2.1) (⟨d4.Name, (w64 (t1.2.1 + 1)), d4.Line, ⟨d4.At.X, d4.At.Y⟩, d4.Heading, d4.Tilt, d4.Most⟩ : Device)) (Int.toNat t1.2.2.1) (⟨d6.Name, d6.Kind, x5.1, ⟨d6.At.X, d6.At.Y⟩, d6.Heading, d6.Tilt, d6.Most⟩ : Device)) (Int.toNat t1.2.2.1) (⟨d7.Name, d7.Kind, d7.Line, ⟨(w64 ((w64 ((w64 (t1.2.1 + 1)) + 1)) + 1)), d7.At.Y⟩, d7.Heading, d7.Tilt, d7.Most⟩ : Device)) (Int.toNat t1.2.2.1) (⟨d8.Name, d8.Kind, d8.Line, ⟨d8.At.X, (w64 ((w64 ((w64 ((w64 (t1.2.1 + 1)) + 1)) + 1)) + 1))⟩, d8.Heading, d8.Tilt, d8.Most⟩ : Device)) (Int.toNat t1.2.2.1) (⟨d9.Name, d9.Kind, d9.Line, ⟨d9.At.X, d9.At.Y⟩, (w64 ((w64 ((w64 ((w64 ((w64 (t1.2.1 + 1)) + 1)) + 1)) + 1)) + 1)), d9.Tilt, d9.Most⟩ : Device)) (Int.toNat t1.2.2.1) (⟨d10.Name, d10.Kind, d10.Line, ⟨d10.At.X, d10.At.Y⟩, d10.Heading, (w64 ((w64 ((w64 ((w64 ((w64 ((w64 (t1.2.1 + 1)) + 1)) + 1)) + 1)) + 1)) + 1)), d10.Most⟩ : Device))[(Int.toNat t1.2.2.1)]?).bind fun d11 => rec ((List.set (List.set (List.set (List.set (List.set (List.set (List.set (List.set t1.1 (Int.toNat t1.2.2.1) (⟨x2.1, d3.Kind, d3.Line, ⟨d3.At.X, d3.At.Y⟩, d3.Heading, d3.Tilt, d3.Most⟩ : Device)) (Int.toNat t1.2.2.1) (⟨d4.Name, (w64 (t1.2.1 + 1)), d4.Line, ⟨d4.At.X, d4.At.Y⟩, d4.Heading, d4.Tilt, d4.Most⟩ : Device)) (Int.toNat t1.2.2.1) (⟨d6.Name, d6.Kind, x5.1, ⟨d6.At.X, d6.At.Y⟩, d6.Heading, d6.Tilt, d6.Most⟩ : Device)) (Int.toNat t1.2.2.1) (⟨d7.Name, d7.Kind, d7.Line, ⟨(w64 ((w64 ((w64 (t1.2.1 + 1)) + 1)) + 1)), d7.At.Y⟩, d7.Heading, d7.Tilt, d7.Most⟩ : Device)) (Int.toNat t1.2.2.1) (⟨d8.Name, d8.Kind, d8.Line, ⟨d8.At.X, (w64 ((w64 ((w64 ((w64 (t1.2.1 + 1)) + 1)) + 1)) + 1))⟩, d8.Heading, d8.Tilt, d8.Most⟩ : Device)) (Int.toNat t1.2.2.1) (⟨d9.Name, d9.Kind, d9.Line, ⟨d9.At.X, d9.At.Y⟩, (w64 ((w64 ((w64 ((w64 ((w64 (t1.2.1 + 1)) + 1)) + 1)) + 1)) + 1)), d9.Tilt, d9.Most⟩ : Device)) (Int.toNat t1.2.2.1) (⟨d10.Name, d10.Kind, d10.Line, ⟨d10.At.X, d10.At.Y⟩, d10.Heading, (w64 ((w64 ((w64 ((w64 ((w64 ((w64 (t1.2.1 + 1)) + 1)) + 1)) + 1)) + 1)) + 1)), d10.Most⟩ : Device)) (Int.toNat t1.2.2.1) (⟨d11.Name, d11.Kind, d11.Line, ⟨d11.At.X, d11.At.Y⟩, d11.Heading, d11.Tilt, (w64 ((w64 ((w64 ((w64 ((w64 ((w64 ((w64 (t1.2.1 + 1)) + 1)) + 1)) + 1)) + 1)) + 1)) + 1))⟩ : Device)), (w64 ((w64 ((w64 ((w64 ((w64 ((w64 ((w64 ((w64 (t1.2.1 + 1)) + 1)) + 1)) + 1)) + 1)) + 1)) + 1)) + 1)), (w64 (t1.2.2.1 + 1)), ())) (K (t1.1, t1.2.1, t1.2.2.1, ()))
noncomputable def F155 (f102 : Int × Unit → Option (Str × Unit)) (a : List Device × Int × Unit) : Option (List Device × Int × Unit) :=
  iterF (s155_0 f102) fuel (a.1, a.2.1, 0, ()) fun t12 => some (t12.1, t12.2.1, ())
def E155 (f102 : Int × Unit → Option (Str × Unit)) : Env := envL [(102, mkE p102 r102 false f102)]
noncomputable def L155 (f102 : Int × Unit → Option (Str × Unit)) : LEnv (densS (muts p155 ++ r155)) := lenv [(0, loopL (R := densS (muts p155 ++ r155)) q155_0 (s155_0 f102))]
theorem e155_0 (f102 : Int × Unit → Option (Str × Unit)) (X : Nat → St → Option (densS (muts p155 ++ r155))) (rec K : densS q155_0 → Option (densS (muts p155 ++ r155))) (t : densS q155_0) :
    ev (E155 f102) tab (fun _ => false) (L155 f102) (retK tab p155 r155 Proofs.Try.f155.results.toList) (loopC Proofs.Try.f155 0) (fun i s => cond (Nat.beq i 0) (decK 100 q155_0 s K) (X i s)) (fun s => decK 100 q155_0 s rec) (enc q155_0 t) = s155_0 f102 t rec K := by kernel_rfl
theorem e155 (f102 : Int × Unit → Option (Str × Unit)) (a : densS p155) : runF (E155 f102) tab (fun _ => false) p155 r155 Proofs.Try.f155 (L155 f102) a = F155 f102 a := by kernel_rfl
theorem ok155 {f102 : Int × Unit → Option (Str × Unit)} (h102 : OK Proofs.Try.prog 102 (mkE p102 r102 false f102)) : OK Proofs.Try.prog 155 (mkE p155 r155 false (F155 f102)) :=
  fn_ok tab_ok (envL_ok (l := [(102, mkE p102 r102 false f102)]) (OKs.cons h102 OKs.nil)) mixed (ann := (fun _ => false)) (L := L155 f102) (fn := Proofs.Try.f155) (c := bodyC Proofs.Try.f155) (ls := [(0, loopC Proofs.Try.f155 0)]) Proofs.Try.func155 (by kernel_rfl) (by kernel_rfl) (by kernel_rfl) (by kernel_rfl)
    (LoopsP.cons q155_0 (s155_0 f102) rfl (e155_0 f102) LoopsP.nil) (e155 f102)
/-! laws.markCueS -/
def p46 : List SP := [.one (.o 0 .cue), .one (.int .i64)]
def r46 : List SP := [.one (.int .i64)]
def q46_0 : List SP := pat 42 0 [(0, .one (.o 0 .cue)), (1, .one (.int .i64)), (5, .one (.int .i64))]
noncomputable def s46_0 (f102 : Int × Unit → Option (Str × Unit)) (t1 : List Cue × Int × Int × Unit) (rec K : List Cue × Int × Int × Unit → Option (List Cue × Int × Unit)) : Option (List Cue × Int × Unit) :=
  cond (decide (t1.2.2.1 < (Int.ofNat (List.length t1.1)))) (rdL t1.1 t1.2.2.1 fun _ => (t1.1[(Int.toNat t1.2.2.1)]?).bind fun d2 => (f102 ((w64 (t1.2.1 + 1)), ())).bind fun x3 => rdL (List.set t1.1 (Int.toNat t1.2.2.1) (⟨t1.2.1, d2.Name, d2.Level, d2.Ramp⟩ : Cue)) t1.2.2.1 fun _ => ((List.set t1.1 (Int.toNat t1.2.2.1) (⟨t1.2.1, d2.Name, d2.Level, d2.Ramp⟩ : Cue))[(Int.toNat t1.2.2.1)]?).bind fun d4 => rdL (List.set (List.set t1.1 (Int.toNat t1.2.2.1) (⟨t1.2.1, d2.Name, d2.Level, d2.Ramp⟩ : Cue)) (Int.toNat t1.2.2.1) (⟨d4.Tick, x3.1, d4.Level, d4.Ramp⟩ : Cue)) t1.2.2.1 fun _ => ((List.set (List.set t1.1 (Int.toNat t1.2.2.1) (⟨t1.2.1, d2.Name, d2.Level, d2.Ramp⟩ : Cue)) (Int.toNat t1.2.2.1) (⟨d4.Tick, x3.1, d4.Level, d4.Ramp⟩ : Cue))[(Int.toNat t1.2.2.1)]?).bind fun d5 => rdL (List.set (List.set (List.set t1.1 (Int.toNat t1.2.2.1) (⟨t1.2.1, d2.Name, d2.Level, d2.Ramp⟩ : Cue)) (Int.toNat t1.2.2.1) (⟨d4.Tick, x3.1, d4.Level, d4.Ramp⟩ : Cue)) (Int.toNat t1.2.2.1) (⟨d5.Tick, d5.Name, (w64 ((w64 (t1.2.1 + 1)) + 1)), d5.Ramp⟩ : Cue)) t1.2.2.1 fun _ => ((List.set (List.set (List.set t1.1 (Int.toNat t1.2.2.1) (⟨t1.2.1, d2.Name, d2.Level, d2.Ramp⟩ : Cue)) (Int.toNat t1.2.2.1) (⟨d4.Tick, x3.1, d4.Level, d4.Ramp⟩ : Cue)) (Int.toNat t1.2.2.1) (⟨d5.Tick, d5.Name, (w64 ((w64 (t1.2.1 + 1)) + 1)), d5.Ramp⟩ : Cue))[(Int.toNat t1.2.2.1)]?).bind fun d6 => rec ((List.set (List.set (List.set (List.set t1.1 (Int.toNat t1.2.2.1) (⟨t1.2.1, d2.Name, d2.Level, d2.Ramp⟩ : Cue)) (Int.toNat t1.2.2.1) (⟨d4.Tick, x3.1, d4.Level, d4.Ramp⟩ : Cue)) (Int.toNat t1.2.2.1) (⟨d5.Tick, d5.Name, (w64 ((w64 (t1.2.1 + 1)) + 1)), d5.Ramp⟩ : Cue)) (Int.toNat t1.2.2.1) (⟨d6.Tick, d6.Name, d6.Level, (w64 ((w64 ((w64 (t1.2.1 + 1)) + 1)) + 1))⟩ : Cue)), (w64 ((w64 ((w64 ((w64 (t1.2.1 + 1)) + 1)) + 1)) + 1)), (w64 (t1.2.2.1 + 1)), ())) (K (t1.1, t1.2.1, t1.2.2.1, ()))
noncomputable def F46 (f102 : Int × Unit → Option (Str × Unit)) (a : List Cue × Int × Unit) : Option (List Cue × Int × Unit) :=
  iterF (s46_0 f102) fuel (a.1, a.2.1, 0, ()) fun t7 => some (t7.1, t7.2.1, ())
def E46 (f102 : Int × Unit → Option (Str × Unit)) : Env := envL [(102, mkE p102 r102 false f102)]
noncomputable def L46 (f102 : Int × Unit → Option (Str × Unit)) : LEnv (densS (muts p46 ++ r46)) := lenv [(0, loopL (R := densS (muts p46 ++ r46)) q46_0 (s46_0 f102))]
theorem e46_0 (f102 : Int × Unit → Option (Str × Unit)) (X : Nat → St → Option (densS (muts p46 ++ r46))) (rec K : densS q46_0 → Option (densS (muts p46 ++ r46))) (t : densS q46_0) :
    ev (E46 f102) tab (fun _ => false) (L46 f102) (retK tab p46 r46 Proofs.Try.f46.results.toList) (loopC Proofs.Try.f46 0) (fun i s => cond (Nat.beq i 0) (decK 100 q46_0 s K) (X i s)) (fun s => decK 100 q46_0 s rec) (enc q46_0 t) = s46_0 f102 t rec K := by kernel_rfl
theorem e46 (f102 : Int × Unit → Option (Str × Unit)) (a : densS p46) : runF (E46 f102) tab (fun _ => false) p46 r46 Proofs.Try.f46 (L46 f102) a = F46 f102 a := by kernel_rfl
theorem ok46 {f102 : Int × Unit → Option (Str × Unit)} (h102 : OK Proofs.Try.prog 102 (mkE p102 r102 false f102)) : OK Proofs.Try.prog 46 (mkE p46 r46 false (F46 f102)) :=
  fn_ok tab_ok (envL_ok (l := [(102, mkE p102 r102 false f102)]) (OKs.cons h102 OKs.nil)) mixed (ann := (fun _ => false)) (L := L46 f102) (fn := Proofs.Try.f46) (c := bodyC Proofs.Try.f46) (ls := [(0, loopC Proofs.Try.f46 0)]) Proofs.Try.func46 (by kernel_rfl) (by kernel_rfl) (by kernel_rfl) (by kernel_rfl)
    (LoopsP.cons q46_0 (s46_0 f102) rfl (e46_0 f102) LoopsP.nil) (e46 f102)
/-! laws.markGustS -/
def p156 : List SP := [.one (.o 0 .gust), .one (.int .i64)]
def r156 : List SP := [.one (.int .i64)]
def q156_0 : List SP := pat 36 0 [(0, .one (.o 0 .gust)), (1, .one (.int .i64)), (5, .one (.int .i64))]
noncomputable def s156_0 (t1 : List Gust × Int × Int × Unit) (rec K : List Gust × Int × Int × Unit → Option (List Gust × Int × Unit)) : Option (List Gust × Int × Unit) :=
  cond (decide (t1.2.2.1 < (Int.ofNat (List.length t1.1)))) (rdL t1.1 t1.2.2.1 fun _ => (t1.1[(Int.toNat t1.2.2.1)]?).bind fun d2 => rdL (List.set t1.1 (Int.toNat t1.2.2.1) (⟨t1.2.1, ⟨d2.Drift.X, d2.Drift.Y⟩⟩ : Gust)) t1.2.2.1 fun _ => ((List.set t1.1 (Int.toNat t1.2.2.1) (⟨t1.2.1, ⟨d2.Drift.X, d2.Drift.Y⟩⟩ : Gust))[(Int.toNat t1.2.2.1)]?).bind fun d3 => rdL (List.set (List.set t1.1 (Int.toNat t1.2.2.1) (⟨t1.2.1, ⟨d2.Drift.X, d2.Drift.Y⟩⟩ : Gust)) (Int.toNat t1.2.2.1) (⟨d3.From, ⟨(w64 (t1.2.1 + 1)), d3.Drift.Y⟩⟩ : Gust)) t1.2.2.1 fun _ => ((List.set (List.set t1.1 (Int.toNat t1.2.2.1) (⟨t1.2.1, ⟨d2.Drift.X, d2.Drift.Y⟩⟩ : Gust)) (Int.toNat t1.2.2.1) (⟨d3.From, ⟨(w64 (t1.2.1 + 1)), d3.Drift.Y⟩⟩ : Gust))[(Int.toNat t1.2.2.1)]?).bind fun d4 => rec ((List.set (List.set (List.set t1.1 (Int.toNat t1.2.2.1) (⟨t1.2.1, ⟨d2.Drift.X, d2.Drift.Y⟩⟩ : Gust)) (Int.toNat t1.2.2.1) (⟨d3.From, ⟨(w64 (t1.2.1 + 1)), d3.Drift.Y⟩⟩ : Gust)) (Int.toNat t1.2.2.1) (⟨d4.From, ⟨d4.Drift.X, (w64 ((w64 (t1.2.1 + 1)) + 1))⟩⟩ : Gust)), (w64 ((w64 ((w64 (t1.2.1 + 1)) + 1)) + 1)), (w64 (t1.2.2.1 + 1)), ())) (K (t1.1, t1.2.1, t1.2.2.1, ()))
noncomputable def F156 (a : List Gust × Int × Unit) : Option (List Gust × Int × Unit) :=
  iterF (s156_0) fuel (a.1, a.2.1, 0, ()) fun t5 => some (t5.1, t5.2.1, ())
def E156 : Env := envL []
noncomputable def L156 : LEnv (densS (muts p156 ++ r156)) := lenv [(0, loopL (R := densS (muts p156 ++ r156)) q156_0 (s156_0))]
theorem e156_0 (X : Nat → St → Option (densS (muts p156 ++ r156))) (rec K : densS q156_0 → Option (densS (muts p156 ++ r156))) (t : densS q156_0) :
    ev (E156) tab (fun _ => false) (L156) (retK tab p156 r156 Proofs.Try.f156.results.toList) (loopC Proofs.Try.f156 0) (fun i s => cond (Nat.beq i 0) (decK 100 q156_0 s K) (X i s)) (fun s => decK 100 q156_0 s rec) (enc q156_0 t) = s156_0 t rec K := by kernel_rfl
theorem e156 (a : densS p156) : runF (E156) tab (fun _ => false) p156 r156 Proofs.Try.f156 (L156) a = F156 a := by kernel_rfl
theorem ok156 : OK Proofs.Try.prog 156 (mkE p156 r156 false (F156)) :=
  fn_ok tab_ok (envL_ok (l := []) OKs.nil) mixed (ann := (fun _ => false)) (L := L156) (fn := Proofs.Try.f156) (c := bodyC Proofs.Try.f156) (ls := [(0, loopC Proofs.Try.f156 0)]) Proofs.Try.func156 (by kernel_rfl) (by kernel_rfl) (by kernel_rfl) (by kernel_rfl)
    (LoopsP.cons q156_0 (s156_0) rfl (e156_0) LoopsP.nil) (e156)
/-! laws.markShow -/
def p103 : List SP := [.agg [.o 0 .device, .o 1 .cue, .o 2 .gust, .int .i64], .one (.int .i64)]
def r103 : List SP := [.one (.int .i64)]
noncomputable def F103 (f155 : List Device × Int × Unit → Option (List Device × Int × Unit)) (f46 : List Cue × Int × Unit → Option (List Cue × Int × Unit)) (f156 : List Gust × Int × Unit → Option (List Gust × Int × Unit)) (a : (List Device × List Cue × List Gust × Int × Unit) × Int × Unit) : Option (List Device × List Cue × List Gust × Int × Unit) :=
  (f155 (a.1.1, a.2.1, ())).bind fun x1 => (f46 (a.1.2.1, x1.2.1, ())).bind fun x2 => (f156 (a.1.2.2.1, x2.2.1, ())).bind fun x3 => some (x1.1, x2.1, x3.1, x3.2.1, ())
def E103 (f155 : List Device × Int × Unit → Option (List Device × Int × Unit)) (f46 : List Cue × Int × Unit → Option (List Cue × Int × Unit)) (f156 : List Gust × Int × Unit → Option (List Gust × Int × Unit)) : Env := envL [(155, mkE p155 r155 false f155), (46, mkE p46 r46 false f46), (156, mkE p156 r156 false f156)]
noncomputable def L103 (f155 : List Device × Int × Unit → Option (List Device × Int × Unit)) (f46 : List Cue × Int × Unit → Option (List Cue × Int × Unit)) (f156 : List Gust × Int × Unit → Option (List Gust × Int × Unit)) : LEnv (densS (muts p103 ++ r103)) := lenv []
theorem e103 (f155 : List Device × Int × Unit → Option (List Device × Int × Unit)) (f46 : List Cue × Int × Unit → Option (List Cue × Int × Unit)) (f156 : List Gust × Int × Unit → Option (List Gust × Int × Unit)) (a : densS p103) : runF (E103 f155 f46 f156) tab (fun _ => false) p103 r103 Proofs.Try.f103 (L103 f155 f46 f156) a = F103 f155 f46 f156 a := by kernel_rfl
theorem ok103 {f155 : List Device × Int × Unit → Option (List Device × Int × Unit)} {f46 : List Cue × Int × Unit → Option (List Cue × Int × Unit)} {f156 : List Gust × Int × Unit → Option (List Gust × Int × Unit)} (h155 : OK Proofs.Try.prog 155 (mkE p155 r155 false f155)) (h46 : OK Proofs.Try.prog 46 (mkE p46 r46 false f46)) (h156 : OK Proofs.Try.prog 156 (mkE p156 r156 false f156)) : OK Proofs.Try.prog 103 (mkE p103 r103 false (F103 f155 f46 f156)) :=
  fn_ok tab_ok (envL_ok (l := [(155, mkE p155 r155 false f155), (46, mkE p46 r46 false f46), (156, mkE p156 r156 false f156)]) (OKs.cons h155 (OKs.cons h46 (OKs.cons h156 OKs.nil)))) mixed (ann := (fun _ => false)) (L := L103 f155 f46 f156) (fn := Proofs.Try.f103) (c := bodyC Proofs.Try.f103) (ls := []) Proofs.Try.func103 (by kernel_rfl) (by kernel_rfl) (by kernel_rfl) (by kernel_rfl)
    LoopsP.nil (e103 f155 f46 f156)
/-! laws.markPlaceS -/
def p104 : List SP := [.one (.o 0 .place), .one (.int .i64)]
def r104 : List SP := [.one (.int .i64)]
def q104_0 : List SP := pat 27 0 [(0, .one (.o 0 .place)), (1, .one (.int .i64)), (5, .one (.int .i64))]
noncomputable def s104_0 (t1 : List Place × Int × Int × Unit) (rec K : List Place × Int × Int × Unit → Option (List Place × Int × Unit)) : Option (List Place × Int × Unit) :=
  cond (decide (t1.2.2.1 < (Int.ofNat (List.length t1.1)))) (rdL t1.1 t1.2.2.1 fun _ => (t1.1[(Int.toNat t1.2.2.1)]?).bind fun d2 => rdL (List.set t1.1 (Int.toNat t1.2.2.1) (⟨t1.2.1, d2.Y⟩ : Place)) t1.2.2.1 fun _ => ((List.set t1.1 (Int.toNat t1.2.2.1) (⟨t1.2.1, d2.Y⟩ : Place))[(Int.toNat t1.2.2.1)]?).bind fun d3 => rec ((List.set (List.set t1.1 (Int.toNat t1.2.2.1) (⟨t1.2.1, d2.Y⟩ : Place)) (Int.toNat t1.2.2.1) (⟨d3.X, (w64 (t1.2.1 + 1))⟩ : Place)), (w64 ((w64 (t1.2.1 + 1)) + 1)), (w64 (t1.2.2.1 + 1)), ())) (K (t1.1, t1.2.1, t1.2.2.1, ()))
noncomputable def F104 (a : List Place × Int × Unit) : Option (List Place × Int × Unit) :=
  iterF (s104_0) fuel (a.1, a.2.1, 0, ()) fun t4 => some (t4.1, t4.2.1, ())
def E104 : Env := envL []
noncomputable def L104 : LEnv (densS (muts p104 ++ r104)) := lenv [(0, loopL (R := densS (muts p104 ++ r104)) q104_0 (s104_0))]
theorem e104_0 (X : Nat → St → Option (densS (muts p104 ++ r104))) (rec K : densS q104_0 → Option (densS (muts p104 ++ r104))) (t : densS q104_0) :
    ev (E104) tab (fun _ => false) (L104) (retK tab p104 r104 Proofs.Try.f104.results.toList) (loopC Proofs.Try.f104 0) (fun i s => cond (Nat.beq i 0) (decK 100 q104_0 s K) (X i s)) (fun s => decK 100 q104_0 s rec) (enc q104_0 t) = s104_0 t rec K := by kernel_rfl
theorem e104 (a : densS p104) : runF (E104) tab (fun _ => false) p104 r104 Proofs.Try.f104 (L104) a = F104 a := by kernel_rfl
theorem ok104 : OK Proofs.Try.prog 104 (mkE p104 r104 false (F104)) :=
  fn_ok tab_ok (envL_ok (l := []) OKs.nil) mixed (ann := (fun _ => false)) (L := L104) (fn := Proofs.Try.f104) (c := bodyC Proofs.Try.f104) (ls := [(0, loopC Proofs.Try.f104 0)]) Proofs.Try.func104 (by kernel_rfl) (by kernel_rfl) (by kernel_rfl) (by kernel_rfl)
    (LoopsP.cons q104_0 (s104_0) rfl (e104_0) LoopsP.nil) (e104)
/-! laws.markDesk -/
def p52 : List SP := [.agg [.o 0 .device, .o 1 .cue, .o 2 .gust, .int .i64, .o 3 .place, .int .i64, .int .i64, .int .i64, .int .i64], .one (.int .i64)]
def r52 : List SP := [.one (.int .i64)]
noncomputable def F52 (f103 : (List Device × List Cue × List Gust × Int × Unit) × Int × Unit → Option (List Device × List Cue × List Gust × Int × Unit)) (f104 : List Place × Int × Unit → Option (List Place × Int × Unit)) (a : (List Device × List Cue × List Gust × Int × List Place × Int × Int × Int × Int × Unit) × Int × Unit) : Option (List Device × List Cue × List Gust × List Place × Int × Unit) :=
  (f103 ((a.1.1, a.1.2.1, a.1.2.2.1, a.1.2.2.2.1, ()), a.2.1, ())).bind fun x1 => (f104 (a.1.2.2.2.2.1, x1.2.2.2.1, ())).bind fun x2 => some (x1.1, x1.2.1, x1.2.2.1, x2.1, x2.2.1, ())
def E52 (f103 : (List Device × List Cue × List Gust × Int × Unit) × Int × Unit → Option (List Device × List Cue × List Gust × Int × Unit)) (f104 : List Place × Int × Unit → Option (List Place × Int × Unit)) : Env := envL [(103, mkE p103 r103 false f103), (104, mkE p104 r104 false f104)]
noncomputable def L52 (f103 : (List Device × List Cue × List Gust × Int × Unit) × Int × Unit → Option (List Device × List Cue × List Gust × Int × Unit)) (f104 : List Place × Int × Unit → Option (List Place × Int × Unit)) : LEnv (densS (muts p52 ++ r52)) := lenv []
theorem e52 (f103 : (List Device × List Cue × List Gust × Int × Unit) × Int × Unit → Option (List Device × List Cue × List Gust × Int × Unit)) (f104 : List Place × Int × Unit → Option (List Place × Int × Unit)) (a : densS p52) : runF (E52 f103 f104) tab (fun _ => false) p52 r52 Proofs.Try.f52 (L52 f103 f104) a = F52 f103 f104 a := by kernel_rfl
theorem ok52 {f103 : (List Device × List Cue × List Gust × Int × Unit) × Int × Unit → Option (List Device × List Cue × List Gust × Int × Unit)} {f104 : List Place × Int × Unit → Option (List Place × Int × Unit)} (h103 : OK Proofs.Try.prog 103 (mkE p103 r103 false f103)) (h104 : OK Proofs.Try.prog 104 (mkE p104 r104 false f104)) : OK Proofs.Try.prog 52 (mkE p52 r52 false (F52 f103 f104)) :=
  fn_ok tab_ok (envL_ok (l := [(103, mkE p103 r103 false f103), (104, mkE p104 r104 false f104)]) (OKs.cons h103 (OKs.cons h104 OKs.nil))) mixed (ann := (fun _ => false)) (L := L52 f103 f104) (fn := Proofs.Try.f52) (c := bodyC Proofs.Try.f52) (ls := []) Proofs.Try.func52 (by kernel_rfl) (by kernel_rfl) (by kernel_rfl) (by kernel_rfl)
    LoopsP.nil (e52 f103 f104)
/-! laws.heldDeviceS -/
def p157 : List SP := [.one (.r .device), .one (.int .i64)]
def r157 : List SP := [.one (.int .i64)]
def q157_0 : List SP := pat 89 0 [(0, .one (.r .device)), (1, .one (.int .i64)), (5, .one (.int .i64))]
noncomputable def s157_0 (f102 : Int × Unit → Option (Str × Unit)) (t1 : List Device × Int × Int × Unit) (rec K : List Device × Int × Int × Unit → Option (Int × Unit)) : Option (Int × Unit) :=
  cond (decide (t1.2.2.1 < (Int.ofNat (List.length t1.1)))) (rdL t1.1 t1.2.2.1 fun d2 => (f102 (t1.2.1, ())).bind fun x3 => cond (!decide (d2.Name = x3.1)) (some ((-1), ())) (rdL t1.1 t1.2.2.1 fun d4 => cond (!(decide (d4.Kind = (w64 (t1.2.1 + 1))))) (some ((-1), ())) (rdL t1.1 t1.2.2.1 fun d5 => (f102 ((w64 ((w64 (t1.2.1 + 1)) + 1)), ())).bind fun x6 => cond (!decide (d5.Line = x6.1)) (some ((-1), ())) (rdL t1.1 t1.2.2.1 fun d7 => cond (!(decide (d7.At.X = (w64 ((w64 ((w64 (t1.2.1 + 1)) + 1)) + 1))))) (some ((-1), ())) (rdL t1.1 t1.2.2.1 fun d8 => cond (!(decide (d8.At.Y = (w64 ((w64 ((w64 ((w64 (t1.2.1 + 1)) + 1)) + 1)) + 1))))) (some ((-1), ())) (rdL t1.1 t1.2.2.1 fun d9 => cond (!(decide (d9.Heading = (w64 ((w64 ((w64 ((w64 ((w64 (t1.2.1 + 1)) + 1)) + 1)) + 1)) + 1))))) (some ((-1), ())) (rdL t1.1 t1.2.2.1 fun d10 => cond (!(decide (d10.Tilt = (w64 ((w64 ((w64 ((w64 ((w64 ((w64 (t1.2.1 + 1)) + 1)) + 1)) + 1)) + 1)) + 1))))) (some ((-1), ())) (rdL t1.1 t1.2.2.1 fun d11 => cond (!(decide (d11.Most = (w64 ((w64 ((w64 ((w64 ((w64 ((w64 ((w64 (t1.2.1 + 1)) + 1)) + 1)) + 1)) + 1)) + 1)) + 1))))) (some ((-1), ())) (rec (t1.1, (w64 ((w64 ((w64 ((w64 ((w64 ((w64 ((w64 ((w64 (t1.2.1 + 1)) + 1)) + 1)) + 1)) + 1)) + 1)) + 1)) + 1)), (w64 (t1.2.2.1 + 1)), ())))))))))) (K (t1.1, t1.2.1, t1.2.2.1, ()))
noncomputable def F157 (f102 : Int × Unit → Option (Str × Unit)) (a : List Device × Int × Unit) : Option (Int × Unit) :=
  iterF (s157_0 f102) fuel (a.1, a.2.1, 0, ()) fun t12 => some (t12.2.1, ())
def E157 (f102 : Int × Unit → Option (Str × Unit)) : Env := envL [(102, mkE p102 r102 false f102)]
noncomputable def L157 (f102 : Int × Unit → Option (Str × Unit)) : LEnv (densS (muts p157 ++ r157)) := lenv [(0, loopL (R := densS (muts p157 ++ r157)) q157_0 (s157_0 f102))]
theorem e157_0 (f102 : Int × Unit → Option (Str × Unit)) (X : Nat → St → Option (densS (muts p157 ++ r157))) (rec K : densS q157_0 → Option (densS (muts p157 ++ r157))) (t : densS q157_0) :
    ev (E157 f102) tab (fun _ => false) (L157 f102) (retK tab p157 r157 Proofs.Try.f157.results.toList) (loopC Proofs.Try.f157 0) (fun i s => cond (Nat.beq i 0) (decK 100 q157_0 s K) (X i s)) (fun s => decK 100 q157_0 s rec) (enc q157_0 t) = s157_0 f102 t rec K := by kernel_rfl
theorem e157 (f102 : Int × Unit → Option (Str × Unit)) (a : densS p157) : runF (E157 f102) tab (fun _ => false) p157 r157 Proofs.Try.f157 (L157 f102) a = F157 f102 a := by kernel_rfl
theorem ok157 {f102 : Int × Unit → Option (Str × Unit)} (h102 : OK Proofs.Try.prog 102 (mkE p102 r102 false f102)) : OK Proofs.Try.prog 157 (mkE p157 r157 false (F157 f102)) :=
  fn_ok tab_ok (envL_ok (l := [(102, mkE p102 r102 false f102)]) (OKs.cons h102 OKs.nil)) mixed (ann := (fun _ => false)) (L := L157 f102) (fn := Proofs.Try.f157) (c := bodyC Proofs.Try.f157) (ls := [(0, loopC Proofs.Try.f157 0)]) Proofs.Try.func157 (by kernel_rfl) (by kernel_rfl) (by kernel_rfl) (by kernel_rfl)
    (LoopsP.cons q157_0 (s157_0 f102) rfl (e157_0 f102) LoopsP.nil) (e157 f102)
/-! laws.heldCueS -/
def p158 : List SP := [.one (.r .cue), .one (.int .i64)]
def r158 : List SP := [.one (.int .i64)]
def q158_0 : List SP := pat 50 0 [(0, .one (.r .cue)), (1, .one (.int .i64)), (5, .one (.int .i64))]
noncomputable def s158_0 (f102 : Int × Unit → Option (Str × Unit)) (t1 : List Cue × Int × Int × Unit) (rec K : List Cue × Int × Int × Unit → Option (Int × Unit)) : Option (Int × Unit) :=
  cond (decide (t1.2.2.1 < (Int.ofNat (List.length t1.1)))) (rdL t1.1 t1.2.2.1 fun d2 => cond (!(decide (d2.Tick = t1.2.1))) (some ((-1), ())) (rdL t1.1 t1.2.2.1 fun d3 => (f102 ((w64 (t1.2.1 + 1)), ())).bind fun x4 => cond (!decide (d3.Name = x4.1)) (some ((-1), ())) (rdL t1.1 t1.2.2.1 fun d5 => cond (!(decide (d5.Level = (w64 ((w64 (t1.2.1 + 1)) + 1))))) (some ((-1), ())) (rdL t1.1 t1.2.2.1 fun d6 => cond (!(decide (d6.Ramp = (w64 ((w64 ((w64 (t1.2.1 + 1)) + 1)) + 1))))) (some ((-1), ())) (rec (t1.1, (w64 ((w64 ((w64 ((w64 (t1.2.1 + 1)) + 1)) + 1)) + 1)), (w64 (t1.2.2.1 + 1)), ())))))) (K (t1.1, t1.2.1, t1.2.2.1, ()))
noncomputable def F158 (f102 : Int × Unit → Option (Str × Unit)) (a : List Cue × Int × Unit) : Option (Int × Unit) :=
  iterF (s158_0 f102) fuel (a.1, a.2.1, 0, ()) fun t7 => some (t7.2.1, ())
def E158 (f102 : Int × Unit → Option (Str × Unit)) : Env := envL [(102, mkE p102 r102 false f102)]
noncomputable def L158 (f102 : Int × Unit → Option (Str × Unit)) : LEnv (densS (muts p158 ++ r158)) := lenv [(0, loopL (R := densS (muts p158 ++ r158)) q158_0 (s158_0 f102))]
theorem e158_0 (f102 : Int × Unit → Option (Str × Unit)) (X : Nat → St → Option (densS (muts p158 ++ r158))) (rec K : densS q158_0 → Option (densS (muts p158 ++ r158))) (t : densS q158_0) :
    ev (E158 f102) tab (fun _ => false) (L158 f102) (retK tab p158 r158 Proofs.Try.f158.results.toList) (loopC Proofs.Try.f158 0) (fun i s => cond (Nat.beq i 0) (decK 100 q158_0 s K) (X i s)) (fun s => decK 100 q158_0 s rec) (enc q158_0 t) = s158_0 f102 t rec K := by kernel_rfl
theorem e158 (f102 : Int × Unit → Option (Str × Unit)) (a : densS p158) : runF (E158 f102) tab (fun _ => false) p158 r158 Proofs.Try.f158 (L158 f102) a = F158 f102 a := by kernel_rfl
theorem ok158 {f102 : Int × Unit → Option (Str × Unit)} (h102 : OK Proofs.Try.prog 102 (mkE p102 r102 false f102)) : OK Proofs.Try.prog 158 (mkE p158 r158 false (F158 f102)) :=
  fn_ok tab_ok (envL_ok (l := [(102, mkE p102 r102 false f102)]) (OKs.cons h102 OKs.nil)) mixed (ann := (fun _ => false)) (L := L158 f102) (fn := Proofs.Try.f158) (c := bodyC Proofs.Try.f158) (ls := [(0, loopC Proofs.Try.f158 0)]) Proofs.Try.func158 (by kernel_rfl) (by kernel_rfl) (by kernel_rfl) (by kernel_rfl)
    (LoopsP.cons q158_0 (s158_0 f102) rfl (e158_0 f102) LoopsP.nil) (e158 f102)
/-! laws.heldGustS -/
def p159 : List SP := [.one (.r .gust), .one (.int .i64)]
def r159 : List SP := [.one (.int .i64)]
def q159_0 : List SP := pat 42 0 [(0, .one (.r .gust)), (1, .one (.int .i64)), (5, .one (.int .i64))]
noncomputable def s159_0 (t1 : List Gust × Int × Int × Unit) (rec K : List Gust × Int × Int × Unit → Option (Int × Unit)) : Option (Int × Unit) :=
  cond (decide (t1.2.2.1 < (Int.ofNat (List.length t1.1)))) (rdL t1.1 t1.2.2.1 fun d2 => cond (!(decide (d2.From = t1.2.1))) (some ((-1), ())) (rdL t1.1 t1.2.2.1 fun d3 => cond (!(decide (d3.Drift.X = (w64 (t1.2.1 + 1))))) (some ((-1), ())) (rdL t1.1 t1.2.2.1 fun d4 => cond (!(decide (d4.Drift.Y = (w64 ((w64 (t1.2.1 + 1)) + 1))))) (some ((-1), ())) (rec (t1.1, (w64 ((w64 ((w64 (t1.2.1 + 1)) + 1)) + 1)), (w64 (t1.2.2.1 + 1)), ()))))) (K (t1.1, t1.2.1, t1.2.2.1, ()))
noncomputable def F159 (a : List Gust × Int × Unit) : Option (Int × Unit) :=
  iterF (s159_0) fuel (a.1, a.2.1, 0, ()) fun t5 => some (t5.2.1, ())
def E159 : Env := envL []
noncomputable def L159 : LEnv (densS (muts p159 ++ r159)) := lenv [(0, loopL (R := densS (muts p159 ++ r159)) q159_0 (s159_0))]
theorem e159_0 (X : Nat → St → Option (densS (muts p159 ++ r159))) (rec K : densS q159_0 → Option (densS (muts p159 ++ r159))) (t : densS q159_0) :
    ev (E159) tab (fun _ => false) (L159) (retK tab p159 r159 Proofs.Try.f159.results.toList) (loopC Proofs.Try.f159 0) (fun i s => cond (Nat.beq i 0) (decK 100 q159_0 s K) (X i s)) (fun s => decK 100 q159_0 s rec) (enc q159_0 t) = s159_0 t rec K := by kernel_rfl
theorem e159 (a : densS p159) : runF (E159) tab (fun _ => false) p159 r159 Proofs.Try.f159 (L159) a = F159 a := by kernel_rfl
theorem ok159 : OK Proofs.Try.prog 159 (mkE p159 r159 false (F159)) :=
  fn_ok tab_ok (envL_ok (l := []) OKs.nil) mixed (ann := (fun _ => false)) (L := L159) (fn := Proofs.Try.f159) (c := bodyC Proofs.Try.f159) (ls := [(0, loopC Proofs.Try.f159 0)]) Proofs.Try.func159 (by kernel_rfl) (by kernel_rfl) (by kernel_rfl) (by kernel_rfl)
    (LoopsP.cons q159_0 (s159_0) rfl (e159_0) LoopsP.nil) (e159)
/-! laws.heldShow -/
def p105 : List SP := [.agg [.r .device, .r .cue, .r .gust, .int .i64], .one (.int .i64)]
def r105 : List SP := [.one (.int .i64)]
noncomputable def F105 (f157 : List Device × Int × Unit → Option (Int × Unit)) (f158 : List Cue × Int × Unit → Option (Int × Unit)) (f159 : List Gust × Int × Unit → Option (Int × Unit)) (a : (List Device × List Cue × List Gust × Int × Unit) × Int × Unit) : Option (Int × Unit) :=
  (f157 (a.1.1, a.2.1, ())).bind fun x1 => cond (decide (x1.1 < 0)) (some ((-1), ())) ((f158 (a.1.2.1, x1.1, ())).bind fun x2 => cond (decide (x2.1 < 0)) (some ((-1), ())) ((f159 (a.1.2.2.1, x2.1, ())).bind fun x3 => cond (decide (x3.1 < 0)) (some ((-1), ())) (some (x3.1, ()))))
def E105 (f157 : List Device × Int × Unit → Option (Int × Unit)) (f158 : List Cue × Int × Unit → Option (Int × Unit)) (f159 : List Gust × Int × Unit → Option (Int × Unit)) : Env := envL [(157, mkE p157 r157 false f157), (158, mkE p158 r158 false f158), (159, mkE p159 r159 false f159)]
noncomputable def L105 (f157 : List Device × Int × Unit → Option (Int × Unit)) (f158 : List Cue × Int × Unit → Option (Int × Unit)) (f159 : List Gust × Int × Unit → Option (Int × Unit)) : LEnv (densS (muts p105 ++ r105)) := lenv []
theorem e105 (f157 : List Device × Int × Unit → Option (Int × Unit)) (f158 : List Cue × Int × Unit → Option (Int × Unit)) (f159 : List Gust × Int × Unit → Option (Int × Unit)) (a : densS p105) : runF (E105 f157 f158 f159) tab (fun _ => false) p105 r105 Proofs.Try.f105 (L105 f157 f158 f159) a = F105 f157 f158 f159 a := by kernel_rfl
theorem ok105 {f157 : List Device × Int × Unit → Option (Int × Unit)} {f158 : List Cue × Int × Unit → Option (Int × Unit)} {f159 : List Gust × Int × Unit → Option (Int × Unit)} (h157 : OK Proofs.Try.prog 157 (mkE p157 r157 false f157)) (h158 : OK Proofs.Try.prog 158 (mkE p158 r158 false f158)) (h159 : OK Proofs.Try.prog 159 (mkE p159 r159 false f159)) : OK Proofs.Try.prog 105 (mkE p105 r105 false (F105 f157 f158 f159)) :=
  fn_ok tab_ok (envL_ok (l := [(157, mkE p157 r157 false f157), (158, mkE p158 r158 false f158), (159, mkE p159 r159 false f159)]) (OKs.cons h157 (OKs.cons h158 (OKs.cons h159 OKs.nil)))) mixed (ann := (fun _ => false)) (L := L105 f157 f158 f159) (fn := Proofs.Try.f105) (c := bodyC Proofs.Try.f105) (ls := []) Proofs.Try.func105 (by kernel_rfl) (by kernel_rfl) (by kernel_rfl) (by kernel_rfl)
    LoopsP.nil (e105 f157 f158 f159)
/-! laws.heldPlaceS -/
def p106 : List SP := [.one (.r .place), .one (.int .i64)]
def r106 : List SP := [.one (.int .i64)]
def q106_0 : List SP := pat 31 0 [(0, .one (.r .place)), (1, .one (.int .i64)), (5, .one (.int .i64))]
noncomputable def s106_0 (t1 : List Place × Int × Int × Unit) (rec K : List Place × Int × Int × Unit → Option (Int × Unit)) : Option (Int × Unit) :=
  cond (decide (t1.2.2.1 < (Int.ofNat (List.length t1.1)))) (rdL t1.1 t1.2.2.1 fun d2 => cond (!(decide (d2.X = t1.2.1))) (some ((-1), ())) (rdL t1.1 t1.2.2.1 fun d3 => cond (!(decide (d3.Y = (w64 (t1.2.1 + 1))))) (some ((-1), ())) (rec (t1.1, (w64 ((w64 (t1.2.1 + 1)) + 1)), (w64 (t1.2.2.1 + 1)), ())))) (K (t1.1, t1.2.1, t1.2.2.1, ()))
noncomputable def F106 (a : List Place × Int × Unit) : Option (Int × Unit) :=
  iterF (s106_0) fuel (a.1, a.2.1, 0, ()) fun t4 => some (t4.2.1, ())
def E106 : Env := envL []
noncomputable def L106 : LEnv (densS (muts p106 ++ r106)) := lenv [(0, loopL (R := densS (muts p106 ++ r106)) q106_0 (s106_0))]
theorem e106_0 (X : Nat → St → Option (densS (muts p106 ++ r106))) (rec K : densS q106_0 → Option (densS (muts p106 ++ r106))) (t : densS q106_0) :
    ev (E106) tab (fun _ => false) (L106) (retK tab p106 r106 Proofs.Try.f106.results.toList) (loopC Proofs.Try.f106 0) (fun i s => cond (Nat.beq i 0) (decK 100 q106_0 s K) (X i s)) (fun s => decK 100 q106_0 s rec) (enc q106_0 t) = s106_0 t rec K := by kernel_rfl
theorem e106 (a : densS p106) : runF (E106) tab (fun _ => false) p106 r106 Proofs.Try.f106 (L106) a = F106 a := by kernel_rfl
theorem ok106 : OK Proofs.Try.prog 106 (mkE p106 r106 false (F106)) :=
  fn_ok tab_ok (envL_ok (l := []) OKs.nil) mixed (ann := (fun _ => false)) (L := L106) (fn := Proofs.Try.f106) (c := bodyC Proofs.Try.f106) (ls := [(0, loopC Proofs.Try.f106 0)]) Proofs.Try.func106 (by kernel_rfl) (by kernel_rfl) (by kernel_rfl) (by kernel_rfl)
    (LoopsP.cons q106_0 (s106_0) rfl (e106_0) LoopsP.nil) (e106)
/-! laws.heldDesk -/
def p53 : List SP := [.agg [.r .device, .r .cue, .r .gust, .int .i64, .r .place, .int .i64, .int .i64, .int .i64, .int .i64], .one (.int .i64)]
def r53 : List SP := [.one (.int .i64)]
noncomputable def F53 (f105 : (List Device × List Cue × List Gust × Int × Unit) × Int × Unit → Option (Int × Unit)) (f106 : List Place × Int × Unit → Option (Int × Unit)) (a : (List Device × List Cue × List Gust × Int × List Place × Int × Int × Int × Int × Unit) × Int × Unit) : Option (Int × Unit) :=
  (f105 ((a.1.1, a.1.2.1, a.1.2.2.1, a.1.2.2.2.1, ()), a.2.1, ())).bind fun x1 => cond (decide (x1.1 < 0)) (some ((-1), ())) ((f106 (a.1.2.2.2.2.1, x1.1, ())).bind fun x2 => cond (decide (x2.1 < 0)) (some ((-1), ())) (some (x2.1, ())))
def E53 (f105 : (List Device × List Cue × List Gust × Int × Unit) × Int × Unit → Option (Int × Unit)) (f106 : List Place × Int × Unit → Option (Int × Unit)) : Env := envL [(105, mkE p105 r105 false f105), (106, mkE p106 r106 false f106)]
noncomputable def L53 (f105 : (List Device × List Cue × List Gust × Int × Unit) × Int × Unit → Option (Int × Unit)) (f106 : List Place × Int × Unit → Option (Int × Unit)) : LEnv (densS (muts p53 ++ r53)) := lenv []
theorem e53 (f105 : (List Device × List Cue × List Gust × Int × Unit) × Int × Unit → Option (Int × Unit)) (f106 : List Place × Int × Unit → Option (Int × Unit)) (a : densS p53) : runF (E53 f105 f106) tab (fun _ => false) p53 r53 Proofs.Try.f53 (L53 f105 f106) a = F53 f105 f106 a := by kernel_rfl
theorem ok53 {f105 : (List Device × List Cue × List Gust × Int × Unit) × Int × Unit → Option (Int × Unit)} {f106 : List Place × Int × Unit → Option (Int × Unit)} (h105 : OK Proofs.Try.prog 105 (mkE p105 r105 false f105)) (h106 : OK Proofs.Try.prog 106 (mkE p106 r106 false f106)) : OK Proofs.Try.prog 53 (mkE p53 r53 false (F53 f105 f106)) :=
  fn_ok tab_ok (envL_ok (l := [(105, mkE p105 r105 false f105), (106, mkE p106 r106 false f106)]) (OKs.cons h105 (OKs.cons h106 OKs.nil))) mixed (ann := (fun _ => false)) (L := L53 f105 f106) (fn := Proofs.Try.f53) (c := bodyC Proofs.Try.f53) (ls := []) Proofs.Try.func53 (by kernel_rfl) (by kernel_rfl) (by kernel_rfl) (by kernel_rfl)
    LoopsP.nil (e53 f105 f106)
/-! laws.FnExactNewDesk -/
def p9 : List SP := []
def r9 : List SP := [.one (.bool)]
noncomputable def F9 (f49 : Unit → Option ((List Device × List Cue × List Gust × Int × List Place × Int × Int × Int × Int × Unit) × Unit)) (f50 : Unit → Option ((List Device × List Cue × List Gust × Int × List Place × Int × Int × Int × Int × Unit) × Unit)) (f51 : (List Device × List Cue × List Gust × Int × List Place × Int × Int × Int × Int × Unit) × (List Device × List Cue × List Gust × Int × List Place × Int × Int × Int × Int × Unit) × Unit → Option (Bool × Unit)) (f52 : (List Device × List Cue × List Gust × Int × List Place × Int × Int × Int × Int × Unit) × Int × Unit → Option (List Device × List Cue × List Gust × List Place × Int × Unit)) (f53 : (List Device × List Cue × List Gust × Int × List Place × Int × Int × Int × Int × Unit) × Int × Unit → Option (Int × Unit)) (a : Unit) : Option (Bool × Unit) :=
  (f49 (())).bind fun x1 => (f50 (())).bind fun x2 => (f51 ((x2.1.1, x2.1.2.1, x2.1.2.2.1, x2.1.2.2.2.1, x2.1.2.2.2.2.1, x2.1.2.2.2.2.2.1, x2.1.2.2.2.2.2.2.1, x2.1.2.2.2.2.2.2.2.1, x2.1.2.2.2.2.2.2.2.2.1, ()), (x1.1.1, x1.1.2.1, x1.1.2.2.1, x1.1.2.2.2.1, x1.1.2.2.2.2.1, x1.1.2.2.2.2.2.1, x1.1.2.2.2.2.2.2.1, x1.1.2.2.2.2.2.2.2.1, x1.1.2.2.2.2.2.2.2.2.1, ()), ())).bind fun x3 => cond (!x3.1) (some (false, ())) ((f52 ((x2.1.1, x2.1.2.1, x2.1.2.2.1, x2.1.2.2.2.1, x2.1.2.2.2.2.1, x2.1.2.2.2.2.2.1, x2.1.2.2.2.2.2.2.1, x2.1.2.2.2.2.2.2.2.1, x2.1.2.2.2.2.2.2.2.2.1, ()), 1, ())).bind fun x4 => (f53 ((x4.1, x4.2.1, x4.2.2.1, x2.1.2.2.2.1, x4.2.2.2.1, x2.1.2.2.2.2.2.1, x2.1.2.2.2.2.2.2.1, x2.1.2.2.2.2.2.2.2.1, x2.1.2.2.2.2.2.2.2.2.1, ()), 1, ())).bind fun x5 => cond (decide (x5.1 < 0)) (some (false, ())) (cond (!(decide (x5.1 = x4.2.2.2.2.1))) (some (false, ())) ((f50 (())).bind fun x6 => (f51 ((x6.1.1, x6.1.2.1, x6.1.2.2.1, x6.1.2.2.2.1, x6.1.2.2.2.2.1, x6.1.2.2.2.2.2.1, x6.1.2.2.2.2.2.2.1, x6.1.2.2.2.2.2.2.2.1, x6.1.2.2.2.2.2.2.2.2.1, ()), (x1.1.1, x1.1.2.1, x1.1.2.2.1, x1.1.2.2.2.1, x1.1.2.2.2.2.1, x1.1.2.2.2.2.2.1, x1.1.2.2.2.2.2.2.1, x1.1.2.2.2.2.2.2.2.1, x1.1.2.2.2.2.2.2.2.2.1, ()), ())).bind fun x7 => cond (!x7.1) (some (false, ())) ((f53 ((x4.1, x4.2.1, x4.2.2.1, x2.1.2.2.2.1, x4.2.2.2.1, x2.1.2.2.2.2.2.1, x2.1.2.2.2.2.2.2.1, x2.1.2.2.2.2.2.2.2.1, x2.1.2.2.2.2.2.2.2.2.1, ()), 1, ())).bind fun x8 => cond (decide (x8.1 < 0)) (some (false, ())) (cond (!(decide (x8.1 = x4.2.2.2.2.1))) (some (false, ())) (some (true, ())))))))
def E9 (f49 : Unit → Option ((List Device × List Cue × List Gust × Int × List Place × Int × Int × Int × Int × Unit) × Unit)) (f50 : Unit → Option ((List Device × List Cue × List Gust × Int × List Place × Int × Int × Int × Int × Unit) × Unit)) (f51 : (List Device × List Cue × List Gust × Int × List Place × Int × Int × Int × Int × Unit) × (List Device × List Cue × List Gust × Int × List Place × Int × Int × Int × Int × Unit) × Unit → Option (Bool × Unit)) (f52 : (List Device × List Cue × List Gust × Int × List Place × Int × Int × Int × Int × Unit) × Int × Unit → Option (List Device × List Cue × List Gust × List Place × Int × Unit)) (f53 : (List Device × List Cue × List Gust × Int × List Place × Int × Int × Int × Int × Unit) × Int × Unit → Option (Int × Unit)) : Env := envL [(49, mkE p49 r49 false f49), (50, mkE p50 r50 false f50), (51, mkE p51 r51 false f51), (52, mkE p52 r52 false f52), (53, mkE p53 r53 false f53)]
noncomputable def L9 (f49 : Unit → Option ((List Device × List Cue × List Gust × Int × List Place × Int × Int × Int × Int × Unit) × Unit)) (f50 : Unit → Option ((List Device × List Cue × List Gust × Int × List Place × Int × Int × Int × Int × Unit) × Unit)) (f51 : (List Device × List Cue × List Gust × Int × List Place × Int × Int × Int × Int × Unit) × (List Device × List Cue × List Gust × Int × List Place × Int × Int × Int × Int × Unit) × Unit → Option (Bool × Unit)) (f52 : (List Device × List Cue × List Gust × Int × List Place × Int × Int × Int × Int × Unit) × Int × Unit → Option (List Device × List Cue × List Gust × List Place × Int × Unit)) (f53 : (List Device × List Cue × List Gust × Int × List Place × Int × Int × Int × Int × Unit) × Int × Unit → Option (Int × Unit)) : LEnv (densS (muts p9 ++ r9)) := lenv []
theorem e9 (f49 : Unit → Option ((List Device × List Cue × List Gust × Int × List Place × Int × Int × Int × Int × Unit) × Unit)) (f50 : Unit → Option ((List Device × List Cue × List Gust × Int × List Place × Int × Int × Int × Int × Unit) × Unit)) (f51 : (List Device × List Cue × List Gust × Int × List Place × Int × Int × Int × Int × Unit) × (List Device × List Cue × List Gust × Int × List Place × Int × Int × Int × Int × Unit) × Unit → Option (Bool × Unit)) (f52 : (List Device × List Cue × List Gust × Int × List Place × Int × Int × Int × Int × Unit) × Int × Unit → Option (List Device × List Cue × List Gust × List Place × Int × Unit)) (f53 : (List Device × List Cue × List Gust × Int × List Place × Int × Int × Int × Int × Unit) × Int × Unit → Option (Int × Unit)) (a : densS p9) : runF (E9 f49 f50 f51 f52 f53) tab (fun _ => false) p9 r9 Proofs.Try.f9 (L9 f49 f50 f51 f52 f53) a = F9 f49 f50 f51 f52 f53 a := by kernel_rfl
theorem ok9 {f49 : Unit → Option ((List Device × List Cue × List Gust × Int × List Place × Int × Int × Int × Int × Unit) × Unit)} {f50 : Unit → Option ((List Device × List Cue × List Gust × Int × List Place × Int × Int × Int × Int × Unit) × Unit)} {f51 : (List Device × List Cue × List Gust × Int × List Place × Int × Int × Int × Int × Unit) × (List Device × List Cue × List Gust × Int × List Place × Int × Int × Int × Int × Unit) × Unit → Option (Bool × Unit)} {f52 : (List Device × List Cue × List Gust × Int × List Place × Int × Int × Int × Int × Unit) × Int × Unit → Option (List Device × List Cue × List Gust × List Place × Int × Unit)} {f53 : (List Device × List Cue × List Gust × Int × List Place × Int × Int × Int × Int × Unit) × Int × Unit → Option (Int × Unit)} (h49 : OK Proofs.Try.prog 49 (mkE p49 r49 false f49)) (h50 : OK Proofs.Try.prog 50 (mkE p50 r50 false f50)) (h51 : OK Proofs.Try.prog 51 (mkE p51 r51 false f51)) (h52 : OK Proofs.Try.prog 52 (mkE p52 r52 false f52)) (h53 : OK Proofs.Try.prog 53 (mkE p53 r53 false f53)) : OK Proofs.Try.prog 9 (mkE p9 r9 false (F9 f49 f50 f51 f52 f53)) :=
  fn_ok tab_ok (envL_ok (l := [(49, mkE p49 r49 false f49), (50, mkE p50 r50 false f50), (51, mkE p51 r51 false f51), (52, mkE p52 r52 false f52), (53, mkE p53 r53 false f53)]) (OKs.cons h49 (OKs.cons h50 (OKs.cons h51 (OKs.cons h52 (OKs.cons h53 OKs.nil)))))) mixed (ann := (fun _ => false)) (L := L9 f49 f50 f51 f52 f53) (fn := Proofs.Try.f9) (c := bodyC Proofs.Try.f9) (ls := []) Proofs.Try.func9 (by kernel_rfl) (by kernel_rfl) (by kernel_rfl) (by kernel_rfl)
    LoopsP.nil (e9 f49 f50 f51 f52 f53)
end Ev
