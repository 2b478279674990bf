/- Functions of the program, as the evaluator sees them. -/
import Derived.Test.YtjdnadolocbjoaaPatA
set_option linter.unusedVariables false
set_option maxRecDepth 100000
namespace Ev
open Go
def tab : Tab := [(3, ⟨1, false, 8, [.int .i64 0], [], .int .i64, false⟩),
  (4, ⟨1, false, 1, [.bool false], [], .bool, false⟩),
  (5, ⟨1, false, 1, [.int .u8 0], [], .int .u8, false⟩),
  (9, ⟨1, false, 16, [.str []], [], .str, false⟩),
  (22, ⟨1, false, 24, [.nils], [], .sl .u8, false⟩),
  (24, ⟨1, false, 24, [.nils], [], .sl .cue, false⟩),
  (27, ⟨1, false, 24, [.nils], [], .sl .int, false⟩),
  (37, ⟨2, true, 16, [.int .i64 0, .int .i64 0], [(0, 1, false), (1, 1, false)], .struct, false⟩),
  (39, ⟨8, true, 80, [.str [], .int .i64 0, .str [], .int .i64 0, .int .i64 0, .int .i64 0, .int .i64 0, .int .i64 0], [(0, 1, false), (1, 1, false), (2, 1, false), (3, 2, true), (5, 1, false), (6, 1, false), (7, 1, false)], .struct, true⟩),
  (52, ⟨5, true, 40, [.int .i64 0, .int .i64 0, .int .i64 0, .int .i64 0, .int .i64 0], [(0, 2, true), (2, 1, false), (3, 1, false), (4, 1, false)], .struct, false⟩),
  (54, ⟨1, false, 24, [.nils], [], .sl .device, false⟩),
  (55, ⟨1, false, 24, [.nils], [], .sl .gust, false⟩),
  (57, ⟨4, true, 80, [.nils, .nils, .nils, .int .i64 0], [(0, 1, false), (1, 1, false), (2, 1, false), (3, 1, false)], .struct, false⟩),
  (78, ⟨1, false, 24, [.nils], [], .sl .device, false⟩),
  (79, ⟨1, false, 24, [.nils], [], .sl .cue, false⟩),
  (80, ⟨1, false, 24, [.nils], [], .sl .gust, false⟩),
  (82, ⟨4, true, 80, [.nils, .nils, .nils, .int .i64 0], [(0, 1, false), (1, 1, false), (2, 1, false), (3, 1, false)], .struct, false⟩),
  (83, ⟨2, true, 16, [.int .i64 0, .int .i64 0], [(0, 1, false), (1, 1, false)], .struct, false⟩),
  (97, ⟨4, true, 40, [.int .i64 0, .str [], .int .i64 0, .int .i64 0], [(0, 1, false), (1, 1, false), (2, 1, false), (3, 1, false)], .struct, false⟩),
  (171, ⟨3, true, 24, [.int .i64 0, .int .i64 0, .int .i64 0], [(0, 1, false), (1, 2, true)], .struct, false⟩),
  (179, ⟨8, true, 80, [.str [], .int .i64 0, .str [], .int .i64 0, .int .i64 0, .int .i64 0, .int .i64 0, .int .i64 0], [(0, 1, false), (1, 1, false), (2, 1, false), (3, 2, true), (5, 1, false), (6, 1, false), (7, 1, false)], .struct, false⟩),
  (181, ⟨4, true, 40, [.int .i64 0, .str [], .int .i64 0, .int .i64 0], [(0, 1, false), (1, 1, false), (2, 1, false), (3, 1, false)], .struct, false⟩),
  (187, ⟨3, true, 24, [.int .i64 0, .int .i64 0, .int .i64 0], [(0, 1, false), (1, 2, true)], .struct, false⟩)]
theorem tab_ok : TabOK Proofs.Try.prog tab := tab_of2 (by kernel_rfl) (by kernel_rfl)
theorem mixed : Proofs.Try.prog.follows .mixedOrders = true := by kernel_rfl
/-! laws.szDevice -/
def p156 : List SP := [.t .device, .one (.int .i64)]
def r156 : List SP := [.one (.int .i64)]
noncomputable def F156 (a : Device × Int × Unit) : Option (Int × Unit) :=
  cond (decide ((w64 (a.2.1 - (Int.ofNat (List.length a.1.Name)))) < 0)) (some ((-1), ())) (cond (decide ((w64 ((w64 (a.2.1 - (Int.ofNat (List.length a.1.Name)))) - (Int.ofNat (List.length a.1.Line)))) < 0)) (some ((-1), ())) (some ((w64 ((w64 (a.2.1 - (Int.ofNat (List.length a.1.Name)))) - (Int.ofNat (List.length a.1.Line)))), ())))
def E156 : Env := envL []
noncomputable def L156 : LEnv (densS (muts p156 ++ r156)) := lenv []
theorem e156 (a : densS p156) : runF (E156) tab (fun _ => false) p156 r156 Proofs.Try.f156 (L156) a = F156 a := by kernel_rfl
theorem ok156 : OK Proofs.Try.prog 156 (mkE p156 r156 false (F156)) :=
  fn_ok tab_ok (envL_ok (l := []) OKs.nil) mixed (ann := (fun _ => false)) (L := L156) (fn := Proofs.Try.f156) (c := bodyC Proofs.Try.f156) (ls := []) Proofs.Try.func156 (by kernel_rfl) (by kernel_rfl) (by kernel_rfl) (by kernel_rfl)
    LoopsP.nil (e156)
/-! laws.szDeviceS -/
def p93 : List SP := [.one (.r .device), .one (.int .i64)]
def r93 : List SP := [.one (.int .i64)]
def q93_0 : List SP := pat 27 0 [(0, .one (.r .device)), (1, .one (.int .i64)), (5, .one (.int .i64))]
noncomputable def s93_0 (f156 : Device × Int × Unit → Option (Int × Unit)) (t1 : List Device × Int × Int × Unit) (rec K : List Device × Int × Int × Unit → Option (Int × Unit)) : Option (Int × Unit) :=
  cond (decide (t1.2.2.1 < (Int.ofNat (List.length t1.1)))) (rdL t1.1 t1.2.2.1 fun d2 => (f156 (d2, t1.2.1, ())).bind fun x3 => cond (decide (x3.1 < 0)) (some ((-1), ())) (rec (t1.1, x3.1, (w64 (t1.2.2.1 + 1)), ()))) (K (t1.1, t1.2.1, t1.2.2.1, ()))
noncomputable def F93 (f156 : Device × Int × Unit → Option (Int × Unit)) (a : List Device × Int × Unit) : Option (Int × Unit) :=
  cond (decide ((w64 (a.2.1 - (Int.ofNat (List.length a.1)))) < 0)) (some ((-1), ())) (iterF (s93_0 f156) fuel (a.1, (w64 (a.2.1 - (Int.ofNat (List.length a.1)))), 0, ()) fun t4 => some (t4.2.1, ()))
def E93 (f156 : Device × Int × Unit → Option (Int × Unit)) : Env := envL [(156, mkE p156 r156 false f156)]
noncomputable def L93 (f156 : Device × Int × Unit → Option (Int × Unit)) : LEnv (densS (muts p93 ++ r93)) := lenv [(0, loopL (R := densS (muts p93 ++ r93)) q93_0 (s93_0 f156))]
theorem e93_0 (f156 : Device × Int × Unit → Option (Int × Unit)) (X : Nat → St → Option (densS (muts p93 ++ r93))) (rec K : densS q93_0 → Option (densS (muts p93 ++ r93))) (t : densS q93_0) :
    ev (E93 f156) tab (fun _ => false) (L93 f156) (retK tab p93 r93 Proofs.Try.f93.results.toList) (loopC Proofs.Try.f93 0) (fun i s => cond (Nat.beq i 0) (decK 100 q93_0 s K) (X i s)) (fun s => decK 100 q93_0 s rec) (enc q93_0 t) = s93_0 f156 t rec K := by kernel_rfl
theorem e93 (f156 : Device × Int × Unit → Option (Int × Unit)) (a : densS p93) : runF (E93 f156) tab (fun _ => false) p93 r93 Proofs.Try.f93 (L93 f156) a = F93 f156 a := by kernel_rfl
theorem ok93 {f156 : Device × Int × Unit → Option (Int × Unit)} (h156 : OK Proofs.Try.prog 156 (mkE p156 r156 false f156)) : OK Proofs.Try.prog 93 (mkE p93 r93 false (F93 f156)) :=
  fn_ok tab_ok (envL_ok (l := [(156, mkE p156 r156 false f156)]) (OKs.cons h156 OKs.nil)) mixed (ann := (fun _ => false)) (L := L93 f156) (fn := Proofs.Try.f93) (c := bodyC Proofs.Try.f93) (ls := [(0, loopC Proofs.Try.f93 0)]) Proofs.Try.func93 (by kernel_rfl) (by kernel_rfl) (by kernel_rfl) (by kernel_rfl)
    (LoopsP.cons q93_0 (s93_0 f156) rfl (e93_0 f156) LoopsP.nil) (e93 f156)
/-! laws.szCue -/
def p157 : List SP := [.t .cue, .one (.int .i64)]
def r157 : List SP := [.one (.int .i64)]
noncomputable def F157 (a : Cue × Int × Unit) : Option (Int × Unit) :=
  cond (decide ((w64 (a.2.1 - (Int.ofNat (List.length a.1.Name)))) < 0)) (some ((-1), ())) (some ((w64 (a.2.1 - (Int.ofNat (List.length a.1.Name)))), ()))
def E157 : Env := envL []
noncomputable def L157 : LEnv (densS (muts p157 ++ r157)) := lenv []
theorem e157 (a : densS p157) : runF (E157) tab (fun _ => false) p157 r157 Proofs.Try.f157 (L157) a = F157 a := by kernel_rfl
theorem ok157 : OK Proofs.Try.prog 157 (mkE p157 r157 false (F157)) :=
  fn_ok tab_ok (envL_ok (l := []) OKs.nil) mixed (ann := (fun _ => false)) (L := L157) (fn := Proofs.Try.f157) (c := bodyC Proofs.Try.f157) (ls := []) Proofs.Try.func157 (by kernel_rfl) (by kernel_rfl) (by kernel_rfl) (by kernel_rfl)
    LoopsP.nil (e157)
/-! laws.szCueS -/
def p94 : List SP := [.one (.r .cue), .one (.int .i64)]
def r94 : List SP := [.one (.int .i64)]
def q94_0 : List SP := pat 27 0 [(0, .one (.r .cue)), (1, .one (.int .i64)), (5, .one (.int .i64))]
noncomputable def s94_0 (f157 : Cue × Int × Unit → Option (Int × Unit)) (t1 : List Cue × Int × Int × Unit) (rec K : List Cue × Int × Int × Unit → Option (Int × Unit)) : Option (Int × Unit) :=
  cond (decide (t1.2.2.1 < (Int.ofNat (List.length t1.1)))) (rdL t1.1 t1.2.2.1 fun d2 => (f157 (d2, t1.2.1, ())).bind fun x3 => cond (decide (x3.1 < 0)) (some ((-1), ())) (rec (t1.1, x3.1, (w64 (t1.2.2.1 + 1)), ()))) (K (t1.1, t1.2.1, t1.2.2.1, ()))
noncomputable def F94 (f157 : Cue × Int × Unit → Option (Int × Unit)) (a : List Cue × Int × Unit) : Option (Int × Unit) :=
  cond (decide ((w64 (a.2.1 - (Int.ofNat (List.length a.1)))) < 0)) (some ((-1), ())) (iterF (s94_0 f157) fuel (a.1, (w64 (a.2.1 - (Int.ofNat (List.length a.1)))), 0, ()) fun t4 => some (t4.2.1, ()))
def E94 (f157 : Cue × Int × Unit → Option (Int × Unit)) : Env := envL [(157, mkE p157 r157 false f157)]
noncomputable def L94 (f157 : Cue × Int × Unit → Option (Int × Unit)) : LEnv (densS (muts p94 ++ r94)) := lenv [(0, loopL (R := densS (muts p94 ++ r94)) q94_0 (s94_0 f157))]
theorem e94_0 (f157 : Cue × Int × Unit → Option (Int × Unit)) (X : Nat → St → Option (densS (muts p94 ++ r94))) (rec K : densS q94_0 → Option (densS (muts p94 ++ r94))) (t : densS q94_0) :
    ev (E94 f157) tab (fun _ => false) (L94 f157) (retK tab p94 r94 Proofs.Try.f94.results.toList) (loopC Proofs.Try.f94 0) (fun i s => cond (Nat.beq i 0) (decK 100 q94_0 s K) (X i s)) (fun s => decK 100 q94_0 s rec) (enc q94_0 t) = s94_0 f157 t rec K := by kernel_rfl
theorem e94 (f157 : Cue × Int × Unit → Option (Int × Unit)) (a : densS p94) : runF (E94 f157) tab (fun _ => false) p94 r94 Proofs.Try.f94 (L94 f157) a = F94 f157 a := by kernel_rfl
theorem ok94 {f157 : Cue × Int × Unit → Option (Int × Unit)} (h157 : OK Proofs.Try.prog 157 (mkE p157 r157 false f157)) : OK Proofs.Try.prog 94 (mkE p94 r94 false (F94 f157)) :=
  fn_ok tab_ok (envL_ok (l := [(157, mkE p157 r157 false f157)]) (OKs.cons h157 OKs.nil)) mixed (ann := (fun _ => false)) (L := L94 f157) (fn := Proofs.Try.f94) (c := bodyC Proofs.Try.f94) (ls := [(0, loopC Proofs.Try.f94 0)]) Proofs.Try.func94 (by kernel_rfl) (by kernel_rfl) (by kernel_rfl) (by kernel_rfl)
    (LoopsP.cons q94_0 (s94_0 f157) rfl (e94_0 f157) LoopsP.nil) (e94 f157)
/-! laws.szGustS -/
def p95 : List SP := [.one (.r .gust), .one (.int .i64)]
def r95 : List SP := [.one (.int .i64)]
noncomputable def F95 (a : List Gust × Int × Unit) : Option (Int × Unit) :=
  cond (decide ((w64 (a.2.1 - (Int.ofNat (List.length a.1)))) < 0)) (some ((-1), ())) (some ((w64 (a.2.1 - (Int.ofNat (List.length a.1)))), ()))
def E95 : Env := envL []
noncomputable def L95 : LEnv (densS (muts p95 ++ r95)) := lenv []
theorem e95 (a : densS p95) : runF (E95) tab (fun _ => false) p95 r95 Proofs.Try.f95 (L95) a = F95 a := by kernel_rfl
theorem ok95 : OK Proofs.Try.prog 95 (mkE p95 r95 false (F95)) :=
  fn_ok tab_ok (envL_ok (l := []) OKs.nil) mixed (ann := (fun _ => false)) (L := L95) (fn := Proofs.Try.f95) (c := bodyC Proofs.Try.f95) (ls := []) Proofs.Try.func95 (by kernel_rfl) (by kernel_rfl) (by kernel_rfl) (by kernel_rfl)
    LoopsP.nil (e95)
/-! laws.szShow -/
def p41 : List SP := [.agg [.r .device, .r .cue, .r .gust, .int .i64], .one (.int .i64)]
def r41 : List SP := [.one (.int .i64)]
noncomputable def F41 (f93 : List Device × Int × Unit → Option (Int × Unit)) (f94 : List Cue × Int × Unit → Option (Int × Unit)) (f95 : List Gust × Int × Unit → Option (Int × Unit)) (a : ShD × Int × Unit) : Option (Int × Unit) :=
  (f93 (a.1.1, a.2.1, ())).bind fun x1 => cond (decide (x1.1 < 0)) (some ((-1), ())) ((f94 (a.1.2.1, x1.1, ())).bind fun x2 => cond (decide (x2.1 < 0)) (some ((-1), ())) ((f95 (a.1.2.2.1, x2.1, ())).bind fun x3 => cond (decide (x3.1 < 0)) (some ((-1), ())) (some (x3.1, ()))))
def E41 (f93 : List Device × Int × Unit → Option (Int × Unit)) (f94 : List Cue × Int × Unit → Option (Int × Unit)) (f95 : List Gust × Int × Unit → Option (Int × Unit)) : Env := envL [(93, mkE p93 r93 false f93), (94, mkE p94 r94 false f94), (95, mkE p95 r95 false f95)]
noncomputable def L41 (f93 : List Device × Int × Unit → Option (Int × Unit)) (f94 : List Cue × Int × Unit → Option (Int × Unit)) (f95 : List Gust × Int × Unit → Option (Int × Unit)) : LEnv (densS (muts p41 ++ r41)) := lenv []
theorem e41 (f93 : List Device × Int × Unit → Option (Int × Unit)) (f94 : List Cue × Int × Unit → Option (Int × Unit)) (f95 : List Gust × Int × Unit → Option (Int × Unit)) (a : densS p41) : runF (E41 f93 f94 f95) tab (fun _ => false) p41 r41 Proofs.Try.f41 (L41 f93 f94 f95) a = F41 f93 f94 f95 a := by kernel_rfl
theorem ok41 {f93 : List Device × Int × Unit → Option (Int × Unit)} {f94 : List Cue × Int × Unit → Option (Int × Unit)} {f95 : List Gust × Int × Unit → Option (Int × Unit)} (h93 : OK Proofs.Try.prog 93 (mkE p93 r93 false f93)) (h94 : OK Proofs.Try.prog 94 (mkE p94 r94 false f94)) (h95 : OK Proofs.Try.prog 95 (mkE p95 r95 false f95)) : OK Proofs.Try.prog 41 (mkE p41 r41 false (F41 f93 f94 f95)) :=
  fn_ok tab_ok (envL_ok (l := [(93, mkE p93 r93 false f93), (94, mkE p94 r94 false f94), (95, mkE p95 r95 false f95)]) (OKs.cons h93 (OKs.cons h94 (OKs.cons h95 OKs.nil)))) mixed (ann := (fun _ => false)) (L := L41 f93 f94 f95) (fn := Proofs.Try.f41) (c := bodyC Proofs.Try.f41) (ls := []) Proofs.Try.func41 (by kernel_rfl) (by kernel_rfl) (by kernel_rfl) (by kernel_rfl)
    LoopsP.nil (e41 f93 f94 f95)
/-! laws.toPlace -/
def p44 : List SP := [.t .place]
def r44 : List SP := [.t .place]
noncomputable def F44 (a : Place × Unit) : Option (Place × Unit) :=
  some (a.1, ())
def E44 : Env := envL []
noncomputable def L44 : LEnv (densS (muts p44 ++ r44)) := lenv []
theorem e44 (a : densS p44) : runF (E44) tab (fun _ => false) p44 r44 Proofs.Try.f44 (L44) a = F44 a := by kernel_rfl
theorem ok44 : OK Proofs.Try.prog 44 (mkE p44 r44 false (F44)) :=
  fn_ok tab_ok (envL_ok (l := []) OKs.nil) mixed (ann := (fun _ => false)) (L := L44) (fn := Proofs.Try.f44) (c := bodyC Proofs.Try.f44) (ls := []) Proofs.Try.func44 (by kernel_rfl) (by kernel_rfl) (by kernel_rfl) (by kernel_rfl)
    LoopsP.nil (e44)
/-! laws.toDevice -/
def p161 : List SP := [.t .device]
def r161 : List SP := [.t .device]
noncomputable def F161 (f44 : Place × Unit → Option (Place × Unit)) (a : Device × Unit) : Option (Device × Unit) :=
  (f44 (a.1.At, ())).bind fun x1 => some ((⟨a.1.Name, a.1.Kind, a.1.Line, ⟨x1.1.X, x1.1.Y⟩, a.1.Heading, a.1.Tilt, a.1.Most⟩ : Device), ())
def E161 (f44 : Place × Unit → Option (Place × Unit)) : Env := envL [(44, mkE p44 r44 false f44)]
noncomputable def L161 (f44 : Place × Unit → Option (Place × Unit)) : LEnv (densS (muts p161 ++ r161)) := lenv []
theorem e161 (f44 : Place × Unit → Option (Place × Unit)) (a : densS p161) : runF (E161 f44) tab (fun _ => false) p161 r161 Proofs.Try.f161 (L161 f44) a = F161 f44 a := by kernel_rfl
theorem ok161 {f44 : Place × Unit → Option (Place × Unit)} (h44 : OK Proofs.Try.prog 44 (mkE p44 r44 false f44)) : OK Proofs.Try.prog 161 (mkE p161 r161 false (F161 f44)) :=
  fn_ok tab_ok (envL_ok (l := [(44, mkE p44 r44 false f44)]) (OKs.cons h44 OKs.nil)) mixed (ann := (fun _ => false)) (L := L161 f44) (fn := Proofs.Try.f161) (c := bodyC Proofs.Try.f161) (ls := []) Proofs.Try.func161 (by kernel_rfl) (by kernel_rfl) (by kernel_rfl) (by kernel_rfl)
    LoopsP.nil (e161 f44)
/-! laws.toDeviceS -/
def p98 : List SP := [.one (.r .device)]
def r98 : List SP := [.one (.o 0 .device)]
def q98_0 : List SP := pat 23 0 [(0, .one (.r .device)), (3, .one (.o 5000001 .device)), (4, .one (.int .i64))]
noncomputable def s98_0 (f161 : Device × Unit → Option (Device × Unit)) (t1 : List Device × List Device × Int × Unit) (rec K : List Device × List Device × Int × Unit → Option (List Device × Unit)) : Option (List Device × Unit) :=
  cond (decide (t1.2.2.1 < (Int.ofNat (List.length t1.1)))) (rdL t1.1 t1.2.2.1 fun d2 => (f161 (d2, ())).bind fun x3 => rdL t1.2.1 t1.2.2.1 fun _ => (t1.2.1[(Int.toNat t1.2.2.1)]?).bind fun d4 => rec (t1.1, (List.set t1.2.1 (Int.toNat t1.2.2.1) x3.1), (w64 (t1.2.2.1 + 1)), ())) (K (t1.1, t1.2.1, t1.2.2.1, ()))
noncomputable def F98 (f161 : Device × Unit → Option (Device × Unit)) (a : List Device × Unit) : Option (List Device × Unit) :=
  okIf (0 ≤ (Int.ofNat (List.length a.1))) (capK (Int.toNat (Int.ofNat (List.length a.1))) (iterF (s98_0 f161) fuel (a.1, (List.replicate (Int.toNat (Int.ofNat (List.length a.1))) (Ty.zero .device)), 0, ()) fun t5 => some (t5.2.1, ())))
def E98 (f161 : Device × Unit → Option (Device × Unit)) : Env := envL [(161, mkE p161 r161 false f161)]
noncomputable def L98 (f161 : Device × Unit → Option (Device × Unit)) : LEnv (densS (muts p98 ++ r98)) := lenv [(0, loopL (R := densS (muts p98 ++ r98)) q98_0 (s98_0 f161))]
theorem e98_0 (f161 : Device × Unit → Option (Device × Unit)) (X : Nat → St → Option (densS (muts p98 ++ r98))) (rec K : densS q98_0 → Option (densS (muts p98 ++ r98))) (t : densS q98_0) :
    ev (E98 f161) tab (fun _ => false) (L98 f161) (retK tab p98 r98 Proofs.Try.f98.results.toList) (loopC Proofs.Try.f98 0) (fun i s => cond (Nat.beq i 0) (decK 100 q98_0 s K) (X i s)) (fun s => decK 100 q98_0 s rec) (enc q98_0 t) = s98_0 f161 t rec K := by kernel_rfl
theorem e98 (f161 : Device × Unit → Option (Device × Unit)) (a : densS p98) : runF (E98 f161) tab (fun _ => false) p98 r98 Proofs.Try.f98 (L98 f161) a = F98 f161 a := by kernel_rfl
theorem ok98 {f161 : Device × Unit → Option (Device × Unit)} (h161 : OK Proofs.Try.prog 161 (mkE p161 r161 false f161)) : OK Proofs.Try.prog 98 (mkE p98 r98 false (F98 f161)) :=
  fn_ok tab_ok (envL_ok (l := [(161, mkE p161 r161 false f161)]) (OKs.cons h161 OKs.nil)) mixed (ann := (fun _ => false)) (L := L98 f161) (fn := Proofs.Try.f98) (c := bodyC Proofs.Try.f98) (ls := [(0, loopC Proofs.Try.f98 0)]) Proofs.Try.func98 (by kernel_rfl) (by kernel_rfl) (by kernel_rfl) (by kernel_rfl)
    (LoopsP.cons q98_0 (s98_0 f161) rfl (e98_0 f161) LoopsP.nil) (e98 f161)
/-! laws.toCue -/
def p162 : List SP := [.t .cue]
def r162 : List SP := [.t .cue]
noncomputable def F162 (a : Cue × Unit) : Option (Cue × Unit) :=
  some (a.1, ())
def E162 : Env := envL []
noncomputable def L162 : LEnv (densS (muts p162 ++ r162)) := lenv []
theorem e162 (a : densS p162) : runF (E162) tab (fun _ => false) p162 r162 Proofs.Try.f162 (L162) a = F162 a := by kernel_rfl
theorem ok162 : OK Proofs.Try.prog 162 (mkE p162 r162 false (F162)) :=
  fn_ok tab_ok (envL_ok (l := []) OKs.nil) mixed (ann := (fun _ => false)) (L := L162) (fn := Proofs.Try.f162) (c := bodyC Proofs.Try.f162) (ls := []) Proofs.Try.func162 (by kernel_rfl) (by kernel_rfl) (by kernel_rfl) (by kernel_rfl)
    LoopsP.nil (e162)
/-! laws.toCueS -/
def p99 : List SP := [.one (.r .cue)]
def r99 : List SP := [.one (.o 0 .cue)]
def q99_0 : List SP := pat 23 0 [(0, .one (.r .cue)), (3, .one (.o 5000001 .cue)), (4, .one (.int .i64))]
noncomputable def s99_0 (f162 : Cue × Unit → Option (Cue × Unit)) (t1 : List Cue × List Cue × Int × Unit) (rec K : List Cue × List Cue × Int × Unit → Option (List Cue × Unit)) : Option (List Cue × Unit) :=
  cond (decide (t1.2.2.1 < (Int.ofNat (List.length t1.1)))) (rdL t1.1 t1.2.2.1 fun d2 => (f162 (d2, ())).bind fun x3 => rdL t1.2.1 t1.2.2.1 fun _ => (t1.2.1[(Int.toNat t1.2.2.1)]?).bind fun d4 => rec (t1.1, (List.set t1.2.1 (Int.toNat t1.2.2.1) x3.1), (w64 (t1.2.2.1 + 1)), ())) (K (t1.1, t1.2.1, t1.2.2.1, ()))
noncomputable def F99 (f162 : Cue × Unit → Option (Cue × Unit)) (a : List Cue × Unit) : Option (List Cue × Unit) :=
  okIf (0 ≤ (Int.ofNat (List.length a.1))) (capK (Int.toNat (Int.ofNat (List.length a.1))) (iterF (s99_0 f162) fuel (a.1, (List.replicate (Int.toNat (Int.ofNat (List.length a.1))) (Ty.zero .cue)), 0, ()) fun t5 => some (t5.2.1, ())))
def E99 (f162 : Cue × Unit → Option (Cue × Unit)) : Env := envL [(162, mkE p162 r162 false f162)]
noncomputable def L99 (f162 : Cue × Unit → Option (Cue × Unit)) : LEnv (densS (muts p99 ++ r99)) := lenv [(0, loopL (R := densS (muts p99 ++ r99)) q99_0 (s99_0 f162))]
theorem e99_0 (f162 : Cue × Unit → Option (Cue × Unit)) (X : Nat → St → Option (densS (muts p99 ++ r99))) (rec K : densS q99_0 → Option (densS (muts p99 ++ r99))) (t : densS q99_0) :
    ev (E99 f162) tab (fun _ => false) (L99 f162) (retK tab p99 r99 Proofs.Try.f99.results.toList) (loopC Proofs.Try.f99 0) (fun i s => cond (Nat.beq i 0) (decK 100 q99_0 s K) (X i s)) (fun s => decK 100 q99_0 s rec) (enc q99_0 t) = s99_0 f162 t rec K := by kernel_rfl
theorem e99 (f162 : Cue × Unit → Option (Cue × Unit)) (a : densS p99) : runF (E99 f162) tab (fun _ => false) p99 r99 Proofs.Try.f99 (L99 f162) a = F99 f162 a := by kernel_rfl
theorem ok99 {f162 : Cue × Unit → Option (Cue × Unit)} (h162 : OK Proofs.Try.prog 162 (mkE p162 r162 false f162)) : OK Proofs.Try.prog 99 (mkE p99 r99 false (F99 f162)) :=
  fn_ok tab_ok (envL_ok (l := [(162, mkE p162 r162 false f162)]) (OKs.cons h162 OKs.nil)) mixed (ann := (fun _ => false)) (L := L99 f162) (fn := Proofs.Try.f99) (c := bodyC Proofs.Try.f99) (ls := [(0, loopC Proofs.Try.f99 0)]) Proofs.Try.func99 (by kernel_rfl) (by kernel_rfl) (by kernel_rfl) (by kernel_rfl)
    (LoopsP.cons q99_0 (s99_0 f162) rfl (e99_0 f162) LoopsP.nil) (e99 f162)
/-! laws.toGust -/
def p163 : List SP := [.t .gust]
def r163 : List SP := [.t .gust]
noncomputable def F163 (f44 : Place × Unit → Option (Place × Unit)) (a : Gust × Unit) : Option (Gust × Unit) :=
  (f44 (a.1.Drift, ())).bind fun x1 => some ((⟨a.1.From, ⟨x1.1.X, x1.1.Y⟩⟩ : Gust), ())
def E163 (f44 : Place × Unit → Option (Place × Unit)) : Env := envL [(44, mkE p44 r44 false f44)]
noncomputable def L163 (f44 : Place × Unit → Option (Place × Unit)) : LEnv (densS (muts p163 ++ r163)) := lenv []
theorem e163 (f44 : Place × Unit → Option (Place × Unit)) (a : densS p163) : runF (E163 f44) tab (fun _ => false) p163 r163 Proofs.Try.f163 (L163 f44) a = F163 f44 a := by kernel_rfl
theorem ok163 {f44 : Place × Unit → Option (Place × Unit)} (h44 : OK Proofs.Try.prog 44 (mkE p44 r44 false f44)) : OK Proofs.Try.prog 163 (mkE p163 r163 false (F163 f44)) :=
  fn_ok tab_ok (envL_ok (l := [(44, mkE p44 r44 false f44)]) (OKs.cons h44 OKs.nil)) mixed (ann := (fun _ => false)) (L := L163 f44) (fn := Proofs.Try.f163) (c := bodyC Proofs.Try.f163) (ls := []) Proofs.Try.func163 (by kernel_rfl) (by kernel_rfl) (by kernel_rfl) (by kernel_rfl)
    LoopsP.nil (e163 f44)
/-! laws.toGustS -/
def p100 : List SP := [.one (.r .gust)]
def r100 : List SP := [.one (.o 0 .gust)]
def q100_0 : List SP := pat 23 0 [(0, .one (.r .gust)), (3, .one (.o 5000001 .gust)), (4, .one (.int .i64))]
noncomputable def s100_0 (f163 : Gust × Unit → Option (Gust × Unit)) (t1 : List Gust × List Gust × Int × Unit) (rec K : List Gust × List Gust × Int × Unit → Option (List Gust × Unit)) : Option (List Gust × Unit) :=
  cond (decide (t1.2.2.1 < (Int.ofNat (List.length t1.1)))) (rdL t1.1 t1.2.2.1 fun d2 => (f163 (d2, ())).bind fun x3 => rdL t1.2.1 t1.2.2.1 fun _ => (t1.2.1[(Int.toNat t1.2.2.1)]?).bind fun d4 => rec (t1.1, (List.set t1.2.1 (Int.toNat t1.2.2.1) x3.1), (w64 (t1.2.2.1 + 1)), ())) (K (t1.1, t1.2.1, t1.2.2.1, ()))
noncomputable def F100 (f163 : Gust × Unit → Option (Gust × Unit)) (a : List Gust × Unit) : Option (List Gust × Unit) :=
  okIf (0 ≤ (Int.ofNat (List.length a.1))) (capK (Int.toNat (Int.ofNat (List.length a.1))) (iterF (s100_0 f163) fuel (a.1, (List.replicate (Int.toNat (Int.ofNat (List.length a.1))) (Ty.zero .gust)), 0, ()) fun t5 => some (t5.2.1, ())))
def E100 (f163 : Gust × Unit → Option (Gust × Unit)) : Env := envL [(163, mkE p163 r163 false f163)]
noncomputable def L100 (f163 : Gust × Unit → Option (Gust × Unit)) : LEnv (densS (muts p100 ++ r100)) := lenv [(0, loopL (R := densS (muts p100 ++ r100)) q100_0 (s100_0 f163))]
theorem e100_0 (f163 : Gust × Unit → Option (Gust × Unit)) (X : Nat → St → Option (densS (muts p100 ++ r100))) (rec K : densS q100_0 → Option (densS (muts p100 ++ r100))) (t : densS q100_0) :
    ev (E100 f163) tab (fun _ => false) (L100 f163) (retK tab p100 r100 Proofs.Try.f100.results.toList) (loopC Proofs.Try.f100 0) (fun i s => cond (Nat.beq i 0) (decK 100 q100_0 s K) (X i s)) (fun s => decK 100 q100_0 s rec) (enc q100_0 t) = s100_0 f163 t rec K := by kernel_rfl
theorem e100 (f163 : Gust × Unit → Option (Gust × Unit)) (a : densS p100) : runF (E100 f163) tab (fun _ => false) p100 r100 Proofs.Try.f100 (L100 f163) a = F100 f163 a := by kernel_rfl
theorem ok100 {f163 : Gust × Unit → Option (Gust × Unit)} (h163 : OK Proofs.Try.prog 163 (mkE p163 r163 false f163)) : OK Proofs.Try.prog 100 (mkE p100 r100 false (F100 f163)) :=
  fn_ok tab_ok (envL_ok (l := [(163, mkE p163 r163 false f163)]) (OKs.cons h163 OKs.nil)) mixed (ann := (fun _ => false)) (L := L100 f163) (fn := Proofs.Try.f100) (c := bodyC Proofs.Try.f100) (ls := [(0, loopC Proofs.Try.f100 0)]) Proofs.Try.func100 (by kernel_rfl) (by kernel_rfl) (by kernel_rfl) (by kernel_rfl)
    (LoopsP.cons q100_0 (s100_0 f163) rfl (e100_0 f163) LoopsP.nil) (e100 f163)
/-! laws.toShow -/
def p43 : List SP := [.agg [.r .device, .r .cue, .r .gust, .int .i64]]
def r43 : List SP := [.agg [.o 0 .device, .o 1 .cue, .o 2 .gust, .int .i64]]
noncomputable def F43 (f98 : List Device × Unit → Option (List Device × Unit)) (f99 : List Cue × Unit → Option (List Cue × Unit)) (f100 : List Gust × Unit → Option (List Gust × Unit)) (a : ShD × Unit) : Option (ShD × Unit) :=
  (f98 (a.1.1, ())).bind fun x1 => (f99 (a.1.2.1, ())).bind fun x2 => (f100 (a.1.2.2.1, ())).bind fun x3 => some ((x1.1, x2.1, x3.1, a.1.2.2.2.1, ()), ())
def E43 (f98 : List Device × Unit → Option (List Device × Unit)) (f99 : List Cue × Unit → Option (List Cue × Unit)) (f100 : List Gust × Unit → Option (List Gust × Unit)) : Env := envL [(98, mkE p98 r98 false f98), (99, mkE p99 r99 false f99), (100, mkE p100 r100 false f100)]
noncomputable def L43 (f98 : List Device × Unit → Option (List Device × Unit)) (f99 : List Cue × Unit → Option (List Cue × Unit)) (f100 : List Gust × Unit → Option (List Gust × Unit)) : LEnv (densS (muts p43 ++ r43)) := lenv []
theorem e43 (f98 : List Device × Unit → Option (List Device × Unit)) (f99 : List Cue × Unit → Option (List Cue × Unit)) (f100 : List Gust × Unit → Option (List Gust × Unit)) (a : densS p43) : runF (E43 f98 f99 f100) tab (fun _ => false) p43 r43 Proofs.Try.f43 (L43 f98 f99 f100) a = F43 f98 f99 f100 a := by kernel_rfl
theorem ok43 {f98 : List Device × Unit → Option (List Device × Unit)} {f99 : List Cue × Unit → Option (List Cue × Unit)} {f100 : List Gust × Unit → Option (List Gust × Unit)} (h98 : OK Proofs.Try.prog 98 (mkE p98 r98 false f98)) (h99 : OK Proofs.Try.prog 99 (mkE p99 r99 false f99)) (h100 : OK Proofs.Try.prog 100 (mkE p100 r100 false f100)) : OK Proofs.Try.prog 43 (mkE p43 r43 false (F43 f98 f99 f100)) :=
  fn_ok tab_ok (envL_ok (l := [(98, mkE p98 r98 false f98), (99, mkE p99 r99 false f99), (100, mkE p100 r100 false f100)]) (OKs.cons h98 (OKs.cons h99 (OKs.cons h100 OKs.nil)))) mixed (ann := (fun _ => false)) (L := L43 f98 f99 f100) (fn := Proofs.Try.f43) (c := bodyC Proofs.Try.f43) (ls := []) Proofs.Try.func43 (by kernel_rfl) (by kernel_rfl) (by kernel_rfl) (by kernel_rfl)
    LoopsP.nil (e43 f98 f99 f100)
/-! spec.IsName -/
def p66 : List SP := [.one (.str)]
def r66 : List SP := [.one (.bool)]
def q66_0 : List SP := pat 50 0 [(0, .one (.str)), (3, .one (.int .i64))]
noncomputable def s66_0 (t1 : Str × Int × Unit) (rec K : Str × Int × Unit → Option (Bool × Unit)) : Option (Bool × Unit) :=
  cond (decide (t1.2.1 < (Int.ofNat (List.length t1.1)))) (rdL t1.1 t1.2.1 fun d2 => cond (decide ((Int.ofNat (UInt8.toNat d2)) ≥ 97)) (rdL t1.1 t1.2.1 fun d3 => rdL t1.1 t1.2.1 fun d4 => cond (decide ((Int.ofNat (UInt8.toNat d4)) ≥ 48)) (rdL t1.1 t1.2.1 fun d5 => cond (!(decide ((Int.ofNat (UInt8.toNat d3)) ≤ 122))) (cond (!(!(decide ((Int.ofNat (UInt8.toNat d5)) ≤ 57)))) (cond (decide (t1.2.1 = 0)) (some (false, ())) (rec (t1.1, (w64 (t1.2.1 + 1)), ()))) (some (false, ()))) (rec (t1.1, (w64 (t1.2.1 + 1)), ()))) (cond (!(decide ((Int.ofNat (UInt8.toNat d3)) ≤ 122))) (some (false, ())) (rec (t1.1, (w64 (t1.2.1 + 1)), ())))) (rdL t1.1 t1.2.1 fun d6 => cond (decide ((Int.ofNat (UInt8.toNat d6)) ≥ 48)) (rdL t1.1 t1.2.1 fun d7 => cond (!(!(decide ((Int.ofNat (UInt8.toNat d7)) ≤ 57)))) (cond (decide (t1.2.1 = 0)) (some (false, ())) (rec (t1.1, (w64 (t1.2.1 + 1)), ()))) (some (false, ()))) (some (false, ())))) (K (t1.1, t1.2.1, ()))
noncomputable def F66 (a : Str × Unit) : Option (Bool × Unit) :=
  iterF (s66_0) fuel (a.1, 0, ()) fun t8 => cond (decide ((Int.ofNat (List.length t8.1)) > 0)) (some ((decide ((Int.ofNat (List.length t8.1)) ≤ 8)), ())) (some (false, ()))
def E66 : Env := envL []
noncomputable def L66 : LEnv (densS (muts p66 ++ r66)) := lenv [(0, loopL (R := densS (muts p66 ++ r66)) q66_0 (s66_0))]
theorem e66_0 (X : Nat → St → Option (densS (muts p66 ++ r66))) (rec K : densS q66_0 → Option (densS (muts p66 ++ r66))) (t : densS q66_0) :
    ev (E66) tab (fun _ => false) (L66) (retK tab p66 r66 Proofs.Try.f66.results.toList) (loopC Proofs.Try.f66 0) (fun i s => cond (Nat.beq i 0) (decK 100 q66_0 s K) (X i s)) (fun s => decK 100 q66_0 s rec) (enc q66_0 t) = s66_0 t rec K := by kernel_rfl
theorem e66 (a : densS p66) : runF (E66) tab (fun _ => false) p66 r66 Proofs.Try.f66 (L66) a = F66 a := by kernel_rfl
theorem ok66 : OK Proofs.Try.prog 66 (mkE p66 r66 false (F66)) :=
  fn_ok tab_ok (envL_ok (l := []) OKs.nil) mixed (ann := (fun _ => false)) (L := L66) (fn := Proofs.Try.f66) (c := bodyC Proofs.Try.f66) (ls := [(0, loopC Proofs.Try.f66 0)]) Proofs.Try.func66 (by kernel_rfl) (by kernel_rfl) (by kernel_rfl) (by kernel_rfl)
    (LoopsP.cons q66_0 (s66_0) rfl (e66_0) LoopsP.nil) (e66)
/-! spec.l1In -/
def p69 : List SP := [.one (.int .i64), .one (.int .i64), .one (.int .i64)]
def r69 : List SP := [.one (.bool)]
noncomputable def F69 (a : Int × Int × Int × Unit) : Option (Bool × Unit) :=
  cond (decide (a.1 ≥ a.2.1)) (some ((decide (a.1 ≤ a.2.2.1)), ())) (some (false, ()))
def E69 : Env := envL []
noncomputable def L69 : LEnv (densS (muts p69 ++ r69)) := lenv []
theorem e69 (a : densS p69) : runF (E69) tab (fun _ => false) p69 r69 Proofs.Try.f69 (L69) a = F69 a := by kernel_rfl
theorem ok69 : OK Proofs.Try.prog 69 (mkE p69 r69 false (F69)) :=
  fn_ok tab_ok (envL_ok (l := []) OKs.nil) mixed (ann := (fun _ => false)) (L := L69) (fn := Proofs.Try.f69) (c := bodyC Proofs.Try.f69) (ls := []) Proofs.Try.func69 (by kernel_rfl) (by kernel_rfl) (by kernel_rfl) (by kernel_rfl)
    LoopsP.nil (e69)
/-! spec.l5Supply -/
def p67 : List SP := [.one (.int .i64)]
def r67 : List SP := [.one (.bool)]
noncomputable def F67 (f69 : Int × Int × Int × Unit → Option (Bool × Unit)) (a : Int × Unit) : Option (Bool × Unit) :=
  (f69 (a.1, 0, 512, ())).bind fun x1 => some (x1.1, ())
def E67 (f69 : Int × Int × Int × Unit → Option (Bool × Unit)) : Env := envL [(69, mkE p69 r69 false f69)]
noncomputable def L67 (f69 : Int × Int × Int × Unit → Option (Bool × Unit)) : LEnv (densS (muts p67 ++ r67)) := lenv []
theorem e67 (f69 : Int × Int × Int × Unit → Option (Bool × Unit)) (a : densS p67) : runF (E67 f69) tab (fun _ => false) p67 r67 Proofs.Try.f67 (L67 f69) a = F67 f69 a := by kernel_rfl
theorem ok67 {f69 : Int × Int × Int × Unit → Option (Bool × Unit)} (h69 : OK Proofs.Try.prog 69 (mkE p69 r69 false f69)) : OK Proofs.Try.prog 67 (mkE p67 r67 false (F67 f69)) :=
  fn_ok tab_ok (envL_ok (l := [(69, mkE p69 r69 false f69)]) (OKs.cons h69 OKs.nil)) mixed (ann := (fun _ => false)) (L := L67 f69) (fn := Proofs.Try.f67) (c := bodyC Proofs.Try.f67) (ls := []) Proofs.Try.func67 (by kernel_rfl) (by kernel_rfl) (by kernel_rfl) (by kernel_rfl)
    LoopsP.nil (e67 f69)
/-! spec.IsHeading -/
def p173 : List SP := [.one (.int .i64)]
def r173 : List SP := [.one (.bool)]
noncomputable def F173 (a : Int × Unit) : Option (Bool × Unit) :=
  cond (decide (a.1 ≥ 0)) (some ((decide (a.1 ≤ 3)), ())) (some (false, ()))
def E173 : Env := envL []
noncomputable def L173 : LEnv (densS (muts p173 ++ r173)) := lenv []
theorem e173 (a : densS p173) : runF (E173) tab (fun _ => false) p173 r173 Proofs.Try.f173 (L173) a = F173 a := by kernel_rfl
theorem ok173 : OK Proofs.Try.prog 173 (mkE p173 r173 false (F173)) :=
  fn_ok tab_ok (envL_ok (l := []) OKs.nil) mixed (ann := (fun _ => false)) (L := L173) (fn := Proofs.Try.f173) (c := bodyC Proofs.Try.f173) (ls := []) Proofs.Try.func173 (by kernel_rfl) (by kernel_rfl) (by kernel_rfl) (by kernel_rfl)
    LoopsP.nil (e173)
/-! spec.IsJet -/
def p129 : List SP := [.t .jet]
def r129 : List SP := [.one (.bool)]
noncomputable def F129 (f69 : Int × Int × Int × Unit → Option (Bool × Unit)) (f173 : Int × Unit → Option (Bool × Unit)) (a : Jet × Unit) : Option (Bool × Unit) :=
  (f69 (a.1.At.X, (-1024), 1024, ())).bind fun x1 => cond x1.1 ((f69 (a.1.At.Y, (-1024), 1024, ())).bind fun x2 => cond x2.1 ((f173 (a.1.Heading, ())).bind fun x3 => cond x3.1 ((f69 (a.1.Tilt, 0, 16, ())).bind fun x4 => cond x4.1 ((f69 (a.1.Lift, 1, 32, ())).bind fun x5 => some (x5.1, ())) (some (false, ()))) (some (false, ()))) (some (false, ()))) (some (false, ()))
def E129 (f69 : Int × Int × Int × Unit → Option (Bool × Unit)) (f173 : Int × Unit → Option (Bool × Unit)) : Env := envL [(69, mkE p69 r69 false f69), (173, mkE p173 r173 false f173)]
noncomputable def L129 (f69 : Int × Int × Int × Unit → Option (Bool × Unit)) (f173 : Int × Unit → Option (Bool × Unit)) : LEnv (densS (muts p129 ++ r129)) := lenv []
theorem e129 (f69 : Int × Int × Int × Unit → Option (Bool × Unit)) (f173 : Int × Unit → Option (Bool × Unit)) (a : densS p129) : runF (E129 f69 f173) tab (fun _ => false) p129 r129 Proofs.Try.f129 (L129 f69 f173) a = F129 f69 f173 a := by kernel_rfl
theorem ok129 {f69 : Int × Int × Int × Unit → Option (Bool × Unit)} {f173 : Int × Unit → Option (Bool × Unit)} (h69 : OK Proofs.Try.prog 69 (mkE p69 r69 false f69)) (h173 : OK Proofs.Try.prog 173 (mkE p173 r173 false f173)) : OK Proofs.Try.prog 129 (mkE p129 r129 false (F129 f69 f173)) :=
  fn_ok tab_ok (envL_ok (l := [(69, mkE p69 r69 false f69), (173, mkE p173 r173 false f173)]) (OKs.cons h69 (OKs.cons h173 OKs.nil))) mixed (ann := (fun _ => false)) (L := L129 f69 f173) (fn := Proofs.Try.f129) (c := bodyC Proofs.Try.f129) (ls := []) Proofs.Try.func129 (by kernel_rfl) (by kernel_rfl) (by kernel_rfl) (by kernel_rfl)
    LoopsP.nil (e129 f69 f173)
/-! spec.l6Jet -/
def p68 : List SP := [.t .device]
def r68 : List SP := [.one (.bool)]
noncomputable def F68 (f129 : Jet × Unit → Option (Bool × Unit)) (a : Device × Unit) : Option (Bool × Unit) :=
  (f129 ((⟨⟨a.1.At.X, a.1.At.Y⟩, a.1.Heading, a.1.Tilt, 1⟩ : Jet), ())).bind fun x1 => some (x1.1, ())
def E68 (f129 : Jet × Unit → Option (Bool × Unit)) : Env := envL [(129, mkE p129 r129 false f129)]
noncomputable def L68 (f129 : Jet × Unit → Option (Bool × Unit)) : LEnv (densS (muts p68 ++ r68)) := lenv []
theorem e68 (f129 : Jet × Unit → Option (Bool × Unit)) (a : densS p68) : runF (E68 f129) tab (fun _ => false) p68 r68 Proofs.Try.f68 (L68 f129) a = F68 f129 a := by kernel_rfl
theorem ok68 {f129 : Jet × Unit → Option (Bool × Unit)} (h129 : OK Proofs.Try.prog 129 (mkE p129 r129 false f129)) : OK Proofs.Try.prog 68 (mkE p68 r68 false (F68 f129)) :=
  fn_ok tab_ok (envL_ok (l := [(129, mkE p129 r129 false f129)]) (OKs.cons h129 OKs.nil)) mixed (ann := (fun _ => false)) (L := L68 f129) (fn := Proofs.Try.f68) (c := bodyC Proofs.Try.f68) (ls := []) Proofs.Try.func68 (by kernel_rfl) (by kernel_rfl) (by kernel_rfl) (by kernel_rfl)
    LoopsP.nil (e68 f129)
/-! spec.IsMeasure -/
def p130 : List SP := [.one (.int .i64)]
def r130 : List SP := [.one (.bool)]
noncomputable def F130 (a : Int × Unit) : Option (Bool × Unit) :=
  cond (decide (a.1 ≥ (-4096))) (some ((decide (a.1 ≤ 4096)), ())) (some (false, ()))
def E130 : Env := envL []
noncomputable def L130 : LEnv (densS (muts p130 ++ r130)) := lenv []
theorem e130 (a : densS p130) : runF (E130) tab (fun _ => false) p130 r130 Proofs.Try.f130 (L130) a = F130 a := by kernel_rfl
theorem ok130 : OK Proofs.Try.prog 130 (mkE p130 r130 false (F130)) :=
  fn_ok tab_ok (envL_ok (l := []) OKs.nil) mixed (ann := (fun _ => false)) (L := L130) (fn := Proofs.Try.f130) (c := bodyC Proofs.Try.f130) (ls := []) Proofs.Try.func130 (by kernel_rfl) (by kernel_rfl) (by kernel_rfl) (by kernel_rfl)
    LoopsP.nil (e130)
/-! spec.IsPlace -/
def p70 : List SP := [.t .place]
def r70 : List SP := [.one (.bool)]
noncomputable def F70 (f130 : Int × Unit → Option (Bool × Unit)) (a : Place × Unit) : Option (Bool × Unit) :=
  (f130 (a.1.X, ())).bind fun x1 => cond x1.1 ((f130 (a.1.Y, ())).bind fun x2 => some (x2.1, ())) (some (false, ()))
def E70 (f130 : Int × Unit → Option (Bool × Unit)) : Env := envL [(130, mkE p130 r130 false f130)]
noncomputable def L70 (f130 : Int × Unit → Option (Bool × Unit)) : LEnv (densS (muts p70 ++ r70)) := lenv []
theorem e70 (f130 : Int × Unit → Option (Bool × Unit)) (a : densS p70) : runF (E70 f130) tab (fun _ => false) p70 r70 Proofs.Try.f70 (L70 f130) a = F70 f130 a := by kernel_rfl
theorem ok70 {f130 : Int × Unit → Option (Bool × Unit)} (h130 : OK Proofs.Try.prog 130 (mkE p130 r130 false f130)) : OK Proofs.Try.prog 70 (mkE p70 r70 false (F70 f130)) :=
  fn_ok tab_ok (envL_ok (l := [(130, mkE p130 r130 false f130)]) (OKs.cons h130 OKs.nil)) mixed (ann := (fun _ => false)) (L := L70 f130) (fn := Proofs.Try.f70) (c := bodyC Proofs.Try.f70) (ls := []) Proofs.Try.func70 (by kernel_rfl) (by kernel_rfl) (by kernel_rfl) (by kernel_rfl)
    LoopsP.nil (e70 f130)
/-! spec.IsDevice -/
def p21 : List SP := [.t .device]
def r21 : List SP := [.one (.bool)]
noncomputable def F21 (f66 : Str × Unit → Option (Bool × Unit)) (f67 : Int × Unit → Option (Bool × Unit)) (f68 : Device × Unit → Option (Bool × Unit)) (f69 : Int × Int × Int × Unit → Option (Bool × Unit)) (f70 : Place × Unit → Option (Bool × Unit)) (a : Device × Unit) : Option (Bool × Unit) :=
  (f66 (a.1.Line, ())).bind fun x1 => cond x1.1 ((f66 (a.1.Name, ())).bind fun x2 => cond (!x2.1) (some (false, ())) (cond (decide (a.1.Kind = 1)) ((f67 (a.1.Most, ())).bind fun x3 => cond x3.1 (some ((decide (a.1.Name = a.1.Name) && (decide (a.1.Kind = a.1.Kind) && (decide (a.1.Line = []) && (decide (a.1.At.X = 0) && (decide (a.1.At.Y = 0) && (decide (a.1.Heading = 0) && (decide (a.1.Tilt = 0) && (decide (a.1.Most = a.1.Most) && true)))))))), ())) (some (false, ()))) (cond (decide (a.1.Kind = 2)) (cond (!decide (a.1.Line = a.1.Name)) ((f68 (a.1, ())).bind fun x4 => cond x4.1 ((f69 (a.1.Most, 0, 32, ())).bind fun x5 => some (x5.1, ())) (some (false, ()))) (some (false, ()))) (cond (decide (a.1.Kind = 3)) (cond (!decide (a.1.Line = a.1.Name)) ((f70 (a.1.At, ())).bind fun x6 => cond x6.1 (some ((decide (a.1.Name = a.1.Name) && (decide (a.1.Kind = a.1.Kind) && (decide (a.1.Line = a.1.Line) && (decide (a.1.At.X = a.1.At.X) && (decide (a.1.At.Y = a.1.At.Y) && (decide (a.1.Heading = 0) && (decide (a.1.Tilt = 0) && (decide (a.1.Most = 0) && true)))))))), ())) (some (false, ()))) (some (false, ()))) (some (false, ())))))) ((f66 (a.1.Name, ())).bind fun x7 => cond (!x7.1) (some (false, ())) (cond (decide (a.1.Kind = 1)) ((f67 (a.1.Most, ())).bind fun x8 => cond x8.1 (some ((decide (a.1.Name = a.1.Name) && (decide (a.1.Kind = a.1.Kind) && (decide (a.1.Line = []) && (decide (a.1.At.X = 0) && (decide (a.1.At.Y = 0) && (decide (a.1.Heading = 0) && (decide (a.1.Tilt = 0) && (decide (a.1.Most = a.1.Most) && true)))))))), ())) (some (false, ()))) (cond (decide (a.1.Kind = 2)) (some (false, ())) (cond (decide (a.1.Kind = 3)) (some (false, ())) (some (false, ()))))))
def E21 (f66 : Str × Unit → Option (Bool × Unit)) (f67 : Int × Unit → Option (Bool × Unit)) (f68 : Device × Unit → Option (Bool × Unit)) (f69 : Int × Int × Int × Unit → Option (Bool × Unit)) (f70 : Place × Unit → Option (Bool × Unit)) : Env := envL [(66, mkE p66 r66 false f66), (67, mkE p67 r67 false f67), (68, mkE p68 r68 false f68), (69, mkE p69 r69 false f69), (70, mkE p70 r70 false f70)]
noncomputable def L21 (f66 : Str × Unit → Option (Bool × Unit)) (f67 : Int × Unit → Option (Bool × Unit)) (f68 : Device × Unit → Option (Bool × Unit)) (f69 : Int × Int × Int × Unit → Option (Bool × Unit)) (f70 : Place × Unit → Option (Bool × Unit)) : LEnv (densS (muts p21 ++ r21)) := lenv []
theorem e21 (f66 : Str × Unit → Option (Bool × Unit)) (f67 : Int × Unit → Option (Bool × Unit)) (f68 : Device × Unit → Option (Bool × Unit)) (f69 : Int × Int × Int × Unit → Option (Bool × Unit)) (f70 : Place × Unit → Option (Bool × Unit)) (a : densS p21) : runF (E21 f66 f67 f68 f69 f70) tab (fun _ => false) p21 r21 Proofs.Try.f21 (L21 f66 f67 f68 f69 f70) a = F21 f66 f67 f68 f69 f70 a := by kernel_rfl
theorem ok21 {f66 : Str × Unit → Option (Bool × Unit)} {f67 : Int × Unit → Option (Bool × Unit)} {f68 : Device × Unit → Option (Bool × Unit)} {f69 : Int × Int × Int × Unit → Option (Bool × Unit)} {f70 : Place × Unit → Option (Bool × Unit)} (h66 : OK Proofs.Try.prog 66 (mkE p66 r66 false f66)) (h67 : OK Proofs.Try.prog 67 (mkE p67 r67 false f67)) (h68 : OK Proofs.Try.prog 68 (mkE p68 r68 false f68)) (h69 : OK Proofs.Try.prog 69 (mkE p69 r69 false f69)) (h70 : OK Proofs.Try.prog 70 (mkE p70 r70 false f70)) : OK Proofs.Try.prog 21 (mkE p21 r21 false (F21 f66 f67 f68 f69 f70)) :=
  fn_ok tab_ok (envL_ok (l := [(66, mkE p66 r66 false f66), (67, mkE p67 r67 false f67), (68, mkE p68 r68 false f68), (69, mkE p69 r69 false f69), (70, mkE p70 r70 false f70)]) (OKs.cons h66 (OKs.cons h67 (OKs.cons h68 (OKs.cons h69 (OKs.cons h70 OKs.nil)))))) mixed (ann := (fun _ => false)) (L := L21 f66 f67 f68 f69 f70) (fn := Proofs.Try.f21) (c := bodyC Proofs.Try.f21) (ls := []) Proofs.Try.func21 (by kernel_rfl) (by kernel_rfl) (by kernel_rfl) (by kernel_rfl)
    LoopsP.nil (e21 f66 f67 f68 f69 f70)
/-! spec.FindDevice -/
def p91 : List SP := [.one (.r .device), .one (.str)]
def r91 : List SP := [.one (.int .i64)]
def q91_0 : List SP := pat 20 0 [(1, .one (.str)), (7, .one (.r .device)), (8, .one (.int .i64)), (9, .one (.int .i64))]
noncomputable def s91_0 (t1 : Str × List Device × Int × Int × Unit) (rec K : Str × List Device × Int × Int × Unit → Option (Int × Unit)) : Option (Int × Unit) :=
  cond (decide (t1.2.2.2.1 < t1.2.2.1)) (rdL t1.2.1 t1.2.2.2.1 fun d2 => cond (decide (d2.Name = t1.1)) (some (t1.2.2.2.1, ())) (rec (t1.1, t1.2.1, t1.2.2.1, (w64 (t1.2.2.2.1 + 1)), ()))) (K (t1.1, t1.2.1, t1.2.2.1, t1.2.2.2.1, ()))
noncomputable def F91 (a : List Device × Str × Unit) : Option (Int × Unit) :=
  iterF (s91_0) fuel (a.2.1, a.1, (Int.ofNat (List.length a.1)), 0, ()) fun t3 => some ((-1), ())
def E91 : Env := envL []
noncomputable def L91 : LEnv (densS (muts p91 ++ r91)) := lenv [(0, loopL (R := densS (muts p91 ++ r91)) q91_0 (s91_0))]
theorem e91_0 (X : Nat → St → Option (densS (muts p91 ++ r91))) (rec K : densS q91_0 → Option (densS (muts p91 ++ r91))) (t : densS q91_0) :
    ev (E91) tab (fun _ => false) (L91) (retK tab p91 r91 Proofs.Try.f91.results.toList) (loopC Proofs.Try.f91 0) (fun i s => cond (Nat.beq i 0) (decK 100 q91_0 s K) (X i s)) (fun s => decK 100 q91_0 s rec) (enc q91_0 t) = s91_0 t rec K := by kernel_rfl
theorem e91 (a : densS p91) : runF (E91) tab (fun _ => false) p91 r91 Proofs.Try.f91 (L91) a = F91 a := by kernel_rfl
theorem ok91 : OK Proofs.Try.prog 91 (mkE p91 r91 false (F91)) :=
  fn_ok tab_ok (envL_ok (l := []) OKs.nil) mixed (ann := (fun _ => false)) (L := L91) (fn := Proofs.Try.f91) (c := bodyC Proofs.Try.f91) (ls := [(0, loopC Proofs.Try.f91 0)]) Proofs.Try.func91 (by kernel_rfl) (by kernel_rfl) (by kernel_rfl) (by kernel_rfl)
    (LoopsP.cons q91_0 (s91_0) rfl (e91_0) LoopsP.nil) (e91)
/-! spec.l6Hangs -/
def p180 : List SP := [.one (.r .device), .t .device]
def r180 : List SP := [.one (.bool)]
noncomputable def F180 (f91 : List Device × Str × Unit → Option (Int × Unit)) (a : List Device × Device × Unit) : Option (Bool × Unit) :=
  (f91 (a.1, a.2.1.Line, ())).bind fun x1 => cond (decide (a.2.1.Kind = 2)) (cond (decide (x1.1 ≥ 0)) (rdL a.1 x1.1 fun d2 => some ((decide (d2.Kind = 1)), ())) (some (false, ()))) (cond (decide (a.2.1.Kind = 3)) (cond (decide (x1.1 ≥ 0)) (rdL a.1 x1.1 fun d3 => some ((decide (d3.Kind = 2)), ())) (some (false, ()))) (some (true, ())))
def E180 (f91 : List Device × Str × Unit → Option (Int × Unit)) : Env := envL [(91, mkE p91 r91 false f91)]
noncomputable def L180 (f91 : List Device × Str × Unit → Option (Int × Unit)) : LEnv (densS (muts p180 ++ r180)) := lenv []
theorem e180 (f91 : List Device × Str × Unit → Option (Int × Unit)) (a : densS p180) : runF (E180 f91) tab (fun _ => false) p180 r180 Proofs.Try.f180 (L180 f91) a = F180 f91 a := by kernel_rfl
theorem ok180 {f91 : List Device × Str × Unit → Option (Int × Unit)} (h91 : OK Proofs.Try.prog 91 (mkE p91 r91 false f91)) : OK Proofs.Try.prog 180 (mkE p180 r180 false (F180 f91)) :=
  fn_ok tab_ok (envL_ok (l := [(91, mkE p91 r91 false f91)]) (OKs.cons h91 OKs.nil)) mixed (ann := (fun _ => false)) (L := L180 f91) (fn := Proofs.Try.f180) (c := bodyC Proofs.Try.f180) (ls := []) Proofs.Try.func180 (by kernel_rfl) (by kernel_rfl) (by kernel_rfl) (by kernel_rfl)
    LoopsP.nil (e180 f91)
/-! spec.IsRig -/
def p149 : List SP := [.one (.r .device)]
def r149 : List SP := [.one (.bool)]
def q149_0 : List SP := pat 40 0 [(0, .one (.r .device)), (5, .one (.r .device)), (6, .one (.int .i64)), (7, .one (.int .i64))]
noncomputable def s149_0 (f21 : Device × Unit → Option (Bool × Unit)) (f180 : List Device × Device × Unit → Option (Bool × Unit)) (t1 : List Device × List Device × Int × Int × Unit) (rec K : List Device × List Device × Int × Int × Unit → Option (Bool × Unit)) : Option (Bool × Unit) :=
  cond (decide (t1.2.2.2.1 < t1.2.2.1)) (rdL t1.2.1 t1.2.2.2.1 fun d2 => (f21 (d2, ())).bind fun x3 => cond (!(!x3.1)) (cond (decide (t1.2.2.2.1 > 0)) (rdL t1.1 (w64 (t1.2.2.2.1 - 1)) fun d4 => cond (!(!Op.bytesLess d4.Name d2.Name)) ((f180 (t1.1, d2, ())).bind fun x5 => cond (!x5.1) (some (false, ())) (rec (t1.1, t1.2.1, t1.2.2.1, (w64 (t1.2.2.2.1 + 1)), ()))) (some (false, ()))) ((f180 (t1.1, d2, ())).bind fun x6 => cond (!x6.1) (some (false, ())) (rec (t1.1, t1.2.1, t1.2.2.1, (w64 (t1.2.2.2.1 + 1)), ())))) (some (false, ()))) (K (t1.1, t1.2.1, t1.2.2.1, t1.2.2.2.1, ()))
noncomputable def F149 (f21 : Device × Unit → Option (Bool × Unit)) (f180 : List Device × Device × Unit → Option (Bool × Unit)) (a : List Device × Unit) : Option (Bool × Unit) :=
  iterF (s149_0 f21 f180) fuel (a.1, a.1, (Int.ofNat (List.length a.1)), 0, ()) fun t7 => some ((decide ((Int.ofNat (List.length t7.1)) ≤ 8)), ())
def E149 (f21 : Device × Unit → Option (Bool × Unit)) (f180 : List Device × Device × Unit → Option (Bool × Unit)) : Env := envL [(21, mkE p21 r21 false f21), (180, mkE p180 r180 false f180)]
noncomputable def L149 (f21 : Device × Unit → Option (Bool × Unit)) (f180 : List Device × Device × Unit → Option (Bool × Unit)) : LEnv (densS (muts p149 ++ r149)) := lenv [(0, loopL (R := densS (muts p149 ++ r149)) q149_0 (s149_0 f21 f180))]
theorem e149_0 (f21 : Device × Unit → Option (Bool × Unit)) (f180 : List Device × Device × Unit → Option (Bool × Unit)) (X : Nat → St → Option (densS (muts p149 ++ r149))) (rec K : densS q149_0 → Option (densS (muts p149 ++ r149))) (t : densS q149_0) :
    ev (E149 f21 f180) tab (fun _ => false) (L149 f21 f180) (retK tab p149 r149 Proofs.Try.f149.results.toList) (loopC Proofs.Try.f149 0) (fun i s => cond (Nat.beq i 0) (decK 100 q149_0 s K) (X i s)) (fun s => decK 100 q149_0 s rec) (enc q149_0 t) = s149_0 f21 f180 t rec K := by kernel_rfl
theorem e149 (f21 : Device × Unit → Option (Bool × Unit)) (f180 : List Device × Device × Unit → Option (Bool × Unit)) (a : densS p149) : runF (E149 f21 f180) tab (fun _ => false) p149 r149 Proofs.Try.f149 (L149 f21 f180) a = F149 f21 f180 a := by kernel_rfl
theorem ok149 {f21 : Device × Unit → Option (Bool × Unit)} {f180 : List Device × Device × Unit → Option (Bool × Unit)} (h21 : OK Proofs.Try.prog 21 (mkE p21 r21 false f21)) (h180 : OK Proofs.Try.prog 180 (mkE p180 r180 false f180)) : OK Proofs.Try.prog 149 (mkE p149 r149 false (F149 f21 f180)) :=
  fn_ok tab_ok (envL_ok (l := [(21, mkE p21 r21 false f21), (180, mkE p180 r180 false f180)]) (OKs.cons h21 (OKs.cons h180 OKs.nil))) mixed (ann := (fun _ => false)) (L := L149 f21 f180) (fn := Proofs.Try.f149) (c := bodyC Proofs.Try.f149) (ls := [(0, loopC Proofs.Try.f149 0)]) Proofs.Try.func149 (by kernel_rfl) (by kernel_rfl) (by kernel_rfl) (by kernel_rfl)
    (LoopsP.cons q149_0 (s149_0 f21 f180) rfl (e149_0 f21 f180) LoopsP.nil) (e149 f21 f180)
/-! spec.l2Mod -/
def p196 : List SP := [.one (.int .i64)]
def r196 : List SP := [.one (.int .i64)]
noncomputable def F196 (a : Int × Unit) : Option (Int × Unit) :=
  cond (decide ((Int.tmod a.1 4) < 0)) (some ((w64 ((Int.tmod a.1 4) + 4)), ())) (some ((Int.tmod a.1 4), ()))
def E196 : Env := envL []
noncomputable def L196 : LEnv (densS (muts p196 ++ r196)) := lenv []
theorem e196 (a : densS p196) : runF (E196) tab (fun _ => false) p196 r196 Proofs.Try.f196 (L196) a = F196 a := by kernel_rfl
theorem ok196 : OK Proofs.Try.prog 196 (mkE p196 r196 false (F196)) :=
  fn_ok tab_ok (envL_ok (l := []) OKs.nil) mixed (ann := (fun _ => false)) (L := L196) (fn := Proofs.Try.f196) (c := bodyC Proofs.Try.f196) (ls := []) Proofs.Try.func196 (by kernel_rfl) (by kernel_rfl) (by kernel_rfl) (by kernel_rfl)
    LoopsP.nil (e196)
/-! spec.l2Turn -/
def p189 : List SP := [.t .place, .one (.int .i64)]
def r189 : List SP := [.t .place]
def q189_0 : List SP := pat 19 0 [(2, .boxt 5000001 .place), (4, .boxt 5000002 .place), (5, .one (.int .i64))]
noncomputable def s189_0 (f196 : Int × Unit → Option (Int × Unit)) (t2 : Place × Place × Int × Unit) (rec K : Place × Place × Int × Unit → Option (Place × Unit)) : Option (Place × Unit) :=
  cond (decide (t2.2.2.1 > 0)) (rec ((⟨(w64 (0 - t2.1.Y)), t2.1.X⟩ : Place), t2.2.1, (w64 (t2.2.2.1 - 1)), ())) (K (t2.1, t2.2.1, t2.2.2.1, ()))
noncomputable def F189 (f196 : Int × Unit → Option (Int × Unit)) (a : Place × Int × Unit) : Option (Place × Unit) :=
  (f196 (a.2.1, ())).bind fun x1 => iterF (s189_0 f196) fuel (a.1, (⟨0, 0⟩ : Place), x1.1, ()) fun t3 => some (t3.1, ())
def E189 (f196 : Int × Unit → Option (Int × Unit)) : Env := envL [(196, mkE p196 r196 false f196)]
noncomputable def L189 (f196 : Int × Unit → Option (Int × Unit)) : LEnv (densS (muts p189 ++ r189)) := lenv [(0, loopL (R := densS (muts p189 ++ r189)) q189_0 (s189_0 f196))]
theorem e189_0 (f196 : Int × Unit → Option (Int × Unit)) (X : Nat → St → Option (densS (muts p189 ++ r189))) (rec K : densS q189_0 → Option (densS (muts p189 ++ r189))) (t : densS q189_0) :
    ev (E189 f196) tab (fun _ => false) (L189 f196) (retK tab p189 r189 Proofs.Try.f189.results.toList) (loopC Proofs.Try.f189 0) (fun i s => cond (Nat.beq i 0) (decK 100 q189_0 s K) (X i s)) (fun s => decK 100 q189_0 s rec) (enc q189_0 t) = s189_0 f196 t rec K := by kernel_rfl
theorem e189 (f196 : Int × Unit → Option (Int × Unit)) (a : densS p189) : runF (E189 f196) tab (fun _ => false) p189 r189 Proofs.Try.f189 (L189 f196) a = F189 f196 a := by kernel_rfl
theorem ok189 {f196 : Int × Unit → Option (Int × Unit)} (h196 : OK Proofs.Try.prog 196 (mkE p196 r196 false f196)) : OK Proofs.Try.prog 189 (mkE p189 r189 false (F189 f196)) :=
  fn_ok tab_ok (envL_ok (l := [(196, mkE p196 r196 false f196)]) (OKs.cons h196 OKs.nil)) mixed (ann := (fun _ => false)) (L := L189 f196) (fn := Proofs.Try.f189) (c := bodyC Proofs.Try.f189) (ls := [(0, loopC Proofs.Try.f189 0)]) Proofs.Try.func189 (by kernel_rfl) (by kernel_rfl) (by kernel_rfl) (by kernel_rfl)
    (LoopsP.cons q189_0 (s189_0 f196) rfl (e189_0 f196) LoopsP.nil) (e189 f196)
/-! spec.l2Add -/
def p188 : List SP := [.t .place, .t .place]
def r188 : List SP := [.t .place]
noncomputable def F188 (a : Place × Place × Unit) : Option (Place × Unit) :=
  some ((⟨(w64 (a.1.X + a.2.1.X)), (w64 (a.1.Y + a.2.1.Y))⟩ : Place), ())
def E188 : Env := envL []
noncomputable def L188 : LEnv (densS (muts p188 ++ r188)) := lenv []
theorem e188 (a : densS p188) : runF (E188) tab (fun _ => false) p188 r188 Proofs.Try.f188 (L188) a = F188 a := by kernel_rfl
theorem ok188 : OK Proofs.Try.prog 188 (mkE p188 r188 false (F188)) :=
  fn_ok tab_ok (envL_ok (l := []) OKs.nil) mixed (ann := (fun _ => false)) (L := L188) (fn := Proofs.Try.f188) (c := bodyC Proofs.Try.f188) (ls := []) Proofs.Try.func188 (by kernel_rfl) (by kernel_rfl) (by kernel_rfl) (by kernel_rfl)
    LoopsP.nil (e188)
/-! spec.TurnHeading -/
def p190 : List SP := [.one (.int .i64), .one (.int .i64)]
def r190 : List SP := [.one (.int .i64)]
noncomputable def F190 (f173 : Int × Unit → Option (Bool × Unit)) (f196 : Int × Unit → Option (Int × Unit)) (a : Int × Int × Unit) : Option (Int × Unit) :=
  (f173 (a.1, ())).bind fun x1 => cond (!x1.1) (some (0, ())) ((f196 (a.2.1, ())).bind fun x2 => (f196 ((w64 (a.1 + x2.1)), ())).bind fun x3 => some (x3.1, ()))
def E190 (f173 : Int × Unit → Option (Bool × Unit)) (f196 : Int × Unit → Option (Int × Unit)) : Env := envL [(173, mkE p173 r173 false f173), (196, mkE p196 r196 false f196)]
noncomputable def L190 (f173 : Int × Unit → Option (Bool × Unit)) (f196 : Int × Unit → Option (Int × Unit)) : LEnv (densS (muts p190 ++ r190)) := lenv []
theorem e190 (f173 : Int × Unit → Option (Bool × Unit)) (f196 : Int × Unit → Option (Int × Unit)) (a : densS p190) : runF (E190 f173 f196) tab (fun _ => false) p190 r190 Proofs.Try.f190 (L190 f173 f196) a = F190 f173 f196 a := by kernel_rfl
theorem ok190 {f173 : Int × Unit → Option (Bool × Unit)} {f196 : Int × Unit → Option (Int × Unit)} (h173 : OK Proofs.Try.prog 173 (mkE p173 r173 false f173)) (h196 : OK Proofs.Try.prog 196 (mkE p196 r196 false f196)) : OK Proofs.Try.prog 190 (mkE p190 r190 false (F190 f173 f196)) :=
  fn_ok tab_ok (envL_ok (l := [(173, mkE p173 r173 false f173), (196, mkE p196 r196 false f196)]) (OKs.cons h173 (OKs.cons h196 OKs.nil))) mixed (ann := (fun _ => false)) (L := L190 f173 f196) (fn := Proofs.Try.f190) (c := bodyC Proofs.Try.f190) (ls := []) Proofs.Try.func190 (by kernel_rfl) (by kernel_rfl) (by kernel_rfl) (by kernel_rfl)
    LoopsP.nil (e190 f173 f196)
/-! spec.l6Moved -/
def p158 : List SP := [.one (.r .device), .one (.int .i64), .t .place]
def r158 : List SP := [.one (.o 0 .device), .one (.bool)]
def q158_0 : List SP := pat 46 0 [(1, .one (.int .i64)), (5, .boxt 5000001 .place), (8, .one (.o 5000002 .device)), (12, .one (.r .device)), (13, .one (.int .i64)), (14, .one (.int .i64))]
noncomputable def s158_0 (f189 : Place × Int × Unit → Option (Place × Unit)) (f188 : Place × Place × Unit → Option (Place × Unit)) (f190 : Int × Int × Unit → Option (Int × Unit)) (f21 : Device × Unit → Option (Bool × Unit)) (t1 : Int × Place × List Device × List Device × Int × Int × Unit) (rec K : Int × Place × List Device × List Device × Int × Int × Unit → Option (List Device × Bool × Unit)) : Option (List Device × Bool × Unit) :=
  cond (decide (t1.2.2.2.2.2.1 < t1.2.2.2.2.1)) (rdL t1.2.2.2.1 t1.2.2.2.2.2.1 fun d2 => cond (!(decide (d2.Kind = 1))) ((f189 (d2.At, t1.1, ())).bind fun x3 => (f188 (x3.1, t1.2.1, ())).bind fun x4 => cond (decide (d2.Kind = 2)) ((f190 (d2.Heading, t1.1, ())).bind fun x5 => (f21 ((⟨d2.Name, d2.Kind, d2.Line, ⟨x4.1.X, x4.1.Y⟩, x5.1, d2.Tilt, d2.Most⟩ : Device), ())).bind fun x6 => cond (!x6.1) (some (([] : List Device), false, ())) (capK (List.length t1.2.2.1 + List.length ([(⟨d2.Name, d2.Kind, d2.Line, ⟨x4.1.X, x4.1.Y⟩, x5.1, d2.Tilt, d2.Most⟩ : Device)] : List Device)) (rec (t1.1, t1.2.1, (t1.2.2.1 ++ ([(⟨d2.Name, d2.Kind, d2.Line, ⟨x4.1.X, x4.1.Y⟩, x5.1, d2.Tilt, d2.Most⟩ : Device)] : List Device)), t1.2.2.2.1, t1.2.2.2.2.1, (w64 (t1.2.2.2.2.2.1 + 1)), ())))) ((f21 ((⟨d2.Name, d2.Kind, d2.Line, ⟨x4.1.X, x4.1.Y⟩, d2.Heading, d2.Tilt, d2.Most⟩ : Device), ())).bind fun x7 => cond (!x7.1) (some (([] : List Device), false, ())) (capK (List.length t1.2.2.1 + List.length ([(⟨d2.Name, d2.Kind, d2.Line, ⟨x4.1.X, x4.1.Y⟩, d2.Heading, d2.Tilt, d2.Most⟩ : Device)] : List Device)) (rec (t1.1, t1.2.1, (t1.2.2.1 ++ ([(⟨d2.Name, d2.Kind, d2.Line, ⟨x4.1.X, x4.1.Y⟩, d2.Heading, d2.Tilt, d2.Most⟩ : Device)] : List Device)), t1.2.2.2.1, t1.2.2.2.2.1, (w64 (t1.2.2.2.2.2.1 + 1)), ()))))) (cond (decide (d2.Kind = 2)) ((f190 (d2.Heading, t1.1, ())).bind fun x8 => (f21 ((⟨d2.Name, d2.Kind, d2.Line, ⟨d2.At.X, d2.At.Y⟩, x8.1, d2.Tilt, d2.Most⟩ : Device), ())).bind fun x9 => cond (!x9.1) (some (([] : List Device), false, ())) (capK (List.length t1.2.2.1 + List.length ([(⟨d2.Name, d2.Kind, d2.Line, ⟨d2.At.X, d2.At.Y⟩, x8.1, d2.Tilt, d2.Most⟩ : Device)] : List Device)) (rec (t1.1, t1.2.1, (t1.2.2.1 ++ ([(⟨d2.Name, d2.Kind, d2.Line, ⟨d2.At.X, d2.At.Y⟩, x8.1, d2.Tilt, d2.Most⟩ : Device)] : List Device)), t1.2.2.2.1, t1.2.2.2.2.1, (w64 (t1.2.2.2.2.2.1 + 1)), ())))) ((f21 (d2, ())).bind fun x10 => cond (!x10.1) (some (([] : List Device), false, ())) (capK (List.length t1.2.2.1 + List.length ([d2] : List Device)) (rec (t1.1, t1.2.1, (t1.2.2.1 ++ ([d2] : List Device)), t1.2.2.2.1, t1.2.2.2.2.1, (w64 (t1.2.2.2.2.2.1 + 1)), ())))))) (K (t1.1, t1.2.1, t1.2.2.1, t1.2.2.2.1, t1.2.2.2.2.1, t1.2.2.2.2.2.1, ()))
noncomputable def F158 (f189 : Place × Int × Unit → Option (Place × Unit)) (f188 : Place × Place × Unit → Option (Place × Unit)) (f190 : Int × Int × Unit → Option (Int × Unit)) (f21 : Device × Unit → Option (Bool × Unit)) (a : List Device × Int × Place × Unit) : Option (List Device × Bool × Unit) :=
  iterF (s158_0 f189 f188 f190 f21) fuel (a.2.1, a.2.2.1, ([] : List Device), a.1, (Int.ofNat (List.length a.1)), 0, ()) fun t11 => some (t11.2.2.1, true, ())
def E158 (f189 : Place × Int × Unit → Option (Place × Unit)) (f188 : Place × Place × Unit → Option (Place × Unit)) (f190 : Int × Int × Unit → Option (Int × Unit)) (f21 : Device × Unit → Option (Bool × Unit)) : Env := envL [(189, mkE p189 r189 false f189), (188, mkE p188 r188 false f188), (190, mkE p190 r190 false f190), (21, mkE p21 r21 false f21)]
noncomputable def L158 (f189 : Place × Int × Unit → Option (Place × Unit)) (f188 : Place × Place × Unit → Option (Place × Unit)) (f190 : Int × Int × Unit → Option (Int × Unit)) (f21 : Device × Unit → Option (Bool × Unit)) : LEnv (densS (muts p158 ++ r158)) := lenv [(0, loopL (R := densS (muts p158 ++ r158)) q158_0 (s158_0 f189 f188 f190 f21))]
theorem e158_0 (f189 : Place × Int × Unit → Option (Place × Unit)) (f188 : Place × Place × Unit → Option (Place × Unit)) (f190 : Int × Int × Unit → Option (Int × Unit)) (f21 : Device × Unit → Option (Bool × Unit)) (X : Nat → St → Option (densS (muts p158 ++ r158))) (rec K : densS q158_0 → Option (densS (muts p158 ++ r158))) (t : densS q158_0) :
    ev (E158 f189 f188 f190 f21) tab (fun _ => false) (L158 f189 f188 f190 f21) (retK tab p158 r158 Proofs.Try.f158.results.toList) (loopC Proofs.Try.f158 0) (fun i s => cond (Nat.beq i 0) (decK 100 q158_0 s K) (X i s)) (fun s => decK 100 q158_0 s rec) (enc q158_0 t) = s158_0 f189 f188 f190 f21 t rec K := by kernel_rfl
theorem e158 (f189 : Place × Int × Unit → Option (Place × Unit)) (f188 : Place × Place × Unit → Option (Place × Unit)) (f190 : Int × Int × Unit → Option (Int × Unit)) (f21 : Device × Unit → Option (Bool × Unit)) (a : densS p158) : runF (E158 f189 f188 f190 f21) tab (fun _ => false) p158 r158 Proofs.Try.f158 (L158 f189 f188 f190 f21) a = F158 f189 f188 f190 f21 a := by kernel_rfl
theorem ok158 {f189 : Place × Int × Unit → Option (Place × Unit)} {f188 : Place × Place × Unit → Option (Place × Unit)} {f190 : Int × Int × Unit → Option (Int × Unit)} {f21 : Device × Unit → Option (Bool × Unit)} (h189 : OK Proofs.Try.prog 189 (mkE p189 r189 false f189)) (h188 : OK Proofs.Try.prog 188 (mkE p188 r188 false f188)) (h190 : OK Proofs.Try.prog 190 (mkE p190 r190 false f190)) (h21 : OK Proofs.Try.prog 21 (mkE p21 r21 false f21)) : OK Proofs.Try.prog 158 (mkE p158 r158 false (F158 f189 f188 f190 f21)) :=
  fn_ok tab_ok (envL_ok (l := [(189, mkE p189 r189 false f189), (188, mkE p188 r188 false f188), (190, mkE p190 r190 false f190), (21, mkE p21 r21 false f21)]) (OKs.cons h189 (OKs.cons h188 (OKs.cons h190 (OKs.cons h21 OKs.nil))))) mixed (ann := (fun _ => false)) (L := L158 f189 f188 f190 f21) (fn := Proofs.Try.f158) (c := bodyC Proofs.Try.f158) (ls := [(0, loopC Proofs.Try.f158 0)]) Proofs.Try.func158 (by kernel_rfl) (by kernel_rfl) (by kernel_rfl) (by kernel_rfl)
    (LoopsP.cons q158_0 (s158_0 f189 f188 f190 f21) rfl (e158_0 f189 f188 f190 f21) LoopsP.nil) (e158 f189 f188 f190 f21)
/-! spec.ShiftRig -/
def p96 : List SP := [.one (.r .device), .t .place]
def r96 : List SP := [.one (.o 0 .device), .one (.bool)]
noncomputable def F96 (f149 : List Device × Unit → Option (Bool × Unit)) (f70 : Place × Unit → Option (Bool × Unit)) (f158 : List Device × Int × Place × Unit → Option (List Device × Bool × Unit)) (a : List Device × Place × Unit) : Option (List Device × Bool × Unit) :=
  (f149 (a.1, ())).bind fun x1 => cond (!(!x1.1)) ((f70 (a.2.1, ())).bind fun x2 => cond (!x2.1) (some (([] : List Device), false, ())) ((f158 (a.1, 0, a.2.1, ())).bind fun x3 => some (x3.1, x3.2.1, ()))) (some (([] : List Device), false, ()))
def E96 (f149 : List Device × Unit → Option (Bool × Unit)) (f70 : Place × Unit → Option (Bool × Unit)) (f158 : List Device × Int × Place × Unit → Option (List Device × Bool × Unit)) : Env := envL [(149, mkE p149 r149 false f149), (70, mkE p70 r70 false f70), (158, mkE p158 r158 false f158)]
noncomputable def L96 (f149 : List Device × Unit → Option (Bool × Unit)) (f70 : Place × Unit → Option (Bool × Unit)) (f158 : List Device × Int × Place × Unit → Option (List Device × Bool × Unit)) : LEnv (densS (muts p96 ++ r96)) := lenv []
theorem e96 (f149 : List Device × Unit → Option (Bool × Unit)) (f70 : Place × Unit → Option (Bool × Unit)) (f158 : List Device × Int × Place × Unit → Option (List Device × Bool × Unit)) (a : densS p96) : runF (E96 f149 f70 f158) tab (fun _ => false) p96 r96 Proofs.Try.f96 (L96 f149 f70 f158) a = F96 f149 f70 f158 a := by kernel_rfl
theorem ok96 {f149 : List Device × Unit → Option (Bool × Unit)} {f70 : Place × Unit → Option (Bool × Unit)} {f158 : List Device × Int × Place × Unit → Option (List Device × Bool × Unit)} (h149 : OK Proofs.Try.prog 149 (mkE p149 r149 false f149)) (h70 : OK Proofs.Try.prog 70 (mkE p70 r70 false f70)) (h158 : OK Proofs.Try.prog 158 (mkE p158 r158 false f158)) : OK Proofs.Try.prog 96 (mkE p96 r96 false (F96 f149 f70 f158)) :=
  fn_ok tab_ok (envL_ok (l := [(149, mkE p149 r149 false f149), (70, mkE p70 r70 false f70), (158, mkE p158 r158 false f158)]) (OKs.cons h149 (OKs.cons h70 (OKs.cons h158 OKs.nil)))) mixed (ann := (fun _ => false)) (L := L96 f149 f70 f158) (fn := Proofs.Try.f96) (c := bodyC Proofs.Try.f96) (ls := []) Proofs.Try.func96 (by kernel_rfl) (by kernel_rfl) (by kernel_rfl) (by kernel_rfl)
    LoopsP.nil (e96 f149 f70 f158)
/-! spec.IsCue -/
def p169 : List SP := [.t .cue]
def r169 : List SP := [.one (.bool)]
noncomputable def F169 (f69 : Int × Int × Int × Unit → Option (Bool × Unit)) (f66 : Str × Unit → Option (Bool × Unit)) (a : Cue × Unit) : Option (Bool × Unit) :=
  (f69 (a.1.Tick, 0, 64, ())).bind fun x1 => cond x1.1 ((f66 (a.1.Name, ())).bind fun x2 => cond x2.1 ((f69 (a.1.Level, 0, 32, ())).bind fun x3 => cond x3.1 ((f69 (a.1.Ramp, 0, 16, ())).bind fun x4 => some (x4.1, ())) (some (false, ()))) (some (false, ()))) (some (false, ()))
def E169 (f69 : Int × Int × Int × Unit → Option (Bool × Unit)) (f66 : Str × Unit → Option (Bool × Unit)) : Env := envL [(69, mkE p69 r69 false f69), (66, mkE p66 r66 false f66)]
noncomputable def L169 (f69 : Int × Int × Int × Unit → Option (Bool × Unit)) (f66 : Str × Unit → Option (Bool × Unit)) : LEnv (densS (muts p169 ++ r169)) := lenv []
theorem e169 (f69 : Int × Int × Int × Unit → Option (Bool × Unit)) (f66 : Str × Unit → Option (Bool × Unit)) (a : densS p169) : runF (E169 f69 f66) tab (fun _ => false) p169 r169 Proofs.Try.f169 (L169 f69 f66) a = F169 f69 f66 a := by kernel_rfl
theorem ok169 {f69 : Int × Int × Int × Unit → Option (Bool × Unit)} {f66 : Str × Unit → Option (Bool × Unit)} (h69 : OK Proofs.Try.prog 69 (mkE p69 r69 false f69)) (h66 : OK Proofs.Try.prog 66 (mkE p66 r66 false f66)) : OK Proofs.Try.prog 169 (mkE p169 r169 false (F169 f69 f66)) :=
  fn_ok tab_ok (envL_ok (l := [(69, mkE p69 r69 false f69), (66, mkE p66 r66 false f66)]) (OKs.cons h69 (OKs.cons h66 OKs.nil))) mixed (ann := (fun _ => false)) (L := L169 f69 f66) (fn := Proofs.Try.f169) (c := bodyC Proofs.Try.f169) (ls := []) Proofs.Try.func169 (by kernel_rfl) (by kernel_rfl) (by kernel_rfl) (by kernel_rfl)
    LoopsP.nil (e169 f69 f66)
/-! spec.CompareCues -/
def p181 : List SP := [.t .cue, .t .cue]
def r181 : List SP := [.one (.int .i64)]
noncomputable def F181 (a : Cue × Cue × Unit) : Option (Int × Unit) :=
  cond (decide (a.1.Tick < a.2.1.Tick)) (cond (decide (a.1.Tick < a.2.1.Tick)) (some ((-1), ())) (cond (decide (a.1.Tick = a.2.1.Tick)) (cond (decide (a.1.Name = a.2.1.Name)) (some (0, ())) (some (1, ()))) (some (1, ())))) (cond (decide (a.1.Tick = a.2.1.Tick)) (cond (Op.bytesLess a.1.Name a.2.1.Name) (some ((-1), ())) (cond (decide (a.1.Tick = a.2.1.Tick)) (cond (decide (a.1.Name = a.2.1.Name)) (some (0, ())) (some (1, ()))) (some (1, ())))) (cond (decide (a.1.Tick = a.2.1.Tick)) (cond (decide (a.1.Name = a.2.1.Name)) (some (0, ())) (some (1, ()))) (some (1, ()))))
def E181 : Env := envL []
noncomputable def L181 : LEnv (densS (muts p181 ++ r181)) := lenv []
theorem e181 (a : densS p181) : runF (E181) tab (fun _ => false) p181 r181 Proofs.Try.f181 (L181) a = F181 a := by kernel_rfl
theorem ok181 : OK Proofs.Try.prog 181 (mkE p181 r181 false (F181)) :=
  fn_ok tab_ok (envL_ok (l := []) OKs.nil) mixed (ann := (fun _ => false)) (L := L181) (fn := Proofs.Try.f181) (c := bodyC Proofs.Try.f181) (ls := []) Proofs.Try.func181 (by kernel_rfl) (by kernel_rfl) (by kernel_rfl) (by kernel_rfl)
    LoopsP.nil (e181)
/-! spec.IsScore -/
def p150 : List SP := [.one (.r .cue)]
def r150 : List SP := [.one (.bool)]
def q150_0 : List SP := pat 33 0 [(0, .one (.r .cue)), (5, .one (.r .cue)), (6, .one (.int .i64)), (7, .one (.int .i64))]
noncomputable def s150_0 (f169 : Cue × Unit → Option (Bool × Unit)) (f181 : Cue × Cue × Unit → Option (Int × Unit)) (t1 : List Cue × List Cue × Int × Int × Unit) (rec K : List Cue × List Cue × Int × Int × Unit → Option (Bool × Unit)) : Option (Bool × Unit) :=
  cond (decide (t1.2.2.2.1 < t1.2.2.1)) (rdL t1.2.1 t1.2.2.2.1 fun d2 => (f169 (d2, ())).bind fun x3 => cond (!(!x3.1)) (cond (decide (t1.2.2.2.1 > 0)) (rdL t1.1 (w64 (t1.2.2.2.1 - 1)) fun d4 => (f181 (d4, d2, ())).bind fun x5 => cond (decide (x5.1 ≥ 0)) (some (false, ())) (rec (t1.1, t1.2.1, t1.2.2.1, (w64 (t1.2.2.2.1 + 1)), ()))) (rec (t1.1, t1.2.1, t1.2.2.1, (w64 (t1.2.2.2.1 + 1)), ()))) (some (false, ()))) (K (t1.1, t1.2.1, t1.2.2.1, t1.2.2.2.1, ()))
noncomputable def F150 (f169 : Cue × Unit → Option (Bool × Unit)) (f181 : Cue × Cue × Unit → Option (Int × Unit)) (a : List Cue × Unit) : Option (Bool × Unit) :=
  iterF (s150_0 f169 f181) fuel (a.1, a.1, (Int.ofNat (List.length a.1)), 0, ()) fun t6 => some ((decide ((Int.ofNat (List.length t6.1)) ≤ 12)), ())
def E150 (f169 : Cue × Unit → Option (Bool × Unit)) (f181 : Cue × Cue × Unit → Option (Int × Unit)) : Env := envL [(169, mkE p169 r169 false f169), (181, mkE p181 r181 false f181)]
noncomputable def L150 (f169 : Cue × Unit → Option (Bool × Unit)) (f181 : Cue × Cue × Unit → Option (Int × Unit)) : LEnv (densS (muts p150 ++ r150)) := lenv [(0, loopL (R := densS (muts p150 ++ r150)) q150_0 (s150_0 f169 f181))]
theorem e150_0 (f169 : Cue × Unit → Option (Bool × Unit)) (f181 : Cue × Cue × Unit → Option (Int × Unit)) (X : Nat → St → Option (densS (muts p150 ++ r150))) (rec K : densS q150_0 → Option (densS (muts p150 ++ r150))) (t : densS q150_0) :
    ev (E150 f169 f181) tab (fun _ => false) (L150 f169 f181) (retK tab p150 r150 Proofs.Try.f150.results.toList) (loopC Proofs.Try.f150 0) (fun i s => cond (Nat.beq i 0) (decK 100 q150_0 s K) (X i s)) (fun s => decK 100 q150_0 s rec) (enc q150_0 t) = s150_0 f169 f181 t rec K := by kernel_rfl
theorem e150 (f169 : Cue × Unit → Option (Bool × Unit)) (f181 : Cue × Cue × Unit → Option (Int × Unit)) (a : densS p150) : runF (E150 f169 f181) tab (fun _ => false) p150 r150 Proofs.Try.f150 (L150 f169 f181) a = F150 f169 f181 a := by kernel_rfl
theorem ok150 {f169 : Cue × Unit → Option (Bool × Unit)} {f181 : Cue × Cue × Unit → Option (Int × Unit)} (h169 : OK Proofs.Try.prog 169 (mkE p169 r169 false f169)) (h181 : OK Proofs.Try.prog 181 (mkE p181 r181 false f181)) : OK Proofs.Try.prog 150 (mkE p150 r150 false (F150 f169 f181)) :=
  fn_ok tab_ok (envL_ok (l := [(169, mkE p169 r169 false f169), (181, mkE p181 r181 false f181)]) (OKs.cons h169 (OKs.cons h181 OKs.nil))) mixed (ann := (fun _ => false)) (L := L150 f169 f181) (fn := Proofs.Try.f150) (c := bodyC Proofs.Try.f150) (ls := [(0, loopC Proofs.Try.f150 0)]) Proofs.Try.func150 (by kernel_rfl) (by kernel_rfl) (by kernel_rfl) (by kernel_rfl)
    (LoopsP.cons q150_0 (s150_0 f169 f181) rfl (e150_0 f169 f181) LoopsP.nil) (e150 f169 f181)
/-! spec.l4Drift -/
def p182 : List SP := [.t .place]
def r182 : List SP := [.one (.bool)]
noncomputable def F182 (f69 : Int × Int × Int × Unit → Option (Bool × Unit)) (a : Place × Unit) : Option (Bool × Unit) :=
  (f69 (a.1.X, (-8), 8, ())).bind fun x1 => cond x1.1 ((f69 (a.1.Y, (-8), 8, ())).bind fun x2 => some (x2.1, ())) (some (false, ()))
def E182 (f69 : Int × Int × Int × Unit → Option (Bool × Unit)) : Env := envL [(69, mkE p69 r69 false f69)]
noncomputable def L182 (f69 : Int × Int × Int × Unit → Option (Bool × Unit)) : LEnv (densS (muts p182 ++ r182)) := lenv []
theorem e182 (f69 : Int × Int × Int × Unit → Option (Bool × Unit)) (a : densS p182) : runF (E182 f69) tab (fun _ => false) p182 r182 Proofs.Try.f182 (L182 f69) a = F182 f69 a := by kernel_rfl
theorem ok182 {f69 : Int × Int × Int × Unit → Option (Bool × Unit)} (h69 : OK Proofs.Try.prog 69 (mkE p69 r69 false f69)) : OK Proofs.Try.prog 182 (mkE p182 r182 false (F182 f69)) :=
  fn_ok tab_ok (envL_ok (l := [(69, mkE p69 r69 false f69)]) (OKs.cons h69 OKs.nil)) mixed (ann := (fun _ => false)) (L := L182 f69) (fn := Proofs.Try.f182) (c := bodyC Proofs.Try.f182) (ls := []) Proofs.Try.func182 (by kernel_rfl) (by kernel_rfl) (by kernel_rfl) (by kernel_rfl)
    LoopsP.nil (e182 f69)
/-! spec.IsWind -/
def p151 : List SP := [.one (.r .gust)]
def r151 : List SP := [.one (.bool)]
def q151_0 : List SP := pat 41 0 [(0, .one (.r .gust)), (5, .one (.r .gust)), (6, .one (.int .i64)), (7, .one (.int .i64))]
noncomputable def s151_0 (f69 : Int × Int × Int × Unit → Option (Bool × Unit)) (f182 : Place × Unit → Option (Bool × Unit)) (t1 : List Gust × List Gust × Int × Int × Unit) (rec K : List Gust × List Gust × Int × Int × Unit → Option (Bool × Unit)) : Option (Bool × Unit) :=
  cond (decide (t1.2.2.2.1 < t1.2.2.1)) (rdL t1.2.1 t1.2.2.2.1 fun d2 => (f69 (d2.From, 0, 64, ())).bind fun x3 => cond (!(!x3.1)) ((f182 (d2.Drift, ())).bind fun x4 => cond (!(!x4.1)) (cond (decide (t1.2.2.2.1 > 0)) (rdL t1.1 (w64 (t1.2.2.2.1 - 1)) fun d5 => cond (decide (d5.From ≥ d2.From)) (some (false, ())) (rec (t1.1, t1.2.1, t1.2.2.1, (w64 (t1.2.2.2.1 + 1)), ()))) (rec (t1.1, t1.2.1, t1.2.2.1, (w64 (t1.2.2.2.1 + 1)), ()))) (some (false, ()))) (some (false, ()))) (K (t1.1, t1.2.1, t1.2.2.1, t1.2.2.2.1, ()))
noncomputable def F151 (f69 : Int × Int × Int × Unit → Option (Bool × Unit)) (f182 : Place × Unit → Option (Bool × Unit)) (a : List Gust × Unit) : Option (Bool × Unit) :=
  iterF (s151_0 f69 f182) fuel (a.1, a.1, (Int.ofNat (List.length a.1)), 0, ()) fun t6 => some ((decide ((Int.ofNat (List.length t6.1)) ≤ 8)), ())
def E151 (f69 : Int × Int × Int × Unit → Option (Bool × Unit)) (f182 : Place × Unit → Option (Bool × Unit)) : Env := envL [(69, mkE p69 r69 false f69), (182, mkE p182 r182 false f182)]
noncomputable def L151 (f69 : Int × Int × Int × Unit → Option (Bool × Unit)) (f182 : Place × Unit → Option (Bool × Unit)) : LEnv (densS (muts p151 ++ r151)) := lenv [(0, loopL (R := densS (muts p151 ++ r151)) q151_0 (s151_0 f69 f182))]
theorem e151_0 (f69 : Int × Int × Int × Unit → Option (Bool × Unit)) (f182 : Place × Unit → Option (Bool × Unit)) (X : Nat → St → Option (densS (muts p151 ++ r151))) (rec K : densS q151_0 → Option (densS (muts p151 ++ r151))) (t : densS q151_0) :
    ev (E151 f69 f182) tab (fun _ => false) (L151 f69 f182) (retK tab p151 r151 Proofs.Try.f151.results.toList) (loopC Proofs.Try.f151 0) (fun i s => cond (Nat.beq i 0) (decK 100 q151_0 s K) (X i s)) (fun s => decK 100 q151_0 s rec) (enc q151_0 t) = s151_0 f69 f182 t rec K := by kernel_rfl
theorem e151 (f69 : Int × Int × Int × Unit → Option (Bool × Unit)) (f182 : Place × Unit → Option (Bool × Unit)) (a : densS p151) : runF (E151 f69 f182) tab (fun _ => false) p151 r151 Proofs.Try.f151 (L151 f69 f182) a = F151 f69 f182 a := by kernel_rfl
theorem ok151 {f69 : Int × Int × Int × Unit → Option (Bool × Unit)} {f182 : Place × Unit → Option (Bool × Unit)} (h69 : OK Proofs.Try.prog 69 (mkE p69 r69 false f69)) (h182 : OK Proofs.Try.prog 182 (mkE p182 r182 false f182)) : OK Proofs.Try.prog 151 (mkE p151 r151 false (F151 f69 f182)) :=
  fn_ok tab_ok (envL_ok (l := [(69, mkE p69 r69 false f69), (182, mkE p182 r182 false f182)]) (OKs.cons h69 (OKs.cons h182 OKs.nil))) mixed (ann := (fun _ => false)) (L := L151 f69 f182) (fn := Proofs.Try.f151) (c := bodyC Proofs.Try.f151) (ls := [(0, loopC Proofs.Try.f151 0)]) Proofs.Try.func151 (by kernel_rfl) (by kernel_rfl) (by kernel_rfl) (by kernel_rfl)
    (LoopsP.cons q151_0 (s151_0 f69 f182) rfl (e151_0 f69 f182) LoopsP.nil) (e151 f69 f182)
/-! spec.IsShow -/
def p89 : List SP := [.agg [.r .device, .r .cue, .r .gust, .int .i64]]
def r89 : List SP := [.one (.bool)]
noncomputable def F89 (f149 : List Device × Unit → Option (Bool × Unit)) (f150 : List Cue × Unit → Option (Bool × Unit)) (f151 : List Gust × Unit → Option (Bool × Unit)) (f69 : Int × Int × Int × Unit → Option (Bool × Unit)) (a : ShD × Unit) : Option (Bool × Unit) :=
  (f149 (a.1.1, ())).bind fun x1 => cond x1.1 ((f150 (a.1.2.1, ())).bind fun x2 => cond x2.1 ((f151 (a.1.2.2.1, ())).bind fun x3 => cond x3.1 ((f69 (a.1.2.2.2.1, 0, 64, ())).bind fun x4 => some (x4.1, ())) (some (false, ()))) (some (false, ()))) (some (false, ()))
def E89 (f149 : List Device × Unit → Option (Bool × Unit)) (f150 : List Cue × Unit → Option (Bool × Unit)) (f151 : List Gust × Unit → Option (Bool × Unit)) (f69 : Int × Int × Int × Unit → Option (Bool × Unit)) : Env := envL [(149, mkE p149 r149 false f149), (150, mkE p150 r150 false f150), (151, mkE p151 r151 false f151), (69, mkE p69 r69 false f69)]
noncomputable def L89 (f149 : List Device × Unit → Option (Bool × Unit)) (f150 : List Cue × Unit → Option (Bool × Unit)) (f151 : List Gust × Unit → Option (Bool × Unit)) (f69 : Int × Int × Int × Unit → Option (Bool × Unit)) : LEnv (densS (muts p89 ++ r89)) := lenv []
theorem e89 (f149 : List Device × Unit → Option (Bool × Unit)) (f150 : List Cue × Unit → Option (Bool × Unit)) (f151 : List Gust × Unit → Option (Bool × Unit)) (f69 : Int × Int × Int × Unit → Option (Bool × Unit)) (a : densS p89) : runF (E89 f149 f150 f151 f69) tab (fun _ => false) p89 r89 Proofs.Try.f89 (L89 f149 f150 f151 f69) a = F89 f149 f150 f151 f69 a := by kernel_rfl
theorem ok89 {f149 : List Device × Unit → Option (Bool × Unit)} {f150 : List Cue × Unit → Option (Bool × Unit)} {f151 : List Gust × Unit → Option (Bool × Unit)} {f69 : Int × Int × Int × Unit → Option (Bool × Unit)} (h149 : OK Proofs.Try.prog 149 (mkE p149 r149 false f149)) (h150 : OK Proofs.Try.prog 150 (mkE p150 r150 false f150)) (h151 : OK Proofs.Try.prog 151 (mkE p151 r151 false f151)) (h69 : OK Proofs.Try.prog 69 (mkE p69 r69 false f69)) : OK Proofs.Try.prog 89 (mkE p89 r89 false (F89 f149 f150 f151 f69)) :=
  fn_ok tab_ok (envL_ok (l := [(149, mkE p149 r149 false f149), (150, mkE p150 r150 false f150), (151, mkE p151 r151 false f151), (69, mkE p69 r69 false f69)]) (OKs.cons h149 (OKs.cons h150 (OKs.cons h151 (OKs.cons h69 OKs.nil))))) mixed (ann := (fun _ => false)) (L := L89 f149 f150 f151 f69) (fn := Proofs.Try.f89) (c := bodyC Proofs.Try.f89) (ls := []) Proofs.Try.func89 (by kernel_rfl) (by kernel_rfl) (by kernel_rfl) (by kernel_rfl)
    LoopsP.nil (e89 f149 f150 f151 f69)
/-! spec.l6Copies -/
def p159 : List SP := [.one (.r .device)]
def r159 : List SP := [.one (.o 0 .device)]
noncomputable def F159 (a : List Device × Unit) : Option (List Device × Unit) :=
  capK (List.length ([] : List Device) + List.length a.1) (some ((([] : List Device) ++ a.1), ()))
def E159 : Env := envL []
noncomputable def L159 : LEnv (densS (muts p159 ++ r159)) := lenv []
theorem e159 (a : densS p159) : runF (E159) tab (fun _ => false) p159 r159 Proofs.Try.f159 (L159) a = F159 a := by kernel_rfl
theorem ok159 : OK Proofs.Try.prog 159 (mkE p159 r159 false (F159)) :=
  fn_ok tab_ok (envL_ok (l := []) OKs.nil) mixed (ann := (fun _ => false)) (L := L159) (fn := Proofs.Try.f159) (c := bodyC Proofs.Try.f159) (ls := []) Proofs.Try.func159 (by kernel_rfl) (by kernel_rfl) (by kernel_rfl) (by kernel_rfl)
    LoopsP.nil (e159)
/-! spec.l7Copies -/
def p160 : List SP := [.one (.r .cue)]
def r160 : List SP := [.one (.o 0 .cue)]
noncomputable def F160 (a : List Cue × Unit) : Option (List Cue × Unit) :=
  capK (List.length ([] : List Cue) + List.length a.1) (some ((([] : List Cue) ++ a.1), ()))
def E160 : Env := envL []
noncomputable def L160 : LEnv (densS (muts p160 ++ r160)) := lenv []
theorem e160 (a : densS p160) : runF (E160) tab (fun _ => false) p160 r160 Proofs.Try.f160 (L160) a = F160 a := by kernel_rfl
theorem ok160 : OK Proofs.Try.prog 160 (mkE p160 r160 false (F160)) :=
  fn_ok tab_ok (envL_ok (l := []) OKs.nil) mixed (ann := (fun _ => false)) (L := L160) (fn := Proofs.Try.f160) (c := bodyC Proofs.Try.f160) (ls := []) Proofs.Try.func160 (by kernel_rfl) (by kernel_rfl) (by kernel_rfl) (by kernel_rfl)
    LoopsP.nil (e160)
/-! spec.l9Copy -/
def p97 : List SP := [.agg [.r .device, .r .cue, .r .gust, .int .i64]]
def r97 : List SP := [.agg [.o 0 .device, .o 1 .cue, .o 2 .gust, .int .i64]]
noncomputable def F97 (f159 : List Device × Unit → Option (List Device × Unit)) (f160 : List Cue × Unit → Option (List Cue × Unit)) (a : ShD × Unit) : Option (ShD × Unit) :=
  (f159 (a.1.1, ())).bind fun x1 => (f160 (a.1.2.1, ())).bind fun x2 => capK (List.length ([] : List Gust) + List.length a.1.2.2.1) (some ((x1.1, x2.1, (([] : List Gust) ++ a.1.2.2.1), a.1.2.2.2.1, ()), ()))
def E97 (f159 : List Device × Unit → Option (List Device × Unit)) (f160 : List Cue × Unit → Option (List Cue × Unit)) : Env := envL [(159, mkE p159 r159 false f159), (160, mkE p160 r160 false f160)]
noncomputable def L97 (f159 : List Device × Unit → Option (List Device × Unit)) (f160 : List Cue × Unit → Option (List Cue × Unit)) : LEnv (densS (muts p97 ++ r97)) := lenv []
theorem e97 (f159 : List Device × Unit → Option (List Device × Unit)) (f160 : List Cue × Unit → Option (List Cue × Unit)) (a : densS p97) : runF (E97 f159 f160) tab (fun n => Nat.beq n 900009 || Nat.beq n 1100109 || Nat.beq n 1199998) p97 r97 Proofs.Try.f97 (L97 f159 f160) a = F97 f159 f160 a := by kernel_rfl
theorem ok97 {f159 : List Device × Unit → Option (List Device × Unit)} {f160 : List Cue × Unit → Option (List Cue × Unit)} (h159 : OK Proofs.Try.prog 159 (mkE p159 r159 false f159)) (h160 : OK Proofs.Try.prog 160 (mkE p160 r160 false f160)) : OK Proofs.Try.prog 97 (mkE p97 r97 false (F97 f159 f160)) :=
  fn_ok tab_ok (envL_ok (l := [(159, mkE p159 r159 false f159), (160, mkE p160 r160 false f160)]) (OKs.cons h159 (OKs.cons h160 OKs.nil))) mixed (ann := (fun n => Nat.beq n 900009 || Nat.beq n 1100109 || Nat.beq n 1199998)) (L := L97 f159 f160) (fn := Proofs.Try.f97) (c := bodyC Proofs.Try.f97) (ls := []) Proofs.Try.func97 (by kernel_rfl) (by kernel_rfl) (by kernel_rfl) (by kernel_rfl)
    LoopsP.nil (e97 f159 f160)
/-! spec.ShiftShow -/
def p42 : List SP := [.agg [.r .device, .r .cue, .r .gust, .int .i64], .t .place]
def r42 : List SP := [.agg [.o 0 .device, .o 1 .cue, .o 2 .gust, .int .i64], .one (.bool)]
noncomputable def F42 (f96 : List Device × Place × Unit → Option (List Device × Bool × Unit)) (f89 : ShD × Unit → Option (Bool × Unit)) (f97 : ShD × Unit → Option (ShD × Unit)) (a : ShD × Place × Unit) : Option (ShD × Bool × Unit) :=
  (f96 (a.1.1, a.2.1, ())).bind fun x1 => (f89 ((a.1.1, a.1.2.1, a.1.2.2.1, a.1.2.2.2.1, ()), ())).bind fun x2 => cond (!(!x2.1)) (cond (!x1.2.1) (some (([], [], [], 0, ()), false, ())) ((f97 ((a.1.1, a.1.2.1, a.1.2.2.1, a.1.2.2.2.1, ()), ())).bind fun x3 => some ((x1.1, x3.1.2.1, x3.1.2.2.1, x3.1.2.2.2.1, ()), true, ()))) (some (([], [], [], 0, ()), false, ()))
def E42 (f96 : List Device × Place × Unit → Option (List Device × Bool × Unit)) (f89 : ShD × Unit → Option (Bool × Unit)) (f97 : ShD × Unit → Option (ShD × Unit)) : Env := envL [(96, mkE p96 r96 false f96), (89, mkE p89 r89 false f89), (97, mkE p97 r97 false f97)]
noncomputable def L42 (f96 : List Device × Place × Unit → Option (List Device × Bool × Unit)) (f89 : ShD × Unit → Option (Bool × Unit)) (f97 : ShD × Unit → Option (ShD × Unit)) : LEnv (densS (muts p42 ++ r42)) := lenv []
theorem e42 (f96 : List Device × Place × Unit → Option (List Device × Bool × Unit)) (f89 : ShD × Unit → Option (Bool × Unit)) (f97 : ShD × Unit → Option (ShD × Unit)) (a : densS p42) : runF (E42 f96 f89 f97) tab (fun _ => false) p42 r42 Proofs.Try.f42 (L42 f96 f89 f97) a = F42 f96 f89 f97 a := by kernel_rfl
theorem ok42 {f96 : List Device × Place × Unit → Option (List Device × Bool × Unit)} {f89 : ShD × Unit → Option (Bool × Unit)} {f97 : ShD × Unit → Option (ShD × Unit)} (h96 : OK Proofs.Try.prog 96 (mkE p96 r96 false f96)) (h89 : OK Proofs.Try.prog 89 (mkE p89 r89 false f89)) (h97 : OK Proofs.Try.prog 97 (mkE p97 r97 false f97)) : OK Proofs.Try.prog 42 (mkE p42 r42 false (F42 f96 f89 f97)) :=
  fn_ok tab_ok (envL_ok (l := [(96, mkE p96 r96 false f96), (89, mkE p89 r89 false f89), (97, mkE p97 r97 false f97)]) (OKs.cons h96 (OKs.cons h89 (OKs.cons h97 OKs.nil)))) mixed (ann := (fun _ => false)) (L := L42 f96 f89 f97) (fn := Proofs.Try.f42) (c := bodyC Proofs.Try.f42) (ls := []) Proofs.Try.func42 (by kernel_rfl) (by kernel_rfl) (by kernel_rfl) (by kernel_rfl)
    LoopsP.nil (e42 f96 f89 f97)
/-! impl.isWithin -/
def p52 : List SP := [.one (.int .i64), .one (.int .i64), .one (.int .i64)]
def r52 : List SP := [.one (.bool)]
noncomputable def F52 (a : Int × Int × Int × Unit) : Option (Bool × Unit) :=
  cond (decide (a.2.1 ≤ a.1)) (some ((decide (a.1 ≤ a.2.2.1)), ())) (some (false, ()))
def E52 : Env := envL []
noncomputable def L52 : LEnv (densS (muts p52 ++ r52)) := lenv []
theorem e52 (a : densS p52) : runF (E52) tab (fun _ => false) p52 r52 Proofs.Try.f52 (L52) a = F52 a := by kernel_rfl
theorem ok52 : OK Proofs.Try.prog 52 (mkE p52 r52 false (F52)) :=
  fn_ok tab_ok (envL_ok (l := []) OKs.nil) mixed (ann := (fun _ => false)) (L := L52) (fn := Proofs.Try.f52) (c := bodyC Proofs.Try.f52) (ls := []) Proofs.Try.func52 (by kernel_rfl) (by kernel_rfl) (by kernel_rfl) (by kernel_rfl)
    LoopsP.nil (e52)
/-! impl.IsName -/
def p62 : List SP := [.one (.str)]
def r62 : List SP := [.one (.bool)]
def q62_0 : List SP := pat 42 0 [(0, .one (.str)), (6, .one (.int .i64)), (7, .one (.int .i64))]
noncomputable def s62_0 (f52 : Int × Int × Int × Unit → Option (Bool × Unit)) (t1 : Str × Int × Int × Unit) (rec K : Str × Int × Int × Unit → Option (Bool × Unit)) : Option (Bool × Unit) :=
  cond (decide (t1.2.2.1 < t1.2.1)) (rdL t1.1 t1.2.2.1 fun d2 => cond (decide ((Int.ofNat (UInt8.toNat d2)) ≥ 97)) (rdL t1.1 t1.2.2.1 fun d3 => cond (!(decide ((Int.ofNat (UInt8.toNat d3)) ≤ 122))) (cond (!(decide (t1.2.2.1 = 0))) (rdL t1.1 t1.2.2.1 fun d4 => cond (!(decide ((Int.ofNat (UInt8.toNat d4)) < 48))) (rdL t1.1 t1.2.2.1 fun d5 => cond (decide ((Int.ofNat (UInt8.toNat d5)) > 57)) (some (false, ())) (rec (t1.1, t1.2.1, (w64 (t1.2.2.1 + 1)), ()))) (some (false, ()))) (some (false, ()))) (rec (t1.1, t1.2.1, (w64 (t1.2.2.1 + 1)), ()))) (cond (!(decide (t1.2.2.1 = 0))) (rdL t1.1 t1.2.2.1 fun d6 => cond (!(decide ((Int.ofNat (UInt8.toNat d6)) < 48))) (rdL t1.1 t1.2.2.1 fun d7 => cond (decide ((Int.ofNat (UInt8.toNat d7)) > 57)) (some (false, ())) (rec (t1.1, t1.2.1, (w64 (t1.2.2.1 + 1)), ()))) (some (false, ()))) (some (false, ())))) (K (t1.1, t1.2.1, t1.2.2.1, ()))
noncomputable def F62 (f52 : Int × Int × Int × Unit → Option (Bool × Unit)) (a : Str × Unit) : Option (Bool × Unit) :=
  iterF (s62_0 f52) fuel (a.1, (Int.ofNat (List.length a.1)), 0, ()) fun t8 => (f52 ((Int.ofNat (List.length t8.1)), 1, 8, ())).bind fun x9 => some (x9.1, ())
def E62 (f52 : Int × Int × Int × Unit → Option (Bool × Unit)) : Env := envL [(52, mkE p52 r52 false f52)]
noncomputable def L62 (f52 : Int × Int × Int × Unit → Option (Bool × Unit)) : LEnv (densS (muts p62 ++ r62)) := lenv [(0, loopL (R := densS (muts p62 ++ r62)) q62_0 (s62_0 f52))]
theorem e62_0 (f52 : Int × Int × Int × Unit → Option (Bool × Unit)) (X : Nat → St → Option (densS (muts p62 ++ r62))) (rec K : densS q62_0 → Option (densS (muts p62 ++ r62))) (t : densS q62_0) :
    ev (E62 f52) tab (fun _ => false) (L62 f52) (retK tab p62 r62 Proofs.Try.f62.results.toList) (loopC Proofs.Try.f62 0) (fun i s => cond (Nat.beq i 0) (decK 100 q62_0 s K) (X i s)) (fun s => decK 100 q62_0 s rec) (enc q62_0 t) = s62_0 f52 t rec K := by kernel_rfl
theorem e62 (f52 : Int × Int × Int × Unit → Option (Bool × Unit)) (a : densS p62) : runF (E62 f52) tab (fun _ => false) p62 r62 Proofs.Try.f62 (L62 f52) a = F62 f52 a := by kernel_rfl
theorem ok62 {f52 : Int × Int × Int × Unit → Option (Bool × Unit)} (h52 : OK Proofs.Try.prog 52 (mkE p52 r52 false f52)) : OK Proofs.Try.prog 62 (mkE p62 r62 false (F62 f52)) :=
  fn_ok tab_ok (envL_ok (l := [(52, mkE p52 r52 false f52)]) (OKs.cons h52 OKs.nil)) mixed (ann := (fun _ => false)) (L := L62 f52) (fn := Proofs.Try.f62) (c := bodyC Proofs.Try.f62) (ls := [(0, loopC Proofs.Try.f62 0)]) Proofs.Try.func62 (by kernel_rfl) (by kernel_rfl) (by kernel_rfl) (by kernel_rfl)
    (LoopsP.cons q62_0 (s62_0 f52) rfl (e62_0 f52) LoopsP.nil) (e62 f52)
/-! impl.isSupply -/
def p63 : List SP := [.one (.int .i64)]
def r63 : List SP := [.one (.bool)]
noncomputable def F63 (f52 : Int × Int × Int × Unit → Option (Bool × Unit)) (a : Int × Unit) : Option (Bool × Unit) :=
  (f52 (a.1, 0, 512, ())).bind fun x1 => some (x1.1, ())
def E63 (f52 : Int × Int × Int × Unit → Option (Bool × Unit)) : Env := envL [(52, mkE p52 r52 false f52)]
noncomputable def L63 (f52 : Int × Int × Int × Unit → Option (Bool × Unit)) : LEnv (densS (muts p63 ++ r63)) := lenv []
theorem e63 (f52 : Int × Int × Int × Unit → Option (Bool × Unit)) (a : densS p63) : runF (E63 f52) tab (fun _ => false) p63 r63 Proofs.Try.f63 (L63 f52) a = F63 f52 a := by kernel_rfl
theorem ok63 {f52 : Int × Int × Int × Unit → Option (Bool × Unit)} (h52 : OK Proofs.Try.prog 52 (mkE p52 r52 false f52)) : OK Proofs.Try.prog 63 (mkE p63 r63 false (F63 f52)) :=
  fn_ok tab_ok (envL_ok (l := [(52, mkE p52 r52 false f52)]) (OKs.cons h52 OKs.nil)) mixed (ann := (fun _ => false)) (L := L63 f52) (fn := Proofs.Try.f63) (c := bodyC Proofs.Try.f63) (ls := []) Proofs.Try.func63 (by kernel_rfl) (by kernel_rfl) (by kernel_rfl) (by kernel_rfl)
    LoopsP.nil (e63 f52)
/-! impl.IsHeading -/
def p128 : List SP := [.one (.int .i64)]
def r128 : List SP := [.one (.bool)]
noncomputable def F128 (f52 : Int × Int × Int × Unit → Option (Bool × Unit)) (a : Int × Unit) : Option (Bool × Unit) :=
  (f52 (a.1, 0, 3, ())).bind fun x1 => some (x1.1, ())
def E128 (f52 : Int × Int × Int × Unit → Option (Bool × Unit)) : Env := envL [(52, mkE p52 r52 false f52)]
noncomputable def L128 (f52 : Int × Int × Int × Unit → Option (Bool × Unit)) : LEnv (densS (muts p128 ++ r128)) := lenv []
theorem e128 (f52 : Int × Int × Int × Unit → Option (Bool × Unit)) (a : densS p128) : runF (E128 f52) tab (fun _ => false) p128 r128 Proofs.Try.f128 (L128 f52) a = F128 f52 a := by kernel_rfl
theorem ok128 {f52 : Int × Int × Int × Unit → Option (Bool × Unit)} (h52 : OK Proofs.Try.prog 52 (mkE p52 r52 false f52)) : OK Proofs.Try.prog 128 (mkE p128 r128 false (F128 f52)) :=
  fn_ok tab_ok (envL_ok (l := [(52, mkE p52 r52 false f52)]) (OKs.cons h52 OKs.nil)) mixed (ann := (fun _ => false)) (L := L128 f52) (fn := Proofs.Try.f128) (c := bodyC Proofs.Try.f128) (ls := []) Proofs.Try.func128 (by kernel_rfl) (by kernel_rfl) (by kernel_rfl) (by kernel_rfl)
    LoopsP.nil (e128 f52)
/-! impl.IsJet -/
def p64 : List SP := [.t .jet]
def r64 : List SP := [.one (.bool)]
noncomputable def F64 (f52 : Int × Int × Int × Unit → Option (Bool × Unit)) (f128 : Int × Unit → Option (Bool × Unit)) (a : Jet × Unit) : Option (Bool × Unit) :=
  (f52 (a.1.At.X, (-1024), 1024, ())).bind fun x1 => cond x1.1 ((f52 (a.1.At.Y, (-1024), 1024, ())).bind fun x2 => cond x2.1 ((f128 (a.1.Heading, ())).bind fun x3 => cond x3.1 ((f52 (a.1.Tilt, 0, 16, ())).bind fun x4 => cond x4.1 ((f52 (a.1.Lift, 1, 32, ())).bind fun x5 => some (x5.1, ())) (some (false, ()))) (some (false, ()))) (some (false, ()))) (some (false, ()))
def E64 (f52 : Int × Int × Int × Unit → Option (Bool × Unit)) (f128 : Int × Unit → Option (Bool × Unit)) : Env := envL [(52, mkE p52 r52 false f52), (128, mkE p128 r128 false f128)]
noncomputable def L64 (f52 : Int × Int × Int × Unit → Option (Bool × Unit)) (f128 : Int × Unit → Option (Bool × Unit)) : LEnv (densS (muts p64 ++ r64)) := lenv []
theorem e64 (f52 : Int × Int × Int × Unit → Option (Bool × Unit)) (f128 : Int × Unit → Option (Bool × Unit)) (a : densS p64) : runF (E64 f52 f128) tab (fun _ => false) p64 r64 Proofs.Try.f64 (L64 f52 f128) a = F64 f52 f128 a := by kernel_rfl
theorem ok64 {f52 : Int × Int × Int × Unit → Option (Bool × Unit)} {f128 : Int × Unit → Option (Bool × Unit)} (h52 : OK Proofs.Try.prog 52 (mkE p52 r52 false f52)) (h128 : OK Proofs.Try.prog 128 (mkE p128 r128 false f128)) : OK Proofs.Try.prog 64 (mkE p64 r64 false (F64 f52 f128)) :=
  fn_ok tab_ok (envL_ok (l := [(52, mkE p52 r52 false f52), (128, mkE p128 r128 false f128)]) (OKs.cons h52 (OKs.cons h128 OKs.nil))) mixed (ann := (fun _ => false)) (L := L64 f52 f128) (fn := Proofs.Try.f64) (c := bodyC Proofs.Try.f64) (ls := []) Proofs.Try.func64 (by kernel_rfl) (by kernel_rfl) (by kernel_rfl) (by kernel_rfl)
    LoopsP.nil (e64 f52 f128)
/-! impl.IsMeasure -/
def p115 : List SP := [.one (.int .i64)]
def r115 : List SP := [.one (.bool)]
noncomputable def F115 (f52 : Int × Int × Int × Unit → Option (Bool × Unit)) (a : Int × Unit) : Option (Bool × Unit) :=
  (f52 (a.1, (-4096), 4096, ())).bind fun x1 => some (x1.1, ())
def E115 (f52 : Int × Int × Int × Unit → Option (Bool × Unit)) : Env := envL [(52, mkE p52 r52 false f52)]
noncomputable def L115 (f52 : Int × Int × Int × Unit → Option (Bool × Unit)) : LEnv (densS (muts p115 ++ r115)) := lenv []
theorem e115 (f52 : Int × Int × Int × Unit → Option (Bool × Unit)) (a : densS p115) : runF (E115 f52) tab (fun _ => false) p115 r115 Proofs.Try.f115 (L115 f52) a = F115 f52 a := by kernel_rfl
theorem ok115 {f52 : Int × Int × Int × Unit → Option (Bool × Unit)} (h52 : OK Proofs.Try.prog 52 (mkE p52 r52 false f52)) : OK Proofs.Try.prog 115 (mkE p115 r115 false (F115 f52)) :=
  fn_ok tab_ok (envL_ok (l := [(52, mkE p52 r52 false f52)]) (OKs.cons h52 OKs.nil)) mixed (ann := (fun _ => false)) (L := L115 f52) (fn := Proofs.Try.f115) (c := bodyC Proofs.Try.f115) (ls := []) Proofs.Try.func115 (by kernel_rfl) (by kernel_rfl) (by kernel_rfl) (by kernel_rfl)
    LoopsP.nil (e115 f52)
/-! impl.IsPlace -/
def p65 : List SP := [.t .place]
def r65 : List SP := [.one (.bool)]
noncomputable def F65 (f115 : Int × Unit → Option (Bool × Unit)) (a : Place × Unit) : Option (Bool × Unit) :=
  (f115 (a.1.X, ())).bind fun x1 => cond x1.1 ((f115 (a.1.Y, ())).bind fun x2 => some (x2.1, ())) (some (false, ()))
def E65 (f115 : Int × Unit → Option (Bool × Unit)) : Env := envL [(115, mkE p115 r115 false f115)]
noncomputable def L65 (f115 : Int × Unit → Option (Bool × Unit)) : LEnv (densS (muts p65 ++ r65)) := lenv []
theorem e65 (f115 : Int × Unit → Option (Bool × Unit)) (a : densS p65) : runF (E65 f115) tab (fun _ => false) p65 r65 Proofs.Try.f65 (L65 f115) a = F65 f115 a := by kernel_rfl
theorem ok65 {f115 : Int × Unit → Option (Bool × Unit)} (h115 : OK Proofs.Try.prog 115 (mkE p115 r115 false f115)) : OK Proofs.Try.prog 65 (mkE p65 r65 false (F65 f115)) :=
  fn_ok tab_ok (envL_ok (l := [(115, mkE p115 r115 false f115)]) (OKs.cons h115 OKs.nil)) mixed (ann := (fun _ => false)) (L := L65 f115) (fn := Proofs.Try.f65) (c := bodyC Proofs.Try.f65) (ls := []) Proofs.Try.func65 (by kernel_rfl) (by kernel_rfl) (by kernel_rfl) (by kernel_rfl)
    LoopsP.nil (e65 f115)
/-! impl.IsDevice -/
def p20 : List SP := [.t .device]
def r20 : List SP := [.one (.bool)]
noncomputable def F20 (f62 : Str × Unit → Option (Bool × Unit)) (f63 : Int × Unit → Option (Bool × Unit)) (f64 : Jet × Unit → Option (Bool × Unit)) (f52 : Int × Int × Int × Unit → Option (Bool × Unit)) (f65 : Place × Unit → Option (Bool × Unit)) (a : Device × Unit) : Option (Bool × Unit) :=
  (f62 (a.1.Name, ())).bind fun x1 => cond (!x1.1) (some (false, ())) (cond (decide (a.1.Kind = 1)) (cond (decide (a.1.Name = a.1.Name) && (decide (a.1.Kind = a.1.Kind) && (decide (a.1.Line = []) && (decide (a.1.At.X = 0) && (decide (a.1.At.Y = 0) && (decide (a.1.Heading = 0) && (decide (a.1.Tilt = 0) && (decide (a.1.Most = a.1.Most) && true)))))))) ((f63 (a.1.Most, ())).bind fun x2 => some (x2.1, ())) (some (false, ()))) (cond (decide (a.1.Kind = 2)) ((f62 (a.1.Line, ())).bind fun x3 => cond x3.1 (cond (!decide (a.1.Line = a.1.Name)) ((f64 ((⟨⟨a.1.At.X, a.1.At.Y⟩, a.1.Heading, a.1.Tilt, 1⟩ : Jet), ())).bind fun x4 => cond x4.1 ((f52 (a.1.Most, 0, 32, ())).bind fun x5 => some (x5.1, ())) (some (false, ()))) (some (false, ()))) (some (false, ()))) (cond (decide (a.1.Kind = 3)) (cond (decide (a.1.Name = a.1.Name) && (decide (a.1.Kind = a.1.Kind) && (decide (a.1.Line = a.1.Line) && (decide (a.1.At.X = a.1.At.X) && (decide (a.1.At.Y = a.1.At.Y) && (decide (a.1.Heading = 0) && (decide (a.1.Tilt = 0) && (decide (a.1.Most = 0) && true)))))))) ((f62 (a.1.Line, ())).bind fun x6 => cond x6.1 (cond (!decide (a.1.Line = a.1.Name)) ((f65 (a.1.At, ())).bind fun x7 => some (x7.1, ())) (some (false, ()))) (some (false, ()))) (some (false, ()))) (some (false, ())))))
def E20 (f62 : Str × Unit → Option (Bool × Unit)) (f63 : Int × Unit → Option (Bool × Unit)) (f64 : Jet × Unit → Option (Bool × Unit)) (f52 : Int × Int × Int × Unit → Option (Bool × Unit)) (f65 : Place × Unit → Option (Bool × Unit)) : Env := envL [(62, mkE p62 r62 false f62), (63, mkE p63 r63 false f63), (64, mkE p64 r64 false f64), (52, mkE p52 r52 false f52), (65, mkE p65 r65 false f65)]
noncomputable def L20 (f62 : Str × Unit → Option (Bool × Unit)) (f63 : Int × Unit → Option (Bool × Unit)) (f64 : Jet × Unit → Option (Bool × Unit)) (f52 : Int × Int × Int × Unit → Option (Bool × Unit)) (f65 : Place × Unit → Option (Bool × Unit)) : LEnv (densS (muts p20 ++ r20)) := lenv []
theorem e20 (f62 : Str × Unit → Option (Bool × Unit)) (f63 : Int × Unit → Option (Bool × Unit)) (f64 : Jet × Unit → Option (Bool × Unit)) (f52 : Int × Int × Int × Unit → Option (Bool × Unit)) (f65 : Place × Unit → Option (Bool × Unit)) (a : densS p20) : runF (E20 f62 f63 f64 f52 f65) tab (fun _ => false) p20 r20 Proofs.Try.f20 (L20 f62 f63 f64 f52 f65) a = F20 f62 f63 f64 f52 f65 a := by kernel_rfl
theorem ok20 {f62 : Str × Unit → Option (Bool × Unit)} {f63 : Int × Unit → Option (Bool × Unit)} {f64 : Jet × Unit → Option (Bool × Unit)} {f52 : Int × Int × Int × Unit → Option (Bool × Unit)} {f65 : Place × Unit → Option (Bool × Unit)} (h62 : OK Proofs.Try.prog 62 (mkE p62 r62 false f62)) (h63 : OK Proofs.Try.prog 63 (mkE p63 r63 false f63)) (h64 : OK Proofs.Try.prog 64 (mkE p64 r64 false f64)) (h52 : OK Proofs.Try.prog 52 (mkE p52 r52 false f52)) (h65 : OK Proofs.Try.prog 65 (mkE p65 r65 false f65)) : OK Proofs.Try.prog 20 (mkE p20 r20 false (F20 f62 f63 f64 f52 f65)) :=
  fn_ok tab_ok (envL_ok (l := [(62, mkE p62 r62 false f62), (63, mkE p63 r63 false f63), (64, mkE p64 r64 false f64), (52, mkE p52 r52 false f52), (65, mkE p65 r65 false f65)]) (OKs.cons h62 (OKs.cons h63 (OKs.cons h64 (OKs.cons h52 (OKs.cons h65 OKs.nil)))))) mixed (ann := (fun _ => false)) (L := L20 f62 f63 f64 f52 f65) (fn := Proofs.Try.f20) (c := bodyC Proofs.Try.f20) (ls := []) Proofs.Try.func20 (by kernel_rfl) (by kernel_rfl) (by kernel_rfl) (by kernel_rfl)
    LoopsP.nil (e20 f62 f63 f64 f52 f65)
/-! impl.FindDevice$1 -/
def p148 : List SP := [.t .device, .sp [.str]]
def r148 : List SP := [.one (.bool)]
noncomputable def F148 (a : Device × (Str × Unit) × Unit) : Option (Bool × Unit) :=
  some ((decide (a.1.Name = a.2.1.1)), ())
def E148 : Env := envL []
noncomputable def L148 : LEnv (densS (muts p148 ++ r148)) := lenv []
theorem e148 (a : densS p148) : runF (E148) tab (fun _ => false) p148 r148 Proofs.Try.f148 (L148) a = F148 a := by kernel_rfl
theorem ok148 : OK Proofs.Try.prog 148 (mkE p148 r148 false (F148)) :=
  fn_ok tab_ok (envL_ok (l := []) OKs.nil) mixed (ann := (fun _ => false)) (L := L148) (fn := Proofs.Try.f148) (c := bodyC Proofs.Try.f148) (ls := []) Proofs.Try.func148 (by kernel_rfl) (by kernel_rfl) (by kernel_rfl) (by kernel_rfl)
    LoopsP.nil (e148)
/-! slices.IndexFunc[[]impl.Device,impl.Device] -/
def p147 : List SP := [.one (.r .device), .fn 148 [.str]]
def r147 : List SP := [.one (.int .i64)]
def q147_0 : List SP := pat 19 0 [(0, .one (.r .device)), (1, .fn 148 [.str]), (7, .one (.int .i64)), (8, .one (.int .i64))]
noncomputable def s147_0 (f148 : Device × (Str × Unit) × Unit → Option (Bool × Unit)) (t1 : List Device × (Str × Unit) × Int × Int × Unit) (rec K : List Device × (Str × Unit) × Int × Int × Unit → Option (Int × Unit)) : Option (Int × Unit) :=
  cond (decide (t1.2.2.2.1 < t1.2.2.1)) (rdL t1.1 t1.2.2.2.1 fun d2 => (f148 (d2, (t1.2.1.1, ()), ())).bind fun x3 => cond x3.1 (some (t1.2.2.2.1, ())) (rec (t1.1, (t1.2.1.1, ()), t1.2.2.1, (w64 (t1.2.2.2.1 + 1)), ()))) (K (t1.1, (t1.2.1.1, ()), t1.2.2.1, t1.2.2.2.1, ()))
noncomputable def F147 (f148 : Device × (Str × Unit) × Unit → Option (Bool × Unit)) (a : List Device × (Str × Unit) × Unit) : Option (Int × Unit) :=
  iterF (s147_0 f148) fuel (a.1, (a.2.1.1, ()), (Int.ofNat (List.length a.1)), 0, ()) fun t4 => some ((-1), ())
def E147 (f148 : Device × (Str × Unit) × Unit → Option (Bool × Unit)) : Env := envL [(148, mkE p148 r148 false f148)]
noncomputable def L147 (f148 : Device × (Str × Unit) × Unit → Option (Bool × Unit)) : LEnv (densS (muts p147 ++ r147)) := lenv [(0, loopL (R := densS (muts p147 ++ r147)) q147_0 (s147_0 f148))]
theorem e147_0 (f148 : Device × (Str × Unit) × Unit → Option (Bool × Unit)) (X : Nat → St → Option (densS (muts p147 ++ r147))) (rec K : densS q147_0 → Option (densS (muts p147 ++ r147))) (t : densS q147_0) :
    ev (E147 f148) tab (fun _ => false) (L147 f148) (retK tab p147 r147 Proofs.Try.f147.results.toList) (loopC Proofs.Try.f147 0) (fun i s => cond (Nat.beq i 0) (decK 100 q147_0 s K) (X i s)) (fun s => decK 100 q147_0 s rec) (enc q147_0 t) = s147_0 f148 t rec K := by kernel_rfl
theorem e147 (f148 : Device × (Str × Unit) × Unit → Option (Bool × Unit)) (a : densS p147) : runF (E147 f148) tab (fun _ => false) p147 r147 Proofs.Try.f147 (L147 f148) a = F147 f148 a := by kernel_rfl
theorem ok147 {f148 : Device × (Str × Unit) × Unit → Option (Bool × Unit)} (h148 : OK Proofs.Try.prog 148 (mkE p148 r148 false f148)) : OK Proofs.Try.prog 147 (mkE p147 r147 false (F147 f148)) :=
  fn_ok tab_ok (envL_ok (l := [(148, mkE p148 r148 false f148)]) (OKs.cons h148 OKs.nil)) mixed (ann := (fun _ => false)) (L := L147 f148) (fn := Proofs.Try.f147) (c := bodyC Proofs.Try.f147) (ls := [(0, loopC Proofs.Try.f147 0)]) Proofs.Try.func147 (by kernel_rfl) (by kernel_rfl) (by kernel_rfl) (by kernel_rfl)
    (LoopsP.cons q147_0 (s147_0 f148) rfl (e147_0 f148) LoopsP.nil) (e147 f148)
/-! impl.FindDevice -/
def p88 : List SP := [.one (.r .device), .one (.str)]
def r88 : List SP := [.one (.int .i64)]
noncomputable def F88 (f147 : List Device × (Str × Unit) × Unit → Option (Int × Unit)) (a : List Device × Str × Unit) : Option (Int × Unit) :=
  (f147 (a.1, (a.2.1, ()), ())).bind fun x1 => some (x1.1, ())
def E88 (f147 : List Device × (Str × Unit) × Unit → Option (Int × Unit)) : Env := envL [(147, mkE p147 r147 false f147)]
noncomputable def L88 (f147 : List Device × (Str × Unit) × Unit → Option (Int × Unit)) : LEnv (densS (muts p88 ++ r88)) := lenv []
theorem e88 (f147 : List Device × (Str × Unit) × Unit → Option (Int × Unit)) (a : densS p88) : runF (E88 f147) tab (fun _ => false) p88 r88 Proofs.Try.f88 (L88 f147) a = F88 f147 a := by kernel_rfl
theorem ok88 {f147 : List Device × (Str × Unit) × Unit → Option (Int × Unit)} (h147 : OK Proofs.Try.prog 147 (mkE p147 r147 false f147)) : OK Proofs.Try.prog 88 (mkE p88 r88 false (F88 f147)) :=
  fn_ok tab_ok (envL_ok (l := [(147, mkE p147 r147 false f147)]) (OKs.cons h147 OKs.nil)) mixed (ann := (fun _ => false)) (L := L88 f147) (fn := Proofs.Try.f88) (c := bodyC Proofs.Try.f88) (ls := []) Proofs.Try.func88 (by kernel_rfl) (by kernel_rfl) (by kernel_rfl) (by kernel_rfl)
    LoopsP.nil (e88 f147)
/-! impl.isHung -/
def p144 : List SP := [.one (.r .device), .t .device]
def r144 : List SP := [.one (.bool)]
noncomputable def F144 (f88 : List Device × Str × Unit → Option (Int × Unit)) (a : List Device × Device × Unit) : Option (Bool × Unit) :=
  cond (decide (a.2.1.Kind = 1)) (some (true, ())) ((f88 (a.1, a.2.1.Line, ())).bind fun x1 => cond (decide (x1.1 ≥ 0)) (rdL a.1 x1.1 fun d2 => some ((decide (d2.Kind = (w64 (a.2.1.Kind - 1)))), ())) (some (false, ())))
def E144 (f88 : List Device × Str × Unit → Option (Int × Unit)) : Env := envL [(88, mkE p88 r88 false f88)]
noncomputable def L144 (f88 : List Device × Str × Unit → Option (Int × Unit)) : LEnv (densS (muts p144 ++ r144)) := lenv []
theorem e144 (f88 : List Device × Str × Unit → Option (Int × Unit)) (a : densS p144) : runF (E144 f88) tab (fun _ => false) p144 r144 Proofs.Try.f144 (L144 f88) a = F144 f88 a := by kernel_rfl
theorem ok144 {f88 : List Device × Str × Unit → Option (Int × Unit)} (h88 : OK Proofs.Try.prog 88 (mkE p88 r88 false f88)) : OK Proofs.Try.prog 144 (mkE p144 r144 false (F144 f88)) :=
  fn_ok tab_ok (envL_ok (l := [(88, mkE p88 r88 false f88)]) (OKs.cons h88 OKs.nil)) mixed (ann := (fun _ => false)) (L := L144 f88) (fn := Proofs.Try.f144) (c := bodyC Proofs.Try.f144) (ls := []) Proofs.Try.func144 (by kernel_rfl) (by kernel_rfl) (by kernel_rfl) (by kernel_rfl)
    LoopsP.nil (e144 f88)
/-! impl.IsRig -/
def p83 : List SP := [.one (.r .device)]
def r83 : List SP := [.one (.bool)]
def q83_0 : List SP := pat 40 0 [(0, .one (.r .device)), (8, .one (.r .device)), (9, .one (.int .i64)), (10, .one (.int .i64))]
noncomputable def s83_0 (f20 : Device × Unit → Option (Bool × Unit)) (f144 : List Device × Device × Unit → Option (Bool × Unit)) (t1 : List Device × List Device × Int × Int × Unit) (rec K : List Device × List Device × Int × Int × Unit → Option (Bool × Unit)) : Option (Bool × Unit) :=
  cond (decide (t1.2.2.2.1 < t1.2.2.1)) (rdL t1.2.1 t1.2.2.2.1 fun d2 => (f20 (d2, ())).bind fun x3 => cond (!(!x3.1)) (cond (decide (t1.2.2.2.1 > 0)) (rdL t1.1 (w64 (t1.2.2.2.1 - 1)) fun d4 => cond (!(Op.bytesLess d2.Name d4.Name || decide (d2.Name = d4.Name))) ((f144 (t1.1, d2, ())).bind fun x5 => cond (!x5.1) (some (false, ())) (rec (t1.1, t1.2.1, t1.2.2.1, (w64 (t1.2.2.2.1 + 1)), ()))) (some (false, ()))) ((f144 (t1.1, d2, ())).bind fun x6 => cond (!x6.1) (some (false, ())) (rec (t1.1, t1.2.1, t1.2.2.1, (w64 (t1.2.2.2.1 + 1)), ())))) (some (false, ()))) (K (t1.1, t1.2.1, t1.2.2.1, t1.2.2.2.1, ()))
noncomputable def F83 (f20 : Device × Unit → Option (Bool × Unit)) (f144 : List Device × Device × Unit → Option (Bool × Unit)) (a : List Device × Unit) : Option (Bool × Unit) :=
  cond (decide ((Int.ofNat (List.length a.1)) > 8)) (some (false, ())) (iterF (s83_0 f20 f144) fuel (a.1, a.1, (Int.ofNat (List.length a.1)), 0, ()) fun t7 => some (true, ()))
def E83 (f20 : Device × Unit → Option (Bool × Unit)) (f144 : List Device × Device × Unit → Option (Bool × Unit)) : Env := envL [(20, mkE p20 r20 false f20), (144, mkE p144 r144 false f144)]
noncomputable def L83 (f20 : Device × Unit → Option (Bool × Unit)) (f144 : List Device × Device × Unit → Option (Bool × Unit)) : LEnv (densS (muts p83 ++ r83)) := lenv [(0, loopL (R := densS (muts p83 ++ r83)) q83_0 (s83_0 f20 f144))]
theorem e83_0 (f20 : Device × Unit → Option (Bool × Unit)) (f144 : List Device × Device × Unit → Option (Bool × Unit)) (X : Nat → St → Option (densS (muts p83 ++ r83))) (rec K : densS q83_0 → Option (densS (muts p83 ++ r83))) (t : densS q83_0) :
    ev (E83 f20 f144) tab (fun _ => false) (L83 f20 f144) (retK tab p83 r83 Proofs.Try.f83.results.toList) (loopC Proofs.Try.f83 0) (fun i s => cond (Nat.beq i 0) (decK 100 q83_0 s K) (X i s)) (fun s => decK 100 q83_0 s rec) (enc q83_0 t) = s83_0 f20 f144 t rec K := by kernel_rfl
theorem e83 (f20 : Device × Unit → Option (Bool × Unit)) (f144 : List Device × Device × Unit → Option (Bool × Unit)) (a : densS p83) : runF (E83 f20 f144) tab (fun _ => false) p83 r83 Proofs.Try.f83 (L83 f20 f144) a = F83 f20 f144 a := by kernel_rfl
theorem ok83 {f20 : Device × Unit → Option (Bool × Unit)} {f144 : List Device × Device × Unit → Option (Bool × Unit)} (h20 : OK Proofs.Try.prog 20 (mkE p20 r20 false f20)) (h144 : OK Proofs.Try.prog 144 (mkE p144 r144 false f144)) : OK Proofs.Try.prog 83 (mkE p83 r83 false (F83 f20 f144)) :=
  fn_ok tab_ok (envL_ok (l := [(20, mkE p20 r20 false f20), (144, mkE p144 r144 false f144)]) (OKs.cons h20 (OKs.cons h144 OKs.nil))) mixed (ann := (fun _ => false)) (L := L83 f20 f144) (fn := Proofs.Try.f83) (c := bodyC Proofs.Try.f83) (ls := [(0, loopC Proofs.Try.f83 0)]) Proofs.Try.func83 (by kernel_rfl) (by kernel_rfl) (by kernel_rfl) (by kernel_rfl)
    (LoopsP.cons q83_0 (s83_0 f20 f144) rfl (e83_0 f20 f144) LoopsP.nil) (e83 f20 f144)
/-! slices.Clone[[]impl.Device,impl.Device] -/
def p141 : List SP := [.one (.r .device)]
def r141 : List SP := [.one (.o 0 .device)]
noncomputable def F141 (a : List Device × Unit) : Option (List Device × Unit) :=
  emptyK (List.isEmpty a.1) (some ([], ())) (capK (List.length ([] : List Device) + List.length a.1) (some ((([] : List Device) ++ a.1), ())))
def E141 : Env := envL []
noncomputable def L141 : LEnv (densS (muts p141 ++ r141)) := lenv []
theorem e141 (a : densS p141) : runF (E141) tab (fun _ => false) p141 r141 Proofs.Try.f141 (L141) a = F141 a := by kernel_rfl
theorem ok141 : OK Proofs.Try.prog 141 (mkE p141 r141 false (F141)) :=
  fn_ok tab_ok (envL_ok (l := []) OKs.nil) mixed (ann := (fun _ => false)) (L := L141) (fn := Proofs.Try.f141) (c := bodyC Proofs.Try.f141) (ls := []) Proofs.Try.func141 (by kernel_rfl) (by kernel_rfl) (by kernel_rfl) (by kernel_rfl)
    LoopsP.nil (e141)
/-! impl.checked -/
def p178 : List SP := [.t .place]
def r178 : List SP := [.t .place, .one (.bool)]
noncomputable def F178 (f65 : Place × Unit → Option (Bool × Unit)) (a : Place × Unit) : Option (Place × Bool × Unit) :=
  (f65 (a.1, ())).bind fun x1 => cond (!x1.1) (some ((⟨0, 0⟩ : Place), false, ())) (some (a.1, true, ()))
def E178 (f65 : Place × Unit → Option (Bool × Unit)) : Env := envL [(65, mkE p65 r65 false f65)]
noncomputable def L178 (f65 : Place × Unit → Option (Bool × Unit)) : LEnv (densS (muts p178 ++ r178)) := lenv []
theorem e178 (f65 : Place × Unit → Option (Bool × Unit)) (a : densS p178) : runF (E178 f65) tab (fun _ => false) p178 r178 Proofs.Try.f178 (L178 f65) a = F178 f65 a := by kernel_rfl
theorem ok178 {f65 : Place × Unit → Option (Bool × Unit)} (h65 : OK Proofs.Try.prog 65 (mkE p65 r65 false f65)) : OK Proofs.Try.prog 178 (mkE p178 r178 false (F178 f65)) :=
  fn_ok tab_ok (envL_ok (l := [(65, mkE p65 r65 false f65)]) (OKs.cons h65 OKs.nil)) mixed (ann := (fun _ => false)) (L := L178 f65) (fn := Proofs.Try.f178) (c := bodyC Proofs.Try.f178) (ls := []) Proofs.Try.func178 (by kernel_rfl) (by kernel_rfl) (by kernel_rfl) (by kernel_rfl)
    LoopsP.nil (e178 f65)
/-! impl.AddPlaces -/
def p142 : List SP := [.t .place, .t .place]
def r142 : List SP := [.t .place, .one (.bool)]
noncomputable def F142 (f65 : Place × Unit → Option (Bool × Unit)) (f178 : Place × Unit → Option (Place × Bool × Unit)) (a : Place × Place × Unit) : Option (Place × Bool × Unit) :=
  (f65 (a.1, ())).bind fun x1 => cond (!(!x1.1)) ((f65 (a.2.1, ())).bind fun x2 => cond (!x2.1) (some ((⟨0, 0⟩ : Place), false, ())) ((f178 ((⟨(w64 (a.1.X + a.2.1.X)), (w64 (a.1.Y + a.2.1.Y))⟩ : Place), ())).bind fun x3 => some (x3.1, x3.2.1, ()))) (some ((⟨0, 0⟩ : Place), false, ()))
def E142 (f65 : Place × Unit → Option (Bool × Unit)) (f178 : Place × Unit → Option (Place × Bool × Unit)) : Env := envL [(65, mkE p65 r65 false f65), (178, mkE p178 r178 false f178)]
noncomputable def L142 (f65 : Place × Unit → Option (Bool × Unit)) (f178 : Place × Unit → Option (Place × Bool × Unit)) : LEnv (densS (muts p142 ++ r142)) := lenv []
theorem e142 (f65 : Place × Unit → Option (Bool × Unit)) (f178 : Place × Unit → Option (Place × Bool × Unit)) (a : densS p142) : runF (E142 f65 f178) tab (fun _ => false) p142 r142 Proofs.Try.f142 (L142 f65 f178) a = F142 f65 f178 a := by kernel_rfl
theorem ok142 {f65 : Place × Unit → Option (Bool × Unit)} {f178 : Place × Unit → Option (Place × Bool × Unit)} (h65 : OK Proofs.Try.prog 65 (mkE p65 r65 false f65)) (h178 : OK Proofs.Try.prog 178 (mkE p178 r178 false f178)) : OK Proofs.Try.prog 142 (mkE p142 r142 false (F142 f65 f178)) :=
  fn_ok tab_ok (envL_ok (l := [(65, mkE p65 r65 false f65), (178, mkE p178 r178 false f178)]) (OKs.cons h65 (OKs.cons h178 OKs.nil))) mixed (ann := (fun _ => false)) (L := L142 f65 f178) (fn := Proofs.Try.f142) (c := bodyC Proofs.Try.f142) (ls := []) Proofs.Try.func142 (by kernel_rfl) (by kernel_rfl) (by kernel_rfl) (by kernel_rfl)
    LoopsP.nil (e142 f65 f178)
/-! impl.ShiftRig -/
def p81 : List SP := [.one (.r .device), .t .place]
def r81 : List SP := [.one (.o 0 .device), .one (.bool)]
def q81_0 : List SP := pat 57 0 [(3, .boxt 5000001 .place), (6, .one (.o 5000002 .device)), (22, .one (.al 5000002 .device)), (23, .one (.int .i64)), (24, .one (.int .i64))]
noncomputable def s81_0 (f83 : List Device × Unit → Option (Bool × Unit)) (f65 : Place × Unit → Option (Bool × Unit)) (f141 : List Device × Unit → Option (List Device × Unit)) (f142 : Place × Place × Unit → Option (Place × Bool × Unit)) (f20 : Device × Unit → Option (Bool × Unit)) (t4 : Place × List Device × Unit × Int × Int × Unit) (rec K : Place × List Device × Unit × Int × Int × Unit → Option (List Device × Bool × Unit)) : Option (List Device × Bool × Unit) :=
  cond (decide (t4.2.2.2.2.1 < t4.2.2.2.1)) (rdL t4.2.1 t4.2.2.2.2.1 fun _ => (t4.2.1[(Int.toNat t4.2.2.2.2.1)]?).bind fun d5 => cond (decide (d5.Kind = 1)) (rec (t4.1, t4.2.1, (), t4.2.2.2.1, (w64 (t4.2.2.2.2.1 + 1)), ())) ((f142 (d5.At, t4.1, ())).bind fun x6 => rdL t4.2.1 t4.2.2.2.2.1 fun _ => (t4.2.1[(Int.toNat t4.2.2.2.2.1)]?).bind fun d7 => cond (!(!x6.2.1)) (rdL (List.set t4.2.1 (Int.toNat t4.2.2.2.2.1) (⟨d7.Name, d7.Kind, d7.Line, ⟨x6.1.X, x6.1.Y⟩, d7.Heading, d7.Tilt, d7.Most⟩ : Device)) t4.2.2.2.2.1 fun _ => ((List.set t4.2.1 (Int.toNat t4.2.2.2.2.1) (⟨d7.Name, d7.Kind, d7.Line, ⟨x6.1.X, x6.1.Y⟩, d7.Heading, d7.Tilt, d7.Most⟩ : Device))[(Int.toNat t4.2.2.2.2.1)]?).bind fun d8 => (f20 (d8, ())).bind fun x9 => cond (!x9.1) (some (([] : List Device), false, ())) (rec (t4.1, (List.set t4.2.1 (Int.toNat t4.2.2.2.2.1) (⟨d7.Name, d7.Kind, d7.Line, ⟨x6.1.X, x6.1.Y⟩, d7.Heading, d7.Tilt, d7.Most⟩ : Device)), (), t4.2.2.2.1, (w64 (t4.2.2.2.2.1 + 1)), ()))) (some (([] : List Device), false, ())))) (K (t4.1, t4.2.1, (), t4.2.2.2.1, t4.2.2.2.2.1, ()))
noncomputable def F81 (f83 : List Device × Unit → Option (Bool × Unit)) (f65 : Place × Unit → Option (Bool × Unit)) (f141 : List Device × Unit → Option (List Device × Unit)) (f142 : Place × Place × Unit → Option (Place × Bool × Unit)) (f20 : Device × Unit → Option (Bool × Unit)) (a : List Device × Place × Unit) : Option (List Device × Bool × Unit) :=
  (f83 (a.1, ())).bind fun x1 => cond (!(!x1.1)) ((f65 (a.2.1, ())).bind fun x2 => cond (!x2.1) (some (([] : List Device), false, ())) ((f141 (a.1, ())).bind fun x3 => iterF (s81_0 f83 f65 f141 f142 f20) fuel (a.2.1, x3.1, (), (Int.ofNat (List.length x3.1)), 0, ()) fun t10 => some (t10.2.1, true, ()))) (some (([] : List Device), false, ()))
def E81 (f83 : List Device × Unit → Option (Bool × Unit)) (f65 : Place × Unit → Option (Bool × Unit)) (f141 : List Device × Unit → Option (List Device × Unit)) (f142 : Place × Place × Unit → Option (Place × Bool × Unit)) (f20 : Device × Unit → Option (Bool × Unit)) : Env := envL [(83, mkE p83 r83 false f83), (65, mkE p65 r65 false f65), (141, mkE p141 r141 false f141), (142, mkE p142 r142 false f142), (20, mkE p20 r20 false f20)]
noncomputable def L81 (f83 : List Device × Unit → Option (Bool × Unit)) (f65 : Place × Unit → Option (Bool × Unit)) (f141 : List Device × Unit → Option (List Device × Unit)) (f142 : Place × Place × Unit → Option (Place × Bool × Unit)) (f20 : Device × Unit → Option (Bool × Unit)) : LEnv (densS (muts p81 ++ r81)) := lenv [(0, loopL (R := densS (muts p81 ++ r81)) q81_0 (s81_0 f83 f65 f141 f142 f20))]
theorem e81_0 (f83 : List Device × Unit → Option (Bool × Unit)) (f65 : Place × Unit → Option (Bool × Unit)) (f141 : List Device × Unit → Option (List Device × Unit)) (f142 : Place × Place × Unit → Option (Place × Bool × Unit)) (f20 : Device × Unit → Option (Bool × Unit)) (X : Nat → St → Option (densS (muts p81 ++ r81))) (rec K : densS q81_0 → Option (densS (muts p81 ++ r81))) (t : densS q81_0) :
    ev (E81 f83 f65 f141 f142 f20) tab (fun _ => false) (L81 f83 f65 f141 f142 f20) (retK tab p81 r81 Proofs.Try.f81.results.toList) (loopC Proofs.Try.f81 0) (fun i s => cond (Nat.beq i 0) (decK 100 q81_0 s K) (X i s)) (fun s => decK 100 q81_0 s rec) (enc q81_0 t) = s81_0 f83 f65 f141 f142 f20 t rec K := by kernel_rfl
theorem e81 (f83 : List Device × Unit → Option (Bool × Unit)) (f65 : Place × Unit → Option (Bool × Unit)) (f141 : List Device × Unit → Option (List Device × Unit)) (f142 : Place × Place × Unit → Option (Place × Bool × Unit)) (f20 : Device × Unit → Option (Bool × Unit)) (a : densS p81) : runF (E81 f83 f65 f141 f142 f20) tab (fun _ => false) p81 r81 Proofs.Try.f81 (L81 f83 f65 f141 f142 f20) a = F81 f83 f65 f141 f142 f20 a := by kernel_rfl
theorem ok81 {f83 : List Device × Unit → Option (Bool × Unit)} {f65 : Place × Unit → Option (Bool × Unit)} {f141 : List Device × Unit → Option (List Device × Unit)} {f142 : Place × Place × Unit → Option (Place × Bool × Unit)} {f20 : Device × Unit → Option (Bool × Unit)} (h83 : OK Proofs.Try.prog 83 (mkE p83 r83 false f83)) (h65 : OK Proofs.Try.prog 65 (mkE p65 r65 false f65)) (h141 : OK Proofs.Try.prog 141 (mkE p141 r141 false f141)) (h142 : OK Proofs.Try.prog 142 (mkE p142 r142 false f142)) (h20 : OK Proofs.Try.prog 20 (mkE p20 r20 false f20)) : OK Proofs.Try.prog 81 (mkE p81 r81 false (F81 f83 f65 f141 f142 f20)) :=
  fn_ok tab_ok (envL_ok (l := [(83, mkE p83 r83 false f83), (65, mkE p65 r65 false f65), (141, mkE p141 r141 false f141), (142, mkE p142 r142 false f142), (20, mkE p20 r20 false f20)]) (OKs.cons h83 (OKs.cons h65 (OKs.cons h141 (OKs.cons h142 (OKs.cons h20 OKs.nil)))))) mixed (ann := (fun _ => false)) (L := L81 f83 f65 f141 f142 f20) (fn := Proofs.Try.f81) (c := bodyC Proofs.Try.f81) (ls := [(0, loopC Proofs.Try.f81 0)]) Proofs.Try.func81 (by kernel_rfl) (by kernel_rfl) (by kernel_rfl) (by kernel_rfl)
    (LoopsP.cons q81_0 (s81_0 f83 f65 f141 f142 f20) rfl (e81_0 f83 f65 f141 f142 f20) LoopsP.nil) (e81 f83 f65 f141 f142 f20)
/-! impl.IsCue -/
def p113 : List SP := [.t .cue]
def r113 : List SP := [.one (.bool)]
noncomputable def F113 (f52 : Int × Int × Int × Unit → Option (Bool × Unit)) (f62 : Str × Unit → Option (Bool × Unit)) (a : Cue × Unit) : Option (Bool × Unit) :=
  (f52 (a.1.Tick, 0, 64, ())).bind fun x1 => cond x1.1 ((f62 (a.1.Name, ())).bind fun x2 => cond x2.1 ((f52 (a.1.Level, 0, 32, ())).bind fun x3 => cond x3.1 ((f52 (a.1.Ramp, 0, 16, ())).bind fun x4 => some (x4.1, ())) (some (false, ()))) (some (false, ()))) (some (false, ()))
def E113 (f52 : Int × Int × Int × Unit → Option (Bool × Unit)) (f62 : Str × Unit → Option (Bool × Unit)) : Env := envL [(52, mkE p52 r52 false f52), (62, mkE p62 r62 false f62)]
noncomputable def L113 (f52 : Int × Int × Int × Unit → Option (Bool × Unit)) (f62 : Str × Unit → Option (Bool × Unit)) : LEnv (densS (muts p113 ++ r113)) := lenv []
theorem e113 (f52 : Int × Int × Int × Unit → Option (Bool × Unit)) (f62 : Str × Unit → Option (Bool × Unit)) (a : densS p113) : runF (E113 f52 f62) tab (fun _ => false) p113 r113 Proofs.Try.f113 (L113 f52 f62) a = F113 f52 f62 a := by kernel_rfl
theorem ok113 {f52 : Int × Int × Int × Unit → Option (Bool × Unit)} {f62 : Str × Unit → Option (Bool × Unit)} (h52 : OK Proofs.Try.prog 52 (mkE p52 r52 false f52)) (h62 : OK Proofs.Try.prog 62 (mkE p62 r62 false f62)) : OK Proofs.Try.prog 113 (mkE p113 r113 false (F113 f52 f62)) :=
  fn_ok tab_ok (envL_ok (l := [(52, mkE p52 r52 false f52), (62, mkE p62 r62 false f62)]) (OKs.cons h52 (OKs.cons h62 OKs.nil))) mixed (ann := (fun _ => false)) (L := L113 f52 f62) (fn := Proofs.Try.f113) (c := bodyC Proofs.Try.f113) (ls := []) Proofs.Try.func113 (by kernel_rfl) (by kernel_rfl) (by kernel_rfl) (by kernel_rfl)
    LoopsP.nil (e113 f52 f62)
/-! cmp.isNaN[int] -/
def p174 : List SP := [.one (.int .i64)]
def r174 : List SP := [.one (.bool)]
noncomputable def F174 (a : Int × Unit) : Option (Bool × Unit) :=
  some ((!(decide (a.1 = a.1))), ())
def E174 : Env := envL []
noncomputable def L174 : LEnv (densS (muts p174 ++ r174)) := lenv []
theorem e174 (a : densS p174) : runF (E174) tab (fun _ => false) p174 r174 Proofs.Try.f174 (L174) a = F174 a := by kernel_rfl
theorem ok174 : OK Proofs.Try.prog 174 (mkE p174 r174 false (F174)) :=
  fn_ok tab_ok (envL_ok (l := []) OKs.nil) mixed (ann := (fun _ => false)) (L := L174) (fn := Proofs.Try.f174) (c := bodyC Proofs.Try.f174) (ls := []) Proofs.Try.func174 (by kernel_rfl) (by kernel_rfl) (by kernel_rfl) (by kernel_rfl)
    LoopsP.nil (e174)
/-! cmp.Compare[int] -/
def p132 : List SP := [.one (.int .i64), .one (.int .i64)]
def r132 : List SP := [.one (.int .i64)]
noncomputable def F132 (f174 : Int × Unit → Option (Bool × Unit)) (a : Int × Int × Unit) : Option (Int × Unit) :=
  (f174 (a.1, ())).bind fun x1 => (f174 (a.2.1, ())).bind fun x2 => cond x1.1 (cond x2.1 (some (0, ())) (some ((-1), ()))) (cond x2.1 (some (1, ())) (cond (decide (a.1 < a.2.1)) (some ((-1), ())) (cond (decide (a.1 > a.2.1)) (some (1, ())) (some (0, ())))))
def E132 (f174 : Int × Unit → Option (Bool × Unit)) : Env := envL [(174, mkE p174 r174 false f174)]
noncomputable def L132 (f174 : Int × Unit → Option (Bool × Unit)) : LEnv (densS (muts p132 ++ r132)) := lenv []
theorem e132 (f174 : Int × Unit → Option (Bool × Unit)) (a : densS p132) : runF (E132 f174) tab (fun _ => false) p132 r132 Proofs.Try.f132 (L132 f174) a = F132 f174 a := by kernel_rfl
theorem ok132 {f174 : Int × Unit → Option (Bool × Unit)} (h174 : OK Proofs.Try.prog 174 (mkE p174 r174 false f174)) : OK Proofs.Try.prog 132 (mkE p132 r132 false (F132 f174)) :=
  fn_ok tab_ok (envL_ok (l := [(174, mkE p174 r174 false f174)]) (OKs.cons h174 OKs.nil)) mixed (ann := (fun _ => false)) (L := L132 f174) (fn := Proofs.Try.f132) (c := bodyC Proofs.Try.f132) (ls := []) Proofs.Try.func132 (by kernel_rfl) (by kernel_rfl) (by kernel_rfl) (by kernel_rfl)
    LoopsP.nil (e132 f174)
/-! cmp.isNaN[string] -/
def p192 : List SP := [.one (.str)]
def r192 : List SP := [.one (.bool)]
noncomputable def F192 (a : Str × Unit) : Option (Bool × Unit) :=
  some ((!decide (a.1 = a.1)), ())
def E192 : Env := envL []
noncomputable def L192 : LEnv (densS (muts p192 ++ r192)) := lenv []
theorem e192 (a : densS p192) : runF (E192) tab (fun _ => false) p192 r192 Proofs.Try.f192 (L192) a = F192 a := by kernel_rfl
theorem ok192 : OK Proofs.Try.prog 192 (mkE p192 r192 false (F192)) :=
  fn_ok tab_ok (envL_ok (l := []) OKs.nil) mixed (ann := (fun _ => false)) (L := L192) (fn := Proofs.Try.f192) (c := bodyC Proofs.Try.f192) (ls := []) Proofs.Try.func192 (by kernel_rfl) (by kernel_rfl) (by kernel_rfl) (by kernel_rfl)
    LoopsP.nil (e192)
/-! cmp.Compare[string] -/
def p170 : List SP := [.one (.str), .one (.str)]
def r170 : List SP := [.one (.int .i64)]
noncomputable def F170 (f192 : Str × Unit → Option (Bool × Unit)) (a : Str × Str × Unit) : Option (Int × Unit) :=
  (f192 (a.1, ())).bind fun x1 => (f192 (a.2.1, ())).bind fun x2 => cond x1.1 (cond x2.1 (some (0, ())) (some ((-1), ()))) (cond x2.1 (some (1, ())) (cond (Op.bytesLess a.1 a.2.1) (some ((-1), ())) (cond (!(Op.bytesLess a.1 a.2.1 || decide (a.1 = a.2.1))) (some (1, ())) (some (0, ())))))
def E170 (f192 : Str × Unit → Option (Bool × Unit)) : Env := envL [(192, mkE p192 r192 false f192)]
noncomputable def L170 (f192 : Str × Unit → Option (Bool × Unit)) : LEnv (densS (muts p170 ++ r170)) := lenv []
theorem e170 (f192 : Str × Unit → Option (Bool × Unit)) (a : densS p170) : runF (E170 f192) tab (fun _ => false) p170 r170 Proofs.Try.f170 (L170 f192) a = F170 f192 a := by kernel_rfl
theorem ok170 {f192 : Str × Unit → Option (Bool × Unit)} (h192 : OK Proofs.Try.prog 192 (mkE p192 r192 false f192)) : OK Proofs.Try.prog 170 (mkE p170 r170 false (F170 f192)) :=
  fn_ok tab_ok (envL_ok (l := [(192, mkE p192 r192 false f192)]) (OKs.cons h192 OKs.nil)) mixed (ann := (fun _ => false)) (L := L170 f192) (fn := Proofs.Try.f170) (c := bodyC Proofs.Try.f170) (ls := []) Proofs.Try.func170 (by kernel_rfl) (by kernel_rfl) (by kernel_rfl) (by kernel_rfl)
    LoopsP.nil (e170 f192)
/-! cmp.Or[int] -/
def p131 : List SP := [.one (.r .int)]
def r131 : List SP := [.one (.int .i64)]
def q131_0 : List SP := pat 18 0 [(3, .one (.int .i64)), (6, .one (.r .int)), (7, .one (.int .i64)), (8, .one (.int .i64))]
noncomputable def s131_0 (t1 : Int × List Int × Int × Int × Unit) (rec K : Int × List Int × Int × Int × Unit → Option (Int × Unit)) : Option (Int × Unit) :=
  cond (decide (t1.2.2.2.1 < t1.2.2.1)) (rdL t1.2.1 t1.2.2.2.1 fun d2 => cond (!(decide (d2 = t1.1))) (some (d2, ())) (rec (t1.1, t1.2.1, t1.2.2.1, (w64 (t1.2.2.2.1 + 1)), ()))) (K (t1.1, t1.2.1, t1.2.2.1, t1.2.2.2.1, ()))
noncomputable def F131 (a : List Int × Unit) : Option (Int × Unit) :=
  iterF (s131_0) fuel (0, a.1, (Int.ofNat (List.length a.1)), 0, ()) fun t3 => some (t3.1, ())
def E131 : Env := envL []
noncomputable def L131 : LEnv (densS (muts p131 ++ r131)) := lenv [(0, loopL (R := densS (muts p131 ++ r131)) q131_0 (s131_0))]
theorem e131_0 (X : Nat → St → Option (densS (muts p131 ++ r131))) (rec K : densS q131_0 → Option (densS (muts p131 ++ r131))) (t : densS q131_0) :
    ev (E131) tab (fun _ => false) (L131) (retK tab p131 r131 Proofs.Try.f131.results.toList) (loopC Proofs.Try.f131 0) (fun i s => cond (Nat.beq i 0) (decK 100 q131_0 s K) (X i s)) (fun s => decK 100 q131_0 s rec) (enc q131_0 t) = s131_0 t rec K := by kernel_rfl
theorem e131 (a : densS p131) : runF (E131) tab (fun _ => false) p131 r131 Proofs.Try.f131 (L131) a = F131 a := by kernel_rfl
theorem ok131 : OK Proofs.Try.prog 131 (mkE p131 r131 false (F131)) :=
  fn_ok tab_ok (envL_ok (l := []) OKs.nil) mixed (ann := (fun _ => false)) (L := L131) (fn := Proofs.Try.f131) (c := bodyC Proofs.Try.f131) (ls := [(0, loopC Proofs.Try.f131 0)]) Proofs.Try.func131 (by kernel_rfl) (by kernel_rfl) (by kernel_rfl) (by kernel_rfl)
    (LoopsP.cons q131_0 (s131_0) rfl (e131_0) LoopsP.nil) (e131)
/-! impl.CompareCues -/
def p114 : List SP := [.t .cue, .t .cue]
def r114 : List SP := [.one (.int .i64)]
noncomputable def F114 (f132 : Int × Int × Unit → Option (Int × Unit)) (f170 : Str × Str × Unit → Option (Int × Unit)) (f131 : List Int × Unit → Option (Int × Unit)) (a : Cue × Cue × Unit) : Option (Int × Unit) :=
  (f132 (a.1.Tick, a.2.1.Tick, ())).bind fun x1 => (f170 (a.1.Name, a.2.1.Name, ())).bind fun x2 => (f131 (([x1.1, x2.1] : List Int), ())).bind fun x3 => some (x3.1, ())
def E114 (f132 : Int × Int × Unit → Option (Int × Unit)) (f170 : Str × Str × Unit → Option (Int × Unit)) (f131 : List Int × Unit → Option (Int × Unit)) : Env := envL [(132, mkE p132 r132 false f132), (170, mkE p170 r170 false f170), (131, mkE p131 r131 false f131)]
noncomputable def L114 (f132 : Int × Int × Unit → Option (Int × Unit)) (f170 : Str × Str × Unit → Option (Int × Unit)) (f131 : List Int × Unit → Option (Int × Unit)) : LEnv (densS (muts p114 ++ r114)) := lenv []
theorem e114 (f132 : Int × Int × Unit → Option (Int × Unit)) (f170 : Str × Str × Unit → Option (Int × Unit)) (f131 : List Int × Unit → Option (Int × Unit)) (a : densS p114) : runF (E114 f132 f170 f131) tab (fun _ => false) p114 r114 Proofs.Try.f114 (L114 f132 f170 f131) a = F114 f132 f170 f131 a := by kernel_rfl
theorem ok114 {f132 : Int × Int × Unit → Option (Int × Unit)} {f170 : Str × Str × Unit → Option (Int × Unit)} {f131 : List Int × Unit → Option (Int × Unit)} (h132 : OK Proofs.Try.prog 132 (mkE p132 r132 false f132)) (h170 : OK Proofs.Try.prog 170 (mkE p170 r170 false f170)) (h131 : OK Proofs.Try.prog 131 (mkE p131 r131 false f131)) : OK Proofs.Try.prog 114 (mkE p114 r114 false (F114 f132 f170 f131)) :=
  fn_ok tab_ok (envL_ok (l := [(132, mkE p132 r132 false f132), (170, mkE p170 r170 false f170), (131, mkE p131 r131 false f131)]) (OKs.cons h132 (OKs.cons h170 (OKs.cons h131 OKs.nil)))) mixed (ann := (fun _ => false)) (L := L114 f132 f170 f131) (fn := Proofs.Try.f114) (c := bodyC Proofs.Try.f114) (ls := []) Proofs.Try.func114 (by kernel_rfl) (by kernel_rfl) (by kernel_rfl) (by kernel_rfl)
    LoopsP.nil (e114 f132 f170 f131)
/-! impl.IsScore -/
def p51 : List SP := [.one (.r .cue)]
def r51 : List SP := [.one (.bool)]
def q51_0 : List SP := pat 33 0 [(0, .one (.r .cue)), (5, .one (.r .cue)), (6, .one (.int .i64)), (7, .one (.int .i64))]
noncomputable def s51_0 (f113 : Cue × Unit → Option (Bool × Unit)) (f114 : Cue × Cue × Unit → Option (Int × Unit)) (t1 : List Cue × List Cue × Int × Int × Unit) (rec K : List Cue × List Cue × Int × Int × Unit → Option (Bool × Unit)) : Option (Bool × Unit) :=
  cond (decide (t1.2.2.2.1 < t1.2.2.1)) (rdL t1.2.1 t1.2.2.2.1 fun d2 => (f113 (d2, ())).bind fun x3 => cond (!(!x3.1)) (cond (decide (t1.2.2.2.1 > 0)) (rdL t1.1 (w64 (t1.2.2.2.1 - 1)) fun d4 => (f114 (d4, d2, ())).bind fun x5 => cond (decide (x5.1 ≥ 0)) (some (false, ())) (rec (t1.1, t1.2.1, t1.2.2.1, (w64 (t1.2.2.2.1 + 1)), ()))) (rec (t1.1, t1.2.1, t1.2.2.1, (w64 (t1.2.2.2.1 + 1)), ()))) (some (false, ()))) (K (t1.1, t1.2.1, t1.2.2.1, t1.2.2.2.1, ()))
noncomputable def F51 (f113 : Cue × Unit → Option (Bool × Unit)) (f114 : Cue × Cue × Unit → Option (Int × Unit)) (a : List Cue × Unit) : Option (Bool × Unit) :=
  iterF (s51_0 f113 f114) fuel (a.1, a.1, (Int.ofNat (List.length a.1)), 0, ()) fun t6 => some ((decide ((Int.ofNat (List.length t6.1)) ≤ 12)), ())
def E51 (f113 : Cue × Unit → Option (Bool × Unit)) (f114 : Cue × Cue × Unit → Option (Int × Unit)) : Env := envL [(113, mkE p113 r113 false f113), (114, mkE p114 r114 false f114)]
noncomputable def L51 (f113 : Cue × Unit → Option (Bool × Unit)) (f114 : Cue × Cue × Unit → Option (Int × Unit)) : LEnv (densS (muts p51 ++ r51)) := lenv [(0, loopL (R := densS (muts p51 ++ r51)) q51_0 (s51_0 f113 f114))]
theorem e51_0 (f113 : Cue × Unit → Option (Bool × Unit)) (f114 : Cue × Cue × Unit → Option (Int × Unit)) (X : Nat → St → Option (densS (muts p51 ++ r51))) (rec K : densS q51_0 → Option (densS (muts p51 ++ r51))) (t : densS q51_0) :
    ev (E51 f113 f114) tab (fun _ => false) (L51 f113 f114) (retK tab p51 r51 Proofs.Try.f51.results.toList) (loopC Proofs.Try.f51 0) (fun i s => cond (Nat.beq i 0) (decK 100 q51_0 s K) (X i s)) (fun s => decK 100 q51_0 s rec) (enc q51_0 t) = s51_0 f113 f114 t rec K := by kernel_rfl
theorem e51 (f113 : Cue × Unit → Option (Bool × Unit)) (f114 : Cue × Cue × Unit → Option (Int × Unit)) (a : densS p51) : runF (E51 f113 f114) tab (fun _ => false) p51 r51 Proofs.Try.f51 (L51 f113 f114) a = F51 f113 f114 a := by kernel_rfl
theorem ok51 {f113 : Cue × Unit → Option (Bool × Unit)} {f114 : Cue × Cue × Unit → Option (Int × Unit)} (h113 : OK Proofs.Try.prog 113 (mkE p113 r113 false f113)) (h114 : OK Proofs.Try.prog 114 (mkE p114 r114 false f114)) : OK Proofs.Try.prog 51 (mkE p51 r51 false (F51 f113 f114)) :=
  fn_ok tab_ok (envL_ok (l := [(113, mkE p113 r113 false f113), (114, mkE p114 r114 false f114)]) (OKs.cons h113 (OKs.cons h114 OKs.nil))) mixed (ann := (fun _ => false)) (L := L51 f113 f114) (fn := Proofs.Try.f51) (c := bodyC Proofs.Try.f51) (ls := [(0, loopC Proofs.Try.f51 0)]) Proofs.Try.func51 (by kernel_rfl) (by kernel_rfl) (by kernel_rfl) (by kernel_rfl)
    (LoopsP.cons q51_0 (s51_0 f113 f114) rfl (e51_0 f113 f114) LoopsP.nil) (e51 f113 f114)
/-! impl.isDrift -/
def p71 : List SP := [.t .place]
def r71 : List SP := [.one (.bool)]
noncomputable def F71 (f52 : Int × Int × Int × Unit → Option (Bool × Unit)) (a : Place × Unit) : Option (Bool × Unit) :=
  (f52 (a.1.X, (-8), 8, ())).bind fun x1 => cond x1.1 ((f52 (a.1.Y, (-8), 8, ())).bind fun x2 => some (x2.1, ())) (some (false, ()))
def E71 (f52 : Int × Int × Int × Unit → Option (Bool × Unit)) : Env := envL [(52, mkE p52 r52 false f52)]
noncomputable def L71 (f52 : Int × Int × Int × Unit → Option (Bool × Unit)) : LEnv (densS (muts p71 ++ r71)) := lenv []
theorem e71 (f52 : Int × Int × Int × Unit → Option (Bool × Unit)) (a : densS p71) : runF (E71 f52) tab (fun _ => false) p71 r71 Proofs.Try.f71 (L71 f52) a = F71 f52 a := by kernel_rfl
theorem ok71 {f52 : Int × Int × Int × Unit → Option (Bool × Unit)} (h52 : OK Proofs.Try.prog 52 (mkE p52 r52 false f52)) : OK Proofs.Try.prog 71 (mkE p71 r71 false (F71 f52)) :=
  fn_ok tab_ok (envL_ok (l := [(52, mkE p52 r52 false f52)]) (OKs.cons h52 OKs.nil)) mixed (ann := (fun _ => false)) (L := L71 f52) (fn := Proofs.Try.f71) (c := bodyC Proofs.Try.f71) (ls := []) Proofs.Try.func71 (by kernel_rfl) (by kernel_rfl) (by kernel_rfl) (by kernel_rfl)
    LoopsP.nil (e71 f52)
/-! impl.IsWind -/
def p84 : List SP := [.one (.r .gust)]
def r84 : List SP := [.one (.bool)]
def q84_0 : List SP := pat 41 0 [(0, .one (.r .gust)), (5, .one (.r .gust)), (6, .one (.int .i64)), (7, .one (.int .i64))]
noncomputable def s84_0 (f52 : Int × Int × Int × Unit → Option (Bool × Unit)) (f71 : Place × Unit → Option (Bool × Unit)) (t1 : List Gust × List Gust × Int × Int × Unit) (rec K : List Gust × List Gust × Int × Int × Unit → Option (Bool × Unit)) : Option (Bool × Unit) :=
  cond (decide (t1.2.2.2.1 < t1.2.2.1)) (rdL t1.2.1 t1.2.2.2.1 fun d2 => (f52 (d2.From, 0, 64, ())).bind fun x3 => cond (!(!x3.1)) ((f71 (d2.Drift, ())).bind fun x4 => cond (!(!x4.1)) (cond (decide (t1.2.2.2.1 > 0)) (rdL t1.1 (w64 (t1.2.2.2.1 - 1)) fun d5 => cond (decide (d2.From ≤ d5.From)) (some (false, ())) (rec (t1.1, t1.2.1, t1.2.2.1, (w64 (t1.2.2.2.1 + 1)), ()))) (rec (t1.1, t1.2.1, t1.2.2.1, (w64 (t1.2.2.2.1 + 1)), ()))) (some (false, ()))) (some (false, ()))) (K (t1.1, t1.2.1, t1.2.2.1, t1.2.2.2.1, ()))
noncomputable def F84 (f52 : Int × Int × Int × Unit → Option (Bool × Unit)) (f71 : Place × Unit → Option (Bool × Unit)) (a : List Gust × Unit) : Option (Bool × Unit) :=
  iterF (s84_0 f52 f71) fuel (a.1, a.1, (Int.ofNat (List.length a.1)), 0, ()) fun t6 => some ((decide ((Int.ofNat (List.length t6.1)) ≤ 8)), ())
def E84 (f52 : Int × Int × Int × Unit → Option (Bool × Unit)) (f71 : Place × Unit → Option (Bool × Unit)) : Env := envL [(52, mkE p52 r52 false f52), (71, mkE p71 r71 false f71)]
noncomputable def L84 (f52 : Int × Int × Int × Unit → Option (Bool × Unit)) (f71 : Place × Unit → Option (Bool × Unit)) : LEnv (densS (muts p84 ++ r84)) := lenv [(0, loopL (R := densS (muts p84 ++ r84)) q84_0 (s84_0 f52 f71))]
theorem e84_0 (f52 : Int × Int × Int × Unit → Option (Bool × Unit)) (f71 : Place × Unit → Option (Bool × Unit)) (X : Nat → St → Option (densS (muts p84 ++ r84))) (rec K : densS q84_0 → Option (densS (muts p84 ++ r84))) (t : densS q84_0) :
    ev (E84 f52 f71) tab (fun _ => false) (L84 f52 f71) (retK tab p84 r84 Proofs.Try.f84.results.toList) (loopC Proofs.Try.f84 0) (fun i s => cond (Nat.beq i 0) (decK 100 q84_0 s K) (X i s)) (fun s => decK 100 q84_0 s rec) (enc q84_0 t) = s84_0 f52 f71 t rec K := by kernel_rfl
theorem e84 (f52 : Int × Int × Int × Unit → Option (Bool × Unit)) (f71 : Place × Unit → Option (Bool × Unit)) (a : densS p84) : runF (E84 f52 f71) tab (fun _ => false) p84 r84 Proofs.Try.f84 (L84 f52 f71) a = F84 f52 f71 a := by kernel_rfl
theorem ok84 {f52 : Int × Int × Int × Unit → Option (Bool × Unit)} {f71 : Place × Unit → Option (Bool × Unit)} (h52 : OK Proofs.Try.prog 52 (mkE p52 r52 false f52)) (h71 : OK Proofs.Try.prog 71 (mkE p71 r71 false f71)) : OK Proofs.Try.prog 84 (mkE p84 r84 false (F84 f52 f71)) :=
  fn_ok tab_ok (envL_ok (l := [(52, mkE p52 r52 false f52), (71, mkE p71 r71 false f71)]) (OKs.cons h52 (OKs.cons h71 OKs.nil))) mixed (ann := (fun _ => false)) (L := L84 f52 f71) (fn := Proofs.Try.f84) (c := bodyC Proofs.Try.f84) (ls := [(0, loopC Proofs.Try.f84 0)]) Proofs.Try.func84 (by kernel_rfl) (by kernel_rfl) (by kernel_rfl) (by kernel_rfl)
    (LoopsP.cons q84_0 (s84_0 f52 f71) rfl (e84_0 f52 f71) LoopsP.nil) (e84 f52 f71)
/-! impl.IsShow -/
def p31 : List SP := [.agg [.r .device, .r .cue, .r .gust, .int .i64]]
def r31 : List SP := [.one (.bool)]
noncomputable def F31 (f83 : List Device × Unit → Option (Bool × Unit)) (f51 : List Cue × Unit → Option (Bool × Unit)) (f84 : List Gust × Unit → Option (Bool × Unit)) (f52 : Int × Int × Int × Unit → Option (Bool × Unit)) (a : ShD × Unit) : Option (Bool × Unit) :=
  (f83 (a.1.1, ())).bind fun x1 => cond x1.1 ((f51 (a.1.2.1, ())).bind fun x2 => cond x2.1 ((f84 (a.1.2.2.1, ())).bind fun x3 => cond x3.1 ((f52 (a.1.2.2.2.1, 0, 64, ())).bind fun x4 => some (x4.1, ())) (some (false, ()))) (some (false, ()))) (some (false, ()))
def E31 (f83 : List Device × Unit → Option (Bool × Unit)) (f51 : List Cue × Unit → Option (Bool × Unit)) (f84 : List Gust × Unit → Option (Bool × Unit)) (f52 : Int × Int × Int × Unit → Option (Bool × Unit)) : Env := envL [(83, mkE p83 r83 false f83), (51, mkE p51 r51 false f51), (84, mkE p84 r84 false f84), (52, mkE p52 r52 false f52)]
noncomputable def L31 (f83 : List Device × Unit → Option (Bool × Unit)) (f51 : List Cue × Unit → Option (Bool × Unit)) (f84 : List Gust × Unit → Option (Bool × Unit)) (f52 : Int × Int × Int × Unit → Option (Bool × Unit)) : LEnv (densS (muts p31 ++ r31)) := lenv []
theorem e31 (f83 : List Device × Unit → Option (Bool × Unit)) (f51 : List Cue × Unit → Option (Bool × Unit)) (f84 : List Gust × Unit → Option (Bool × Unit)) (f52 : Int × Int × Int × Unit → Option (Bool × Unit)) (a : densS p31) : runF (E31 f83 f51 f84 f52) tab (fun _ => false) p31 r31 Proofs.Try.f31 (L31 f83 f51 f84 f52) a = F31 f83 f51 f84 f52 a := by kernel_rfl
theorem ok31 {f83 : List Device × Unit → Option (Bool × Unit)} {f51 : List Cue × Unit → Option (Bool × Unit)} {f84 : List Gust × Unit → Option (Bool × Unit)} {f52 : Int × Int × Int × Unit → Option (Bool × Unit)} (h83 : OK Proofs.Try.prog 83 (mkE p83 r83 false f83)) (h51 : OK Proofs.Try.prog 51 (mkE p51 r51 false f51)) (h84 : OK Proofs.Try.prog 84 (mkE p84 r84 false f84)) (h52 : OK Proofs.Try.prog 52 (mkE p52 r52 false f52)) : OK Proofs.Try.prog 31 (mkE p31 r31 false (F31 f83 f51 f84 f52)) :=
  fn_ok tab_ok (envL_ok (l := [(83, mkE p83 r83 false f83), (51, mkE p51 r51 false f51), (84, mkE p84 r84 false f84), (52, mkE p52 r52 false f52)]) (OKs.cons h83 (OKs.cons h51 (OKs.cons h84 (OKs.cons h52 OKs.nil))))) mixed (ann := (fun _ => false)) (L := L31 f83 f51 f84 f52) (fn := Proofs.Try.f31) (c := bodyC Proofs.Try.f31) (ls := []) Proofs.Try.func31 (by kernel_rfl) (by kernel_rfl) (by kernel_rfl) (by kernel_rfl)
    LoopsP.nil (e31 f83 f51 f84 f52)
/-! slices.Clone[[]impl.Cue,impl.Cue] -/
def p54 : List SP := [.one (.r .cue)]
def r54 : List SP := [.one (.o 0 .cue)]
noncomputable def F54 (a : List Cue × Unit) : Option (List Cue × Unit) :=
  emptyK (List.isEmpty a.1) (some ([], ())) (capK (List.length ([] : List Cue) + List.length a.1) (some ((([] : List Cue) ++ a.1), ())))
def E54 : Env := envL []
noncomputable def L54 : LEnv (densS (muts p54 ++ r54)) := lenv []
theorem e54 (a : densS p54) : runF (E54) tab (fun _ => false) p54 r54 Proofs.Try.f54 (L54) a = F54 a := by kernel_rfl
theorem ok54 : OK Proofs.Try.prog 54 (mkE p54 r54 false (F54)) :=
  fn_ok tab_ok (envL_ok (l := []) OKs.nil) mixed (ann := (fun _ => false)) (L := L54) (fn := Proofs.Try.f54) (c := bodyC Proofs.Try.f54) (ls := []) Proofs.Try.func54 (by kernel_rfl) (by kernel_rfl) (by kernel_rfl) (by kernel_rfl)
    LoopsP.nil (e54)
/-! slices.Clone[[]impl.Gust,impl.Gust] -/
def p143 : List SP := [.one (.r .gust)]
def r143 : List SP := [.one (.o 0 .gust)]
noncomputable def F143 (a : List Gust × Unit) : Option (List Gust × Unit) :=
  emptyK (List.isEmpty a.1) (some ([], ())) (capK (List.length ([] : List Gust) + List.length a.1) (some ((([] : List Gust) ++ a.1), ())))
def E143 : Env := envL []
noncomputable def L143 : LEnv (densS (muts p143 ++ r143)) := lenv []
theorem e143 (a : densS p143) : runF (E143) tab (fun _ => false) p143 r143 Proofs.Try.f143 (L143) a = F143 a := by kernel_rfl
theorem ok143 : OK Proofs.Try.prog 143 (mkE p143 r143 false (F143)) :=
  fn_ok tab_ok (envL_ok (l := []) OKs.nil) mixed (ann := (fun _ => false)) (L := L143) (fn := Proofs.Try.f143) (c := bodyC Proofs.Try.f143) (ls := []) Proofs.Try.func143 (by kernel_rfl) (by kernel_rfl) (by kernel_rfl) (by kernel_rfl)
    LoopsP.nil (e143)
/-! impl.cloneShow -/
def p82 : List SP := [.agg [.r .device, .r .cue, .r .gust, .int .i64]]
def r82 : List SP := [.agg [.o 0 .device, .o 1 .cue, .o 2 .gust, .int .i64]]
noncomputable def F82 (f141 : List Device × Unit → Option (List Device × Unit)) (f54 : List Cue × Unit → Option (List Cue × Unit)) (f143 : List Gust × Unit → Option (List Gust × Unit)) (a : ShD × Unit) : Option (ShD × Unit) :=
  (f141 (a.1.1, ())).bind fun x1 => (f54 (a.1.2.1, ())).bind fun x2 => (f143 (a.1.2.2.1, ())).bind fun x3 => some ((x1.1, x2.1, x3.1, a.1.2.2.2.1, ()), ())
def E82 (f141 : List Device × Unit → Option (List Device × Unit)) (f54 : List Cue × Unit → Option (List Cue × Unit)) (f143 : List Gust × Unit → Option (List Gust × Unit)) : Env := envL [(141, mkE p141 r141 false f141), (54, mkE p54 r54 false f54), (143, mkE p143 r143 false f143)]
noncomputable def L82 (f141 : List Device × Unit → Option (List Device × Unit)) (f54 : List Cue × Unit → Option (List Cue × Unit)) (f143 : List Gust × Unit → Option (List Gust × Unit)) : LEnv (densS (muts p82 ++ r82)) := lenv []
theorem e82 (f141 : List Device × Unit → Option (List Device × Unit)) (f54 : List Cue × Unit → Option (List Cue × Unit)) (f143 : List Gust × Unit → Option (List Gust × Unit)) (a : densS p82) : runF (E82 f141 f54 f143) tab (fun _ => false) p82 r82 Proofs.Try.f82 (L82 f141 f54 f143) a = F82 f141 f54 f143 a := by kernel_rfl
theorem ok82 {f141 : List Device × Unit → Option (List Device × Unit)} {f54 : List Cue × Unit → Option (List Cue × Unit)} {f143 : List Gust × Unit → Option (List Gust × Unit)} (h141 : OK Proofs.Try.prog 141 (mkE p141 r141 false f141)) (h54 : OK Proofs.Try.prog 54 (mkE p54 r54 false f54)) (h143 : OK Proofs.Try.prog 143 (mkE p143 r143 false f143)) : OK Proofs.Try.prog 82 (mkE p82 r82 false (F82 f141 f54 f143)) :=
  fn_ok tab_ok (envL_ok (l := [(141, mkE p141 r141 false f141), (54, mkE p54 r54 false f54), (143, mkE p143 r143 false f143)]) (OKs.cons h141 (OKs.cons h54 (OKs.cons h143 OKs.nil)))) mixed (ann := (fun _ => false)) (L := L82 f141 f54 f143) (fn := Proofs.Try.f82) (c := bodyC Proofs.Try.f82) (ls := []) Proofs.Try.func82 (by kernel_rfl) (by kernel_rfl) (by kernel_rfl) (by kernel_rfl)
    LoopsP.nil (e82 f141 f54 f143)
/-! impl.ShiftShow -/
def p30 : List SP := [.agg [.r .device, .r .cue, .r .gust, .int .i64], .t .place]
def r30 : List SP := [.agg [.o 0 .device, .o 1 .cue, .o 2 .gust, .int .i64], .one (.bool)]
noncomputable def F30 (f81 : List Device × Place × Unit → Option (List Device × Bool × Unit)) (f31 : ShD × Unit → Option (Bool × Unit)) (f82 : ShD × Unit → Option (ShD × Unit)) (a : ShD × Place × Unit) : Option (ShD × Bool × Unit) :=
  (f81 (a.1.1, a.2.1, ())).bind fun x1 => (f31 ((a.1.1, a.1.2.1, a.1.2.2.1, a.1.2.2.2.1, ()), ())).bind fun x2 => cond (!(!x2.1)) (cond (!x1.2.1) (some (([], [], [], 0, ()), false, ())) ((f82 ((a.1.1, a.1.2.1, a.1.2.2.1, a.1.2.2.2.1, ()), ())).bind fun x3 => some ((x1.1, x3.1.2.1, x3.1.2.2.1, x3.1.2.2.2.1, ()), true, ()))) (some (([], [], [], 0, ()), false, ()))
def E30 (f81 : List Device × Place × Unit → Option (List Device × Bool × Unit)) (f31 : ShD × Unit → Option (Bool × Unit)) (f82 : ShD × Unit → Option (ShD × Unit)) : Env := envL [(81, mkE p81 r81 false f81), (31, mkE p31 r31 false f31), (82, mkE p82 r82 false f82)]
noncomputable def L30 (f81 : List Device × Place × Unit → Option (List Device × Bool × Unit)) (f31 : ShD × Unit → Option (Bool × Unit)) (f82 : ShD × Unit → Option (ShD × Unit)) : LEnv (densS (muts p30 ++ r30)) := lenv []
theorem e30 (f81 : List Device × Place × Unit → Option (List Device × Bool × Unit)) (f31 : ShD × Unit → Option (Bool × Unit)) (f82 : ShD × Unit → Option (ShD × Unit)) (a : densS p30) : runF (E30 f81 f31 f82) tab (fun _ => false) p30 r30 Proofs.Try.f30 (L30 f81 f31 f82) a = F30 f81 f31 f82 a := by kernel_rfl
theorem ok30 {f81 : List Device × Place × Unit → Option (List Device × Bool × Unit)} {f31 : ShD × Unit → Option (Bool × Unit)} {f82 : ShD × Unit → Option (ShD × Unit)} (h81 : OK Proofs.Try.prog 81 (mkE p81 r81 false f81)) (h31 : OK Proofs.Try.prog 31 (mkE p31 r31 false f31)) (h82 : OK Proofs.Try.prog 82 (mkE p82 r82 false f82)) : OK Proofs.Try.prog 30 (mkE p30 r30 false (F30 f81 f31 f82)) :=
  fn_ok tab_ok (envL_ok (l := [(81, mkE p81 r81 false f81), (31, mkE p31 r31 false f31), (82, mkE p82 r82 false f82)]) (OKs.cons h81 (OKs.cons h31 (OKs.cons h82 OKs.nil)))) mixed (ann := (fun _ => false)) (L := L30 f81 f31 f82) (fn := Proofs.Try.f30) (c := bodyC Proofs.Try.f30) (ls := []) Proofs.Try.func30 (by kernel_rfl) (by kernel_rfl) (by kernel_rfl) (by kernel_rfl)
    LoopsP.nil (e30 f81 f31 f82)
/-! laws.eqPlace -/
def p191 : List SP := [.t .place, .t .place]
def r191 : List SP := [.one (.bool)]
noncomputable def F191 (a : Place × Place × Unit) : Option (Bool × Unit) :=
  cond (!(decide (a.1.X = a.2.1.X))) (some (false, ())) (cond (!(decide (a.1.Y = a.2.1.Y))) (some (false, ())) (some (true, ())))
def E191 : Env := envL []
noncomputable def L191 : LEnv (densS (muts p191 ++ r191)) := lenv []
theorem e191 (a : densS p191) : runF (E191) tab (fun _ => false) p191 r191 Proofs.Try.f191 (L191) a = F191 a := by kernel_rfl
theorem ok191 : OK Proofs.Try.prog 191 (mkE p191 r191 false (F191)) :=
  fn_ok tab_ok (envL_ok (l := []) OKs.nil) mixed (ann := (fun _ => false)) (L := L191) (fn := Proofs.Try.f191) (c := bodyC Proofs.Try.f191) (ls := []) Proofs.Try.func191 (by kernel_rfl) (by kernel_rfl) (by kernel_rfl) (by kernel_rfl)
    LoopsP.nil (e191)
/-! laws.eqDevice -/
def p164 : List SP := [.t .device, .t .device]
def r164 : List SP := [.one (.bool)]
noncomputable def F164 (f191 : Place × Place × Unit → Option (Bool × Unit)) (a : Device × Device × Unit) : Option (Bool × Unit) :=
  cond (!decide (a.1.Name = a.2.1.Name)) (some (false, ())) (cond (!(decide (a.1.Kind = a.2.1.Kind))) (some (false, ())) (cond (!decide (a.1.Line = a.2.1.Line)) (some (false, ())) ((f191 (a.1.At, a.2.1.At, ())).bind fun x1 => cond (!x1.1) (some (false, ())) (cond (!(decide (a.1.Heading = a.2.1.Heading))) (some (false, ())) (cond (!(decide (a.1.Tilt = a.2.1.Tilt))) (some (false, ())) (cond (!(decide (a.1.Most = a.2.1.Most))) (some (false, ())) (some (true, ()))))))))
def E164 (f191 : Place × Place × Unit → Option (Bool × Unit)) : Env := envL [(191, mkE p191 r191 false f191)]
noncomputable def L164 (f191 : Place × Place × Unit → Option (Bool × Unit)) : LEnv (densS (muts p164 ++ r164)) := lenv []
theorem e164 (f191 : Place × Place × Unit → Option (Bool × Unit)) (a : densS p164) : runF (E164 f191) tab (fun _ => false) p164 r164 Proofs.Try.f164 (L164 f191) a = F164 f191 a := by kernel_rfl
theorem ok164 {f191 : Place × Place × Unit → Option (Bool × Unit)} (h191 : OK Proofs.Try.prog 191 (mkE p191 r191 false f191)) : OK Proofs.Try.prog 164 (mkE p164 r164 false (F164 f191)) :=
  fn_ok tab_ok (envL_ok (l := [(191, mkE p191 r191 false f191)]) (OKs.cons h191 OKs.nil)) mixed (ann := (fun _ => false)) (L := L164 f191) (fn := Proofs.Try.f164) (c := bodyC Proofs.Try.f164) (ls := []) Proofs.Try.func164 (by kernel_rfl) (by kernel_rfl) (by kernel_rfl) (by kernel_rfl)
    LoopsP.nil (e164 f191)
/-! laws.eqDeviceS -/
def p101 : List SP := [.one (.r .device), .one (.r .device)]
def r101 : List SP := [.one (.bool)]
def q101_0 : List SP := pat 27 0 [(0, .one (.r .device)), (1, .one (.r .device)), (5, .one (.int .i64))]
noncomputable def s101_0 (f164 : Device × Device × Unit → Option (Bool × Unit)) (t1 : List Device × List Device × Int × Unit) (rec K : List Device × List Device × Int × Unit → Option (Bool × Unit)) : Option (Bool × Unit) :=
  cond (decide (t1.2.2.1 < (Int.ofNat (List.length t1.1)))) (rdL t1.1 t1.2.2.1 fun d2 => rdL t1.2.1 t1.2.2.1 fun d3 => (f164 (d2, d3, ())).bind fun x4 => cond (!x4.1) (some (false, ())) (rec (t1.1, t1.2.1, (w64 (t1.2.2.1 + 1)), ()))) (K (t1.1, t1.2.1, t1.2.2.1, ()))
noncomputable def F101 (f164 : Device × Device × Unit → Option (Bool × Unit)) (a : List Device × List Device × Unit) : Option (Bool × Unit) :=
  cond (!(decide ((Int.ofNat (List.length a.1)) = (Int.ofNat (List.length a.2.1))))) (some (false, ())) (iterF (s101_0 f164) fuel (a.1, a.2.1, 0, ()) fun t5 => some (true, ()))
def E101 (f164 : Device × Device × Unit → Option (Bool × Unit)) : Env := envL [(164, mkE p164 r164 false f164)]
noncomputable def L101 (f164 : Device × Device × Unit → Option (Bool × Unit)) : LEnv (densS (muts p101 ++ r101)) := lenv [(0, loopL (R := densS (muts p101 ++ r101)) q101_0 (s101_0 f164))]
theorem e101_0 (f164 : Device × Device × Unit → Option (Bool × Unit)) (X : Nat → St → Option (densS (muts p101 ++ r101))) (rec K : densS q101_0 → Option (densS (muts p101 ++ r101))) (t : densS q101_0) :
    ev (E101 f164) tab (fun _ => false) (L101 f164) (retK tab p101 r101 Proofs.Try.f101.results.toList) (loopC Proofs.Try.f101 0) (fun i s => cond (Nat.beq i 0) (decK 100 q101_0 s K) (X i s)) (fun s => decK 100 q101_0 s rec) (enc q101_0 t) = s101_0 f164 t rec K := by kernel_rfl
theorem e101 (f164 : Device × Device × Unit → Option (Bool × Unit)) (a : densS p101) : runF (E101 f164) tab (fun _ => false) p101 r101 Proofs.Try.f101 (L101 f164) a = F101 f164 a := by kernel_rfl
theorem ok101 {f164 : Device × Device × Unit → Option (Bool × Unit)} (h164 : OK Proofs.Try.prog 164 (mkE p164 r164 false f164)) : OK Proofs.Try.prog 101 (mkE p101 r101 false (F101 f164)) :=
  fn_ok tab_ok (envL_ok (l := [(164, mkE p164 r164 false f164)]) (OKs.cons h164 OKs.nil)) mixed (ann := (fun _ => false)) (L := L101 f164) (fn := Proofs.Try.f101) (c := bodyC Proofs.Try.f101) (ls := [(0, loopC Proofs.Try.f101 0)]) Proofs.Try.func101 (by kernel_rfl) (by kernel_rfl) (by kernel_rfl) (by kernel_rfl)
    (LoopsP.cons q101_0 (s101_0 f164) rfl (e101_0 f164) LoopsP.nil) (e101 f164)
/-! laws.eqCue -/
def p165 : List SP := [.t .cue, .t .cue]
def r165 : List SP := [.one (.bool)]
noncomputable def F165 (a : Cue × Cue × Unit) : Option (Bool × Unit) :=
  cond (!(decide (a.1.Tick = a.2.1.Tick))) (some (false, ())) (cond (!decide (a.1.Name = a.2.1.Name)) (some (false, ())) (cond (!(decide (a.1.Level = a.2.1.Level))) (some (false, ())) (cond (!(decide (a.1.Ramp = a.2.1.Ramp))) (some (false, ())) (some (true, ())))))
def E165 : Env := envL []
noncomputable def L165 : LEnv (densS (muts p165 ++ r165)) := lenv []
theorem e165 (a : densS p165) : runF (E165) tab (fun _ => false) p165 r165 Proofs.Try.f165 (L165) a = F165 a := by kernel_rfl
theorem ok165 : OK Proofs.Try.prog 165 (mkE p165 r165 false (F165)) :=
  fn_ok tab_ok (envL_ok (l := []) OKs.nil) mixed (ann := (fun _ => false)) (L := L165) (fn := Proofs.Try.f165) (c := bodyC Proofs.Try.f165) (ls := []) Proofs.Try.func165 (by kernel_rfl) (by kernel_rfl) (by kernel_rfl) (by kernel_rfl)
    LoopsP.nil (e165)
/-! laws.eqCueS -/
def p102 : List SP := [.one (.r .cue), .one (.r .cue)]
def r102 : List SP := [.one (.bool)]
def q102_0 : List SP := pat 27 0 [(0, .one (.r .cue)), (1, .one (.r .cue)), (5, .one (.int .i64))]
noncomputable def s102_0 (f165 : Cue × Cue × Unit → Option (Bool × Unit)) (t1 : List Cue × List Cue × Int × Unit) (rec K : List Cue × List Cue × Int × Unit → Option (Bool × Unit)) : Option (Bool × Unit) :=
  cond (decide (t1.2.2.1 < (Int.ofNat (List.length t1.1)))) (rdL t1.1 t1.2.2.1 fun d2 => rdL t1.2.1 t1.2.2.1 fun d3 => (f165 (d2, d3, ())).bind fun x4 => cond (!x4.1) (some (false, ())) (rec (t1.1, t1.2.1, (w64 (t1.2.2.1 + 1)), ()))) (K (t1.1, t1.2.1, t1.2.2.1, ()))
noncomputable def F102 (f165 : Cue × Cue × Unit → Option (Bool × Unit)) (a : List Cue × List Cue × Unit) : Option (Bool × Unit) :=
  cond (!(decide ((Int.ofNat (List.length a.1)) = (Int.ofNat (List.length a.2.1))))) (some (false, ())) (iterF (s102_0 f165) fuel (a.1, a.2.1, 0, ()) fun t5 => some (true, ()))
def E102 (f165 : Cue × Cue × Unit → Option (Bool × Unit)) : Env := envL [(165, mkE p165 r165 false f165)]
noncomputable def L102 (f165 : Cue × Cue × Unit → Option (Bool × Unit)) : LEnv (densS (muts p102 ++ r102)) := lenv [(0, loopL (R := densS (muts p102 ++ r102)) q102_0 (s102_0 f165))]
theorem e102_0 (f165 : Cue × Cue × Unit → Option (Bool × Unit)) (X : Nat → St → Option (densS (muts p102 ++ r102))) (rec K : densS q102_0 → Option (densS (muts p102 ++ r102))) (t : densS q102_0) :
    ev (E102 f165) tab (fun _ => false) (L102 f165) (retK tab p102 r102 Proofs.Try.f102.results.toList) (loopC Proofs.Try.f102 0) (fun i s => cond (Nat.beq i 0) (decK 100 q102_0 s K) (X i s)) (fun s => decK 100 q102_0 s rec) (enc q102_0 t) = s102_0 f165 t rec K := by kernel_rfl
theorem e102 (f165 : Cue × Cue × Unit → Option (Bool × Unit)) (a : densS p102) : runF (E102 f165) tab (fun _ => false) p102 r102 Proofs.Try.f102 (L102 f165) a = F102 f165 a := by kernel_rfl
theorem ok102 {f165 : Cue × Cue × Unit → Option (Bool × Unit)} (h165 : OK Proofs.Try.prog 165 (mkE p165 r165 false f165)) : OK Proofs.Try.prog 102 (mkE p102 r102 false (F102 f165)) :=
  fn_ok tab_ok (envL_ok (l := [(165, mkE p165 r165 false f165)]) (OKs.cons h165 OKs.nil)) mixed (ann := (fun _ => false)) (L := L102 f165) (fn := Proofs.Try.f102) (c := bodyC Proofs.Try.f102) (ls := [(0, loopC Proofs.Try.f102 0)]) Proofs.Try.func102 (by kernel_rfl) (by kernel_rfl) (by kernel_rfl) (by kernel_rfl)
    (LoopsP.cons q102_0 (s102_0 f165) rfl (e102_0 f165) LoopsP.nil) (e102 f165)
/-! laws.eqGust -/
def p166 : List SP := [.t .gust, .t .gust]
def r166 : List SP := [.one (.bool)]
noncomputable def F166 (f191 : Place × Place × Unit → Option (Bool × Unit)) (a : Gust × Gust × Unit) : Option (Bool × Unit) :=
  cond (!(decide (a.1.From = a.2.1.From))) (some (false, ())) ((f191 (a.1.Drift, a.2.1.Drift, ())).bind fun x1 => cond (!x1.1) (some (false, ())) (some (true, ())))
def E166 (f191 : Place × Place × Unit → Option (Bool × Unit)) : Env := envL [(191, mkE p191 r191 false f191)]
noncomputable def L166 (f191 : Place × Place × Unit → Option (Bool × Unit)) : LEnv (densS (muts p166 ++ r166)) := lenv []
theorem e166 (f191 : Place × Place × Unit → Option (Bool × Unit)) (a : densS p166) : runF (E166 f191) tab (fun _ => false) p166 r166 Proofs.Try.f166 (L166 f191) a = F166 f191 a := by kernel_rfl
theorem ok166 {f191 : Place × Place × Unit → Option (Bool × Unit)} (h191 : OK Proofs.Try.prog 191 (mkE p191 r191 false f191)) : OK Proofs.Try.prog 166 (mkE p166 r166 false (F166 f191)) :=
  fn_ok tab_ok (envL_ok (l := [(191, mkE p191 r191 false f191)]) (OKs.cons h191 OKs.nil)) mixed (ann := (fun _ => false)) (L := L166 f191) (fn := Proofs.Try.f166) (c := bodyC Proofs.Try.f166) (ls := []) Proofs.Try.func166 (by kernel_rfl) (by kernel_rfl) (by kernel_rfl) (by kernel_rfl)
    LoopsP.nil (e166 f191)
/-! laws.eqGustS -/
def p103 : List SP := [.one (.r .gust), .one (.r .gust)]
def r103 : List SP := [.one (.bool)]
def q103_0 : List SP := pat 27 0 [(0, .one (.r .gust)), (1, .one (.r .gust)), (5, .one (.int .i64))]
noncomputable def s103_0 (f166 : Gust × Gust × Unit → Option (Bool × Unit)) (t1 : List Gust × List Gust × Int × Unit) (rec K : List Gust × List Gust × Int × Unit → Option (Bool × Unit)) : Option (Bool × Unit) :=
  cond (decide (t1.2.2.1 < (Int.ofNat (List.length t1.1)))) (rdL t1.1 t1.2.2.1 fun d2 => rdL t1.2.1 t1.2.2.1 fun d3 => (f166 (d2, d3, ())).bind fun x4 => cond (!x4.1) (some (false, ())) (rec (t1.1, t1.2.1, (w64 (t1.2.2.1 + 1)), ()))) (K (t1.1, t1.2.1, t1.2.2.1, ()))
noncomputable def F103 (f166 : Gust × Gust × Unit → Option (Bool × Unit)) (a : List Gust × List Gust × Unit) : Option (Bool × Unit) :=
  cond (!(decide ((Int.ofNat (List.length a.1)) = (Int.ofNat (List.length a.2.1))))) (some (false, ())) (iterF (s103_0 f166) fuel (a.1, a.2.1, 0, ()) fun t5 => some (true, ()))
def E103 (f166 : Gust × Gust × Unit → Option (Bool × Unit)) : Env := envL [(166, mkE p166 r166 false f166)]
noncomputable def L103 (f166 : Gust × Gust × Unit → Option (Bool × Unit)) : LEnv (densS (muts p103 ++ r103)) := lenv [(0, loopL (R := densS (muts p103 ++ r103)) q103_0 (s103_0 f166))]
theorem e103_0 (f166 : Gust × Gust × Unit → Option (Bool × Unit)) (X : Nat → St → Option (densS (muts p103 ++ r103))) (rec K : densS q103_0 → Option (densS (muts p103 ++ r103))) (t : densS q103_0) :
    ev (E103 f166) tab (fun _ => false) (L103 f166) (retK tab p103 r103 Proofs.Try.f103.results.toList) (loopC Proofs.Try.f103 0) (fun i s => cond (Nat.beq i 0) (decK 100 q103_0 s K) (X i s)) (fun s => decK 100 q103_0 s rec) (enc q103_0 t) = s103_0 f166 t rec K := by kernel_rfl
theorem e103 (f166 : Gust × Gust × Unit → Option (Bool × Unit)) (a : densS p103) : runF (E103 f166) tab (fun _ => false) p103 r103 Proofs.Try.f103 (L103 f166) a = F103 f166 a := by kernel_rfl
theorem ok103 {f166 : Gust × Gust × Unit → Option (Bool × Unit)} (h166 : OK Proofs.Try.prog 166 (mkE p166 r166 false f166)) : OK Proofs.Try.prog 103 (mkE p103 r103 false (F103 f166)) :=
  fn_ok tab_ok (envL_ok (l := [(166, mkE p166 r166 false f166)]) (OKs.cons h166 OKs.nil)) mixed (ann := (fun _ => false)) (L := L103 f166) (fn := Proofs.Try.f103) (c := bodyC Proofs.Try.f103) (ls := [(0, loopC Proofs.Try.f103 0)]) Proofs.Try.func103 (by kernel_rfl) (by kernel_rfl) (by kernel_rfl) (by kernel_rfl)
    (LoopsP.cons q103_0 (s103_0 f166) rfl (e103_0 f166) LoopsP.nil) (e103 f166)
/-! laws.eqShow -/
def p45 : List SP := [.agg [.r .device, .r .cue, .r .gust, .int .i64], .agg [.r .device, .r .cue, .r .gust, .int .i64]]
def r45 : List SP := [.one (.bool)]
noncomputable def F45 (f101 : List Device × List Device × Unit → Option (Bool × Unit)) (f102 : List Cue × List Cue × Unit → Option (Bool × Unit)) (f103 : List Gust × List Gust × Unit → Option (Bool × Unit)) (a : ShD × ShD × Unit) : Option (Bool × Unit) :=
  (f101 (a.1.1, a.2.1.1, ())).bind fun x1 => cond (!x1.1) (some (false, ())) ((f102 (a.1.2.1, a.2.1.2.1, ())).bind fun x2 => cond (!x2.1) (some (false, ())) ((f103 (a.1.2.2.1, a.2.1.2.2.1, ())).bind fun x3 => cond (!x3.1) (some (false, ())) (cond (!(decide (a.1.2.2.2.1 = a.2.1.2.2.2.1))) (some (false, ())) (some (true, ())))))
def E45 (f101 : List Device × List Device × Unit → Option (Bool × Unit)) (f102 : List Cue × List Cue × Unit → Option (Bool × Unit)) (f103 : List Gust × List Gust × Unit → Option (Bool × Unit)) : Env := envL [(101, mkE p101 r101 false f101), (102, mkE p102 r102 false f102), (103, mkE p103 r103 false f103)]
noncomputable def L45 (f101 : List Device × List Device × Unit → Option (Bool × Unit)) (f102 : List Cue × List Cue × Unit → Option (Bool × Unit)) (f103 : List Gust × List Gust × Unit → Option (Bool × Unit)) : LEnv (densS (muts p45 ++ r45)) := lenv []
theorem e45 (f101 : List Device × List Device × Unit → Option (Bool × Unit)) (f102 : List Cue × List Cue × Unit → Option (Bool × Unit)) (f103 : List Gust × List Gust × Unit → Option (Bool × Unit)) (a : densS p45) : runF (E45 f101 f102 f103) tab (fun _ => false) p45 r45 Proofs.Try.f45 (L45 f101 f102 f103) a = F45 f101 f102 f103 a := by kernel_rfl
theorem ok45 {f101 : List Device × List Device × Unit → Option (Bool × Unit)} {f102 : List Cue × List Cue × Unit → Option (Bool × Unit)} {f103 : List Gust × List Gust × Unit → Option (Bool × Unit)} (h101 : OK Proofs.Try.prog 101 (mkE p101 r101 false f101)) (h102 : OK Proofs.Try.prog 102 (mkE p102 r102 false f102)) (h103 : OK Proofs.Try.prog 103 (mkE p103 r103 false f103)) : OK Proofs.Try.prog 45 (mkE p45 r45 false (F45 f101 f102 f103)) :=
  fn_ok tab_ok (envL_ok (l := [(101, mkE p101 r101 false f101), (102, mkE p102 r102 false f102), (103, mkE p103 r103 false f103)]) (OKs.cons h101 (OKs.cons h102 (OKs.cons h103 OKs.nil)))) mixed (ann := (fun _ => false)) (L := L45 f101 f102 f103) (fn := Proofs.Try.f45) (c := bodyC Proofs.Try.f45) (ls := []) Proofs.Try.func45 (by kernel_rfl) (by kernel_rfl) (by kernel_rfl) (by kernel_rfl)
    LoopsP.nil (e45 f101 f102 f103)
/-! laws.markText -/
def p167 : List SP := [.one (.int .i64)]
def r167 : List SP := [.one (.str)]
def q167_0 : List SP := pat 20 0 [(0, .one (.int .i64)), (3, .one (.str))]
noncomputable def s167_0 (t1 : Int × Str × Unit) (rec K : Int × Str × Unit → Option (Str × Unit)) : Option (Str × Unit) :=
  cond (decide (t1.1 > 0)) (capK (List.length (List.map (fun n => UInt8.ofNat (Int.toNat n)) ([(IntKind.wrap .u8 (w64 (48 + (Int.tmod t1.1 10))))] : List Int)) + List.length t1.2.1) (rec ((w64 (Int.tdiv t1.1 10)), ((List.map (fun n => UInt8.ofNat (Int.toNat n)) ([(IntKind.wrap .u8 (w64 (48 + (Int.tmod t1.1 10))))] : List Int)) ++ t1.2.1), ()))) (K (t1.1, t1.2.1, ()))
noncomputable def F167 (a : Int × Unit) : Option (Str × Unit) :=
  cond (decide (a.1 ≤ 0)) (some ([109, 48], ())) (iterF (s167_0) fuel (a.1, [], ()) fun t2 => capK (List.length [109] + List.length t2.2.1) (some (([109] ++ t2.2.1), ())))
def E167 : Env := envL []
noncomputable def L167 : LEnv (densS (muts p167 ++ r167)) := lenv [(0, loopL (R := densS (muts p167 ++ r167)) q167_0 (s167_0))]
theorem e167_0 (X : Nat → St → Option (densS (muts p167 ++ r167))) (rec K : densS q167_0 → Option (densS (muts p167 ++ r167))) (t : densS q167_0) :
    ev (E167) tab (fun _ => false) (L167) (retK tab p167 r167 Proofs.Try.f167.results.toList) (loopC Proofs.Try.f167 0) (fun i s => cond (Nat.beq i 0) (decK 100 q167_0 s K) (X i s)) (fun s => decK 100 q167_0 s rec) (enc q167_0 t) = s167_0 t rec K := by kernel_rfl
theorem e167 (a : densS p167) : runF (E167) tab (fun _ => false) p167 r167 Proofs.Try.f167 (L167) a = F167 a := by kernel_rfl
theorem ok167 : OK Proofs.Try.prog 167 (mkE p167 r167 false (F167)) :=
  fn_ok tab_ok (envL_ok (l := []) OKs.nil) mixed (ann := (fun _ => false)) (L := L167) (fn := Proofs.Try.f167) (c := bodyC Proofs.Try.f167) (ls := [(0, loopC Proofs.Try.f167 0)]) Proofs.Try.func167 (by kernel_rfl) (by kernel_rfl) (by kernel_rfl) (by kernel_rfl)
    (LoopsP.cons q167_0 (s167_0) rfl (e167_0) LoopsP.nil) (e167)
/-! laws.markDeviceS -/
def p104 : List SP := [.one (.o 0 .device), .one (.int .i64)]
def r104 : List SP := [.one (.int .i64)]
def q104_0 : List SP := pat 73 0 [(0, .one (.o 0 .device)), (1, .one (.int .i64)), (5, .one (.int .i64))]
noncomputable def s104_0 (f167 : Int × Unit → Option (Str × Unit)) (t1 : List Device × Int × Int × Unit) (rec K : List Device × Int × Int × Unit → Option (List Device × Int × Unit)) : Option (List Device × Int × Unit) :=
  cond (decide (t1.2.2.1 < (Int.ofNat (List.length t1.1)))) ((f167 (t1.2.1, ())).bind fun x2 => rdL t1.1 t1.2.2.1 fun _ => (t1.1[(Int.toNat t1.2.2.1)]?).bind fun d3 => rdL (List.set t1.1 (Int.toNat t1.2.2.1) (⟨x2.1, d3.Kind, d3.Line, ⟨d3.At.X, d3.At.Y⟩, d3.Heading, d3.Tilt, d3.Most⟩ : Device)) t1.2.2.1 fun _ => ((List.set t1.1 (Int.toNat t1.2.2.1) (⟨x2.1, d3.Kind, d3.Line, ⟨d3.At.X, d3.At.Y⟩, d3.Heading, d3.Tilt, d3.Most⟩ : Device))[(Int.toNat t1.2.2.1)]?).bind fun d4 => (f167 ((w64 ((w64 (t1.2.1 + 1)) + 1)), ())).bind fun x5 => rdL (List.set (List.set t1.1 (Int.toNat t1.2.2.1) (⟨x2.1, d3.Kind, d3.Line, ⟨d3.At.X, d3.At.Y⟩, d3.Heading, d3.Tilt, d3.Most⟩ : Device)) (Int.toNat t1.2.2.1) (⟨d4.Name, (w64 (t1.2.1 + 1)), d4.Line, ⟨d4.At.X, d4.At.Y⟩, d4.Heading, d4.Tilt, d4.Most⟩ : Device)) t1.2.2.1 fun _ => ((List.set (List.set t1.1 (Int.toNat t1.2.2.1) (⟨x2.1, d3.Kind, d3.Line, ⟨d3.At.X, d3.At.Y⟩, d3.Heading, d3.Tilt, d3.Most⟩ : Device)) (Int.toNat t1.2.2.1) (⟨d4.Name, (w64 (t1.2.1 + 1)), d4.Line, ⟨d4.At.X, d4.At.Y⟩, d4.Heading, d4.Tilt, d4.Most⟩ : Device))[(Int.toNat t1.2.2.1)]?).bind fun d6 => rdL (List.set (List.set (List.set t1.1 (Int.toNat t1.2.2.1) (⟨x2.1, d3.Kind, d3.Line, ⟨d3.At.X, d3.At.Y⟩, d3.Heading, d3.Tilt, d3.Most⟩ : Device)) (Int.toNat t1.2.2.1) (⟨d4.Name, (w64 (t1.2.1 + 1)), d4.Line, ⟨d4.At.X, d4.At.Y⟩, d4.Heading, d4.Tilt, d4.Most⟩ : Device)) (Int.toNat t1.2.2.1) (⟨d6.Name, d6.Kind, x5.1, ⟨d6.At.X, d6.At.Y⟩, d6.Heading, d6.Tilt, d6.Most⟩ : Device)) t1.2.2.1 fun _ => ((List.set (List.set (List.set t1.1 (Int.toNat t1.2.2.1) (⟨x2.1, d3.Kind, d3.Line, ⟨d3.At.X, d3.At.Y⟩, d3.Heading, d3.Tilt, d3.Most⟩ : Device)) (Int.toNat t1.2.2.1) (⟨d4.Name, (w64 (t1.2.1 + 1)), d4.Line, ⟨d4.At.X, d4.At.Y⟩, d4.Heading, d4.Tilt, d4.Most⟩ : Device)) (Int.toNat t1.2.2.1) (⟨d6.Name, d6.Kind, x5.1, ⟨d6.At.X, d6.At.Y⟩, d6.Heading, d6.Tilt, d6.Most⟩ : Device))[(Int.toNat t1.2.2.1)]?).bind fun d7 => rdL (List.set (List.set (List.set (List.set t1.1 (Int.toNat t1.2.2.1) (⟨x2.1, d3.Kind, d3.Line, ⟨d3.At.X, d3.At.Y⟩, d3.Heading, d3.Tilt, d3.Most⟩ : Device)) (Int.toNat t1.2.2.1) (⟨d4.Name, (w64 (t1.2.1 + 1)), d4.Line, ⟨d4.At.X, d4.At.Y⟩, d4.Heading, d4.Tilt, d4.Most⟩ : Device)) (Int.toNat t1.2.2.1) (⟨d6.Name, d6.Kind, x5.1, ⟨d6.At.X, d6.At.Y⟩, d6.Heading, d6.Tilt, d6.Most⟩ : Device)) (Int.toNat t1.2.2.1) (⟨d7.Name, d7.Kind, d7.Line, ⟨(w64 ((w64 ((w64 (t1.2.1 + 1)) + 1)) + 1)), d7.At.Y⟩, d7.Heading, d7.Tilt, d7.Most⟩ : Device)) t1.2.2.1 fun _ => ((List.set (List.set (List.set (List.set t1.1 (Int.toNat t1.2.2.1) (⟨x2.1, d3.Kind, d3.Line, ⟨d3.At.X, d3.At.Y⟩, d3.Heading, d3.Tilt, d3.Most⟩ : Device)) (Int.toNat t1.2.2.1) (⟨d4.Name, (w64 (t1.2.1 + 1)), d4.Line, ⟨d4.At.X, d4.At.Y⟩, d4.Heading, d4.Tilt, d4.Most⟩ : Device)) (Int.toNat t1.2.2.1) (⟨d6.Name, d6.Kind, x5.1, ⟨d6.At.X, d6.At.Y⟩, d6.Heading, d6.Tilt, d6.Most⟩ : Device)) (Int.toNat t1.2.2.1) (⟨d7.Name, d7.Kind, d7.Line, ⟨(w64 ((w64 ((w64 (t1.2.1 + 1)) + 1)) + 1)), d7.At.Y⟩, d7.Heading, d7.Tilt, d7.Most⟩ : Device))[(Int.toNat t1.2.2.1)]?).bind fun d8 => rdL (List.set (List.set (List.set (List.set (List.set t1.1 (Int.toNat t1.2.2.1) (⟨x2.1, d3.Kind, d3.Line, ⟨d3.At.X, d3.At.Y⟩, d3.Heading, d3.Tilt, d3.Most⟩ : Device)) (Int.toNat t1.2.2.1) (⟨d4.Name, (w64 (t1.2.1 + 1)), d4.Line, ⟨d4.At.X, d4.At.Y⟩, d4.Heading, d4.Tilt, d4.Most⟩ : Device)) (Int.toNat t1.2.2.1) (⟨d6.Name, d6.Kind, x5.1, ⟨d6.At.X, d6.At.Y⟩, d6.Heading, d6.Tilt, d6.Most⟩ : Device)) (Int.toNat t1.2.2.1) (⟨d7.Name, d7.Kind, d7.Line, ⟨(w64 ((w64 ((w64 (t1.2.1 + 1)) + 1)) + 1)), d7.At.Y⟩, d7.Heading, d7.Tilt, d7.Most⟩ : Device)) (Int.toNat t1.2.2.1) (⟨d8.Name, d8.Kind, d8.Line, ⟨d8.At.X, (w64 ((w64 ((w64 ((w64 (t1.2.1 + 1)) + 1)) + 1)) + 1))⟩, d8.Heading, d8.Tilt, d8.Most⟩ : Device)) t1.2.2.1 fun _ => ((List.set (List.set (List.set (List.set (List.set t1.1 (Int.toNat t1.2.2.1) (⟨x2.1, d3.Kind, d3.Line, ⟨d3.At.X, d3.At.Y⟩, d3.Heading, d3.Tilt, d3.Most⟩ : Device)) (Int.toNat t1.2.2.1) (⟨d4.Name, (w64 (t1.2.1 + 1)), d4.Line, ⟨d4.At.X, d4.At.Y⟩, d4.Heading, d4.Tilt, d4.Most⟩ : Device)) (Int.toNat t1.2.2.1) (⟨d6.Name, d6.Kind, x5.1, ⟨d6.At.X, d6.At.Y⟩, d6.Heading, d6.Tilt, d6.Most⟩ : Device)) (Int.toNat t1.2.2.1) (⟨d7.Name, d7.Kind, d7.Line, ⟨(w64 ((w64 ((w64 (t1.2.1 + 1)) + 1)) + 1)), d7.At.Y⟩, d7.Heading, d7.Tilt, d7.Most⟩ : Device)) (Int.toNat t1.2.2.1) (⟨d8.Name, d8.Kind, d8.Line, ⟨d8.At.X, (w64 ((w64 ((w64 ((w64 (t1.2.1 + 1)) + 1)) + 1)) + 1))⟩, d8.Heading, d8.Tilt, d8.Most⟩ : Device))[(Int.toNat t1.2.2.1)]?).bind fun d9 => rdL (List.set (List.set (List.set (List.set (List.set (List.set t1.1 (Int.toNat t1.2.2.1) (⟨x2.1, d3.Kind, d3.Line, ⟨d3.At.X, d3.At.Y⟩, d3.Heading, d3.Tilt, d3.Most⟩ : Device)) (Int.toNat t1.2.2.1) (⟨d4.Name, (w64 (t1.2.1 + 1)), d4.Line, ⟨d4.At.X, d4.At.Y⟩, d4.Heading, d4.Tilt, d4.Most⟩ : Device)) (Int.toNat t1.2.2.1) (⟨d6.Name, d6.Kind, x5.1, ⟨d6.At.X, d6.At.Y⟩, d6.Heading, d6.Tilt, d6.Most⟩ : Device)) (Int.toNat t1.2.2.1) (⟨d7.Name, d7.Kind, d7.Line, ⟨(w64 ((w64 ((w64 (t1.2.1 + 1)) + 1)) + 1)), d7.At.Y⟩, d7.Heading, d7.Tilt, d7.Most⟩ : Device)) (Int.toNat t1.2.2.1) (⟨d8.Name, d8.Kind, d8.Line, ⟨d8.At.X, (w64 ((w64 ((w64 ((w64 (t1.2.1 + 1)) + 1)) + 1)) + 1))⟩, d8.Heading, d8.Tilt, d8.Most⟩ : Device)) (Int.toNat t1.2.2.1) (⟨d9.Name, d9.Kind, d9.Line, ⟨d9.At.X, d9.At.Y⟩, (w64 ((w64 ((w64 ((w64 ((w64 (t1.2.1 + 1)) + 1)) + 1)) + 1)) + 1)), d9.Tilt, d9.Most⟩ : Device)) t1.2.2.1 fun _ => ((List.set (List.set (List.set (List.set (List.set (List.set t1.1 (Int.toNat t1.2.2.1) (⟨x2.1, d3.Kind, d3.Line, ⟨d3.At.X, d3.At.Y⟩, d3.Heading, d3.Tilt, d3.Most⟩ : Device)) (Int.toNat t1.2.2.1) (⟨d4.Name, (w64 (t1.2.1 + 1)), d4.Line, ⟨d4.At.X, d4.At.Y⟩, d4.Heading, d4.Tilt, d4.Most⟩ : Device)) (Int.toNat t1.2.2.1) (⟨d6.Name, d6.Kind, x5.1, ⟨d6.At.X, d6.At.Y⟩, d6.Heading, d6.Tilt, d6.Most⟩ : Device)) (Int.toNat t1.2.2.1) (⟨d7.Name, d7.Kind, d7.Line, ⟨(w64 ((w64 ((w64 (t1.2.1 + 1)) + 1)) + 1)), d7.At.Y⟩, d7.Heading, d7.Tilt, d7.Most⟩ : Device)) (Int.toNat t1.2.2.1) (⟨d8.Name, d8.Kind, d8.Line, ⟨d8.At.X, (w64 ((w64 ((w64 ((w64 (t1.2.1 + 1)) + 1)) + 1)) + 1))⟩, d8.Heading, d8.Tilt, d8.Most⟩ : Device)) (Int.toNat t1.2.2.1) (⟨d9.Name, d9.Kind, d9.Line, ⟨d9.At.X, d9.At.Y⟩, (w64 ((w64 ((w64 ((w64 ((w64 (t1.2.1 + 1)) + 1)) + 1)) + 1)) + 1)), d9.Tilt, d9.Most⟩ : Device))[(Int.toNat t1.2.2.1)]?).bind fun d10 => rdL (List.set (List.set (List.set (List.set (List.set (List.set (List.set t1.1 (Int.toNat t1.2.2.1) (⟨x2.1, d3.Kind, d3.Line, ⟨d3.At.X, d3.At.Y⟩, d3.Heading, d3.Tilt, d3.Most⟩ : Device)) (Int.toNat t1.2.2.1) (⟨d4.Name, (w64 (t1.2.1 + 1)), d4.Line, ⟨d4.At.X, d4.At.Y⟩, d4.Heading, d4.Tilt, d4.Most⟩ : Device)) (Int.toNat t1.2.2.1) (⟨d6.Name, d6.Kind, x5.1, ⟨d6.At.X, d6.At.Y⟩, d6.Heading, d6.Tilt, d6.Most⟩ : Device)) (Int.toNat t1.2.2.1) (⟨d7.Name, d7.Kind, d7.Line, ⟨(w64 ((w64 ((w64 (t1.2.1 + 1)) + 1)) + 1)), d7.At.Y⟩, d7.Heading, d7.Tilt, d7.Most⟩ : Device)) (Int.toNat t1.2.2.1) (⟨d8.Name, d8.Kind, d8.Line, ⟨d8.At.X, (w64 ((w64 ((w64 ((w64 (t1.2.1 + 1)) + 1)) + 1)) + 1))⟩, d8.Heading, d8.Tilt, d8.Most⟩ : Device)) (Int.toNat t1.2.2.1) (⟨d9.Name, d9.Kind, d9.Line, ⟨d9.At.X, d9.At.Y⟩, (w64 ((w64 ((w64 ((w64 ((w64 (t1.2.1 + 1)) + 1)) + 1)) + 1)) + 1)), d9.Tilt, d9.Most⟩ : Device)) (Int.toNat t1.2.2.1) (⟨d10.Name, d10.Kind, d10.Line, ⟨d10.At.X, d10.At.Y⟩, d10.Heading, (w64 ((w64 ((w64 ((w64 ((w64 ((w64 (t1.2.1 + 1)) + 1)) + 1)) + 1)) + 1)) + 1)), d10.Most⟩ : Device)) t1.2.2.1 fun _ => ((List.set (List.set (List.set (List.set (List.set (List.set (List.set t1.1 (Int.toNat t1.2.2.1) (⟨x2.1, d3.Kind, d3.Line, ⟨d3.At.X, d3.At.Y⟩, d3.Heading, d3.Tilt, d3.Most⟩ : Device)) (Int.toNat t1.2.2.1) (⟨d4.Name, (w64 (t1.2.1 + 1)), d4.Line, ⟨d4.At.X, d4.At.Y⟩, d4.Heading, d4.Tilt, d4.Most⟩ : Device)) (Int.toNat t1.2.2.1) (⟨d6.Name, d6.Kind, x5.1, ⟨d6.At.X, d6.At.Y⟩, d6.Heading, d6.Tilt, d6.Most⟩ : Device)) (Int.toNat t1.2.2.1) (⟨d7.Name, d7.Kind, d7.Line, ⟨(w64 ((w64 ((w64 (t1.2.1 + 1)) + 1)) + 1)), d7.At.Y⟩, d7.Heading, d7.Tilt, d7.Most⟩ : Device)) (Int.toNat t1.2.2.1) (⟨d8.Name, d8.Kind, d8.Line, ⟨d8.At.X, (w64 ((w64 ((w64 ((w64 (t1.2.1 + 1)) + 1)) + 1)) + 1))⟩, d8.Heading, d8.Tilt, d8.Most⟩ : Device)) (Int.toNat t1.2.2.1) (⟨d9.Name, d9.Kind, d9.Line, ⟨d9.At.X, d9.At.Y⟩, (w64 ((w64 ((w64 ((w64 ((w64 (t1.2.1 + 1)) + 1)) + 1)) + 1)) + 1)), d9.Tilt, d9.Most⟩ : Device)) (Int.toNat t1.2.2.1) (⟨d10.Name, d10.Kind, d10.Line, ⟨d10.At.X, d10.At.Y⟩, d10.Heading, (w64 ((w64 ((w64 ((w64 ((w64 ((w64 (t1.2.1 + 1)) + 1)) + 1)) + 1)) + 1)) + 1)), d10.Most⟩ : Device))[(Int.toNat t1.2.2.1)]?).bind fun d11 => rec ((List.set (List.set (List.set (List.set (List.set (List.set (List.set (List.set t1.1 (Int.toNat t1.2.2.1) (⟨x2.1, d3.Kind, d3.Line, ⟨d3.At.X, d3.At.Y⟩, d3.Heading, d3.Tilt, d3.Most⟩ : Device)) (Int.toNat t1.2.2.1) (⟨d4.Name, (w64 (t1.2.1 + 1)), d4.Line, ⟨d4.At.X, d4.At.Y⟩, d4.Heading, d4.Tilt, d4.Most⟩ : Device)) (Int.toNat t1.2.2.1) (⟨d6.Name, d6.Kind, x5.1, ⟨d6.At.X, d6.At.Y⟩, d6.Heading, d6.Tilt, d6.Most⟩ : Device)) (Int.toNat t1.2.2.1) (⟨d7.Name, d7.Kind, d7.Line, ⟨(w64 ((w64 ((w64 (t1.2.1 + 1)) + 1)) + 1)), d7.At.Y⟩, d7.Heading, d7.Tilt, d7.Most⟩ : Device)) (Int.toNat t1.2.2.1) (⟨d8.Name, d8.Kind, d8.Line, ⟨d8.At.X, (w64 ((w64 ((w64 ((w64 (t1.2.1 + 1)) + 1)) + 1)) + 1))⟩, d8.Heading, d8.Tilt, d8.Most⟩ : Device)) (Int.toNat t1.2.2.1) (⟨d9.Name, d9.Kind, d9.Line, ⟨d9.At.X, d9.At.Y⟩, (w64 ((w64 ((w64 ((w64 ((w64 (t1.2.1 + 1)) + 1)) + 1)) + 1)) + 1)), d9.Tilt, d9.Most⟩ : Device)) (Int.toNat t1.2.2.1) (⟨d10.Name, d10.Kind, d10.Line, ⟨d10.At.X, d10.At.Y⟩, d10.Heading, (w64 ((w64 ((w64 ((w64 ((w64 ((w64 (t1.2.1 + 1)) + 1)) + 1)) + 1)) + 1)) + 1)), d10.Most⟩ : Device)) (Int.toNat t1.2.2.1) (⟨d11.Name, d11.Kind, d11.Line, ⟨d11.At.X, d11.At.Y⟩, d11.Heading, d11.Tilt, (w64 ((w64 ((w64 ((w64 ((w64 ((w64 ((w64 (t1.2.1 + 1)) + 1)) + 1)) + 1)) + 1)) + 1)) + 1))⟩ : Device)), (w64 ((w64 ((w64 ((w64 ((w64 ((w64 ((w64 ((w64 (t1.2.1 + 1)) + 1)) + 1)) + 1)) + 1)) + 1)) + 1)) + 1)), (w64 (t1.2.2.1 + 1)), ())) (K (t1.1, t1.2.1, t1.2.2.1, ()))
noncomputable def F104 (f167 : Int × Unit → Option (Str × Unit)) (a : List Device × Int × Unit) : Option (List Device × Int × Unit) :=
  iterF (s104_0 f167) fuel (a.1, a.2.1, 0, ()) fun t12 => some (t12.1, t12.2.1, ())
def E104 (f167 : Int × Unit → Option (Str × Unit)) : Env := envL [(167, mkE p167 r167 false f167)]
noncomputable def L104 (f167 : Int × Unit → Option (Str × Unit)) : LEnv (densS (muts p104 ++ r104)) := lenv [(0, loopL (R := densS (muts p104 ++ r104)) q104_0 (s104_0 f167))]
theorem e104_0 (f167 : Int × Unit → Option (Str × Unit)) (X : Nat → St → Option (densS (muts p104 ++ r104))) (rec K : densS q104_0 → Option (densS (muts p104 ++ r104))) (t : densS q104_0) :
    ev (E104 f167) tab (fun _ => false) (L104 f167) (retK tab p104 r104 Proofs.Try.f104.results.toList) (loopC Proofs.Try.f104 0) (fun i s => cond (Nat.beq i 0) (decK 100 q104_0 s K) (X i s)) (fun s => decK 100 q104_0 s rec) (enc q104_0 t) = s104_0 f167 t rec K := by kernel_rfl
theorem e104 (f167 : Int × Unit → Option (Str × Unit)) (a : densS p104) : runF (E104 f167) tab (fun _ => false) p104 r104 Proofs.Try.f104 (L104 f167) a = F104 f167 a := by kernel_rfl
theorem ok104 {f167 : Int × Unit → Option (Str × Unit)} (h167 : OK Proofs.Try.prog 167 (mkE p167 r167 false f167)) : OK Proofs.Try.prog 104 (mkE p104 r104 false (F104 f167)) :=
  fn_ok tab_ok (envL_ok (l := [(167, mkE p167 r167 false f167)]) (OKs.cons h167 OKs.nil)) mixed (ann := (fun _ => false)) (L := L104 f167) (fn := Proofs.Try.f104) (c := bodyC Proofs.Try.f104) (ls := [(0, loopC Proofs.Try.f104 0)]) Proofs.Try.func104 (by kernel_rfl) (by kernel_rfl) (by kernel_rfl) (by kernel_rfl)
    (LoopsP.cons q104_0 (s104_0 f167) rfl (e104_0 f167) LoopsP.nil) (e104 f167)
/-! laws.markCueS -/
def p105 : List SP := [.one (.o 0 .cue), .one (.int .i64)]
def r105 : List SP := [.one (.int .i64)]
def q105_0 : List SP := pat 42 0 [(0, .one (.o 0 .cue)), (1, .one (.int .i64)), (5, .one (.int .i64))]
noncomputable def s105_0 (f167 : Int × Unit → Option (Str × Unit)) (t1 : List Cue × Int × Int × Unit) (rec K : List Cue × Int × Int × Unit → Option (List Cue × Int × Unit)) : Option (List Cue × Int × Unit) :=
  cond (decide (t1.2.2.1 < (Int.ofNat (List.length t1.1)))) (rdL t1.1 t1.2.2.1 fun _ => (t1.1[(Int.toNat t1.2.2.1)]?).bind fun d2 => (f167 ((w64 (t1.2.1 + 1)), ())).bind fun x3 => rdL (List.set t1.1 (Int.toNat t1.2.2.1) (⟨t1.2.1, d2.Name, d2.Level, d2.Ramp⟩ : Cue)) t1.2.2.1 fun _ => ((List.set t1.1 (Int.toNat t1.2.2.1) (⟨t1.2.1, d2.Name, d2.Level, d2.Ramp⟩ : Cue))[(Int.toNat t1.2.2.1)]?).bind fun d4 => rdL (List.set (List.set t1.1 (Int.toNat t1.2.2.1) (⟨t1.2.1, d2.Name, d2.Level, d2.Ramp⟩ : Cue)) (Int.toNat t1.2.2.1) (⟨d4.Tick, x3.1, d4.Level, d4.Ramp⟩ : Cue)) t1.2.2.1 fun _ => ((List.set (List.set t1.1 (Int.toNat t1.2.2.1) (⟨t1.2.1, d2.Name, d2.Level, d2.Ramp⟩ : Cue)) (Int.toNat t1.2.2.1) (⟨d4.Tick, x3.1, d4.Level, d4.Ramp⟩ : Cue))[(Int.toNat t1.2.2.1)]?).bind fun d5 => rdL (List.set (List.set (List.set t1.1 (Int.toNat t1.2.2.1) (⟨t1.2.1, d2.Name, d2.Level, d2.Ramp⟩ : Cue)) (Int.toNat t1.2.2.1) (⟨d4.Tick, x3.1, d4.Level, d4.Ramp⟩ : Cue)) (Int.toNat t1.2.2.1) (⟨d5.Tick, d5.Name, (w64 ((w64 (t1.2.1 + 1)) + 1)), d5.Ramp⟩ : Cue)) t1.2.2.1 fun _ => ((List.set (List.set (List.set t1.1 (Int.toNat t1.2.2.1) (⟨t1.2.1, d2.Name, d2.Level, d2.Ramp⟩ : Cue)) (Int.toNat t1.2.2.1) (⟨d4.Tick, x3.1, d4.Level, d4.Ramp⟩ : Cue)) (Int.toNat t1.2.2.1) (⟨d5.Tick, d5.Name, (w64 ((w64 (t1.2.1 + 1)) + 1)), d5.Ramp⟩ : Cue))[(Int.toNat t1.2.2.1)]?).bind fun d6 => rec ((List.set (List.set (List.set (List.set t1.1 (Int.toNat t1.2.2.1) (⟨t1.2.1, d2.Name, d2.Level, d2.Ramp⟩ : Cue)) (Int.toNat t1.2.2.1) (⟨d4.Tick, x3.1, d4.Level, d4.Ramp⟩ : Cue)) (Int.toNat t1.2.2.1) (⟨d5.Tick, d5.Name, (w64 ((w64 (t1.2.1 + 1)) + 1)), d5.Ramp⟩ : Cue)) (Int.toNat t1.2.2.1) (⟨d6.Tick, d6.Name, d6.Level, (w64 ((w64 ((w64 (t1.2.1 + 1)) + 1)) + 1))⟩ : Cue)), (w64 ((w64 ((w64 ((w64 (t1.2.1 + 1)) + 1)) + 1)) + 1)), (w64 (t1.2.2.1 + 1)), ())) (K (t1.1, t1.2.1, t1.2.2.1, ()))
noncomputable def F105 (f167 : Int × Unit → Option (Str × Unit)) (a : List Cue × Int × Unit) : Option (List Cue × Int × Unit) :=
  iterF (s105_0 f167) fuel (a.1, a.2.1, 0, ()) fun t7 => some (t7.1, t7.2.1, ())
def E105 (f167 : Int × Unit → Option (Str × Unit)) : Env := envL [(167, mkE p167 r167 false f167)]
noncomputable def L105 (f167 : Int × Unit → Option (Str × Unit)) : LEnv (densS (muts p105 ++ r105)) := lenv [(0, loopL (R := densS (muts p105 ++ r105)) q105_0 (s105_0 f167))]
theorem e105_0 (f167 : Int × Unit → Option (Str × Unit)) (X : Nat → St → Option (densS (muts p105 ++ r105))) (rec K : densS q105_0 → Option (densS (muts p105 ++ r105))) (t : densS q105_0) :
    ev (E105 f167) tab (fun _ => false) (L105 f167) (retK tab p105 r105 Proofs.Try.f105.results.toList) (loopC Proofs.Try.f105 0) (fun i s => cond (Nat.beq i 0) (decK 100 q105_0 s K) (X i s)) (fun s => decK 100 q105_0 s rec) (enc q105_0 t) = s105_0 f167 t rec K := by kernel_rfl
theorem e105 (f167 : Int × Unit → Option (Str × Unit)) (a : densS p105) : runF (E105 f167) tab (fun _ => false) p105 r105 Proofs.Try.f105 (L105 f167) a = F105 f167 a := by kernel_rfl
theorem ok105 {f167 : Int × Unit → Option (Str × Unit)} (h167 : OK Proofs.Try.prog 167 (mkE p167 r167 false f167)) : OK Proofs.Try.prog 105 (mkE p105 r105 false (F105 f167)) :=
  fn_ok tab_ok (envL_ok (l := [(167, mkE p167 r167 false f167)]) (OKs.cons h167 OKs.nil)) mixed (ann := (fun _ => false)) (L := L105 f167) (fn := Proofs.Try.f105) (c := bodyC Proofs.Try.f105) (ls := [(0, loopC Proofs.Try.f105 0)]) Proofs.Try.func105 (by kernel_rfl) (by kernel_rfl) (by kernel_rfl) (by kernel_rfl)
    (LoopsP.cons q105_0 (s105_0 f167) rfl (e105_0 f167) LoopsP.nil) (e105 f167)
/-! laws.markGustS -/
def p106 : List SP := [.one (.o 0 .gust), .one (.int .i64)]
def r106 : List SP := [.one (.int .i64)]
def q106_0 : List SP := pat 36 0 [(0, .one (.o 0 .gust)), (1, .one (.int .i64)), (5, .one (.int .i64))]
noncomputable def s106_0 (t1 : List Gust × Int × Int × Unit) (rec K : List Gust × Int × Int × Unit → Option (List Gust × Int × Unit)) : Option (List Gust × Int × Unit) :=
  cond (decide (t1.2.2.1 < (Int.ofNat (List.length t1.1)))) (rdL t1.1 t1.2.2.1 fun _ => (t1.1[(Int.toNat t1.2.2.1)]?).bind fun d2 => rdL (List.set t1.1 (Int.toNat t1.2.2.1) (⟨t1.2.1, ⟨d2.Drift.X, d2.Drift.Y⟩⟩ : Gust)) t1.2.2.1 fun _ => ((List.set t1.1 (Int.toNat t1.2.2.1) (⟨t1.2.1, ⟨d2.Drift.X, d2.Drift.Y⟩⟩ : Gust))[(Int.toNat t1.2.2.1)]?).bind fun d3 => rdL (List.set (List.set t1.1 (Int.toNat t1.2.2.1) (⟨t1.2.1, ⟨d2.Drift.X, d2.Drift.Y⟩⟩ : Gust)) (Int.toNat t1.2.2.1) (⟨d3.From, ⟨(w64 (t1.2.1 + 1)), d3.Drift.Y⟩⟩ : Gust)) t1.2.2.1 fun _ => ((List.set (List.set t1.1 (Int.toNat t1.2.2.1) (⟨t1.2.1, ⟨d2.Drift.X, d2.Drift.Y⟩⟩ : Gust)) (Int.toNat t1.2.2.1) (⟨d3.From, ⟨(w64 (t1.2.1 + 1)), d3.Drift.Y⟩⟩ : Gust))[(Int.toNat t1.2.2.1)]?).bind fun d4 => rec ((List.set (List.set (List.set t1.1 (Int.toNat t1.2.2.1) (⟨t1.2.1, ⟨d2.Drift.X, d2.Drift.Y⟩⟩ : Gust)) (Int.toNat t1.2.2.1) (⟨d3.From, ⟨(w64 (t1.2.1 + 1)), d3.Drift.Y⟩⟩ : Gust)) (Int.toNat t1.2.2.1) (⟨d4.From, ⟨d4.Drift.X, (w64 ((w64 (t1.2.1 + 1)) + 1))⟩⟩ : Gust)), (w64 ((w64 ((w64 (t1.2.1 + 1)) + 1)) + 1)), (w64 (t1.2.2.1 + 1)), ())) (K (t1.1, t1.2.1, t1.2.2.1, ()))
noncomputable def F106 (a : List Gust × Int × Unit) : Option (List Gust × Int × Unit) :=
  iterF (s106_0) fuel (a.1, a.2.1, 0, ()) fun t5 => some (t5.1, t5.2.1, ())
def E106 : Env := envL []
noncomputable def L106 : LEnv (densS (muts p106 ++ r106)) := lenv [(0, loopL (R := densS (muts p106 ++ r106)) q106_0 (s106_0))]
theorem e106_0 (X : Nat → St → Option (densS (muts p106 ++ r106))) (rec K : densS q106_0 → Option (densS (muts p106 ++ r106))) (t : densS q106_0) :
    ev (E106) tab (fun _ => false) (L106) (retK tab p106 r106 Proofs.Try.f106.results.toList) (loopC Proofs.Try.f106 0) (fun i s => cond (Nat.beq i 0) (decK 100 q106_0 s K) (X i s)) (fun s => decK 100 q106_0 s rec) (enc q106_0 t) = s106_0 t rec K := by kernel_rfl
theorem e106 (a : densS p106) : runF (E106) tab (fun _ => false) p106 r106 Proofs.Try.f106 (L106) a = F106 a := by kernel_rfl
theorem ok106 : OK Proofs.Try.prog 106 (mkE p106 r106 false (F106)) :=
  fn_ok tab_ok (envL_ok (l := []) OKs.nil) mixed (ann := (fun _ => false)) (L := L106) (fn := Proofs.Try.f106) (c := bodyC Proofs.Try.f106) (ls := [(0, loopC Proofs.Try.f106 0)]) Proofs.Try.func106 (by kernel_rfl) (by kernel_rfl) (by kernel_rfl) (by kernel_rfl)
    (LoopsP.cons q106_0 (s106_0) rfl (e106_0) LoopsP.nil) (e106)
/-! laws.markShow -/
def p46 : List SP := [.agg [.o 0 .device, .o 1 .cue, .o 2 .gust, .int .i64], .one (.int .i64)]
def r46 : List SP := [.one (.int .i64)]
noncomputable def F46 (f104 : List Device × Int × Unit → Option (List Device × Int × Unit)) (f105 : List Cue × Int × Unit → Option (List Cue × Int × Unit)) (f106 : List Gust × Int × Unit → Option (List Gust × Int × Unit)) (a : ShD × Int × Unit) : Option ShD :=
  (f104 (a.1.1, a.2.1, ())).bind fun x1 => (f105 (a.1.2.1, x1.2.1, ())).bind fun x2 => (f106 (a.1.2.2.1, x2.2.1, ())).bind fun x3 => some (x1.1, x2.1, x3.1, x3.2.1, ())
def E46 (f104 : List Device × Int × Unit → Option (List Device × Int × Unit)) (f105 : List Cue × Int × Unit → Option (List Cue × Int × Unit)) (f106 : List Gust × Int × Unit → Option (List Gust × Int × Unit)) : Env := envL [(104, mkE p104 r104 false f104), (105, mkE p105 r105 false f105), (106, mkE p106 r106 false f106)]
noncomputable def L46 (f104 : List Device × Int × Unit → Option (List Device × Int × Unit)) (f105 : List Cue × Int × Unit → Option (List Cue × Int × Unit)) (f106 : List Gust × Int × Unit → Option (List Gust × Int × Unit)) : LEnv (densS (muts p46 ++ r46)) := lenv []
theorem e46 (f104 : List Device × Int × Unit → Option (List Device × Int × Unit)) (f105 : List Cue × Int × Unit → Option (List Cue × Int × Unit)) (f106 : List Gust × Int × Unit → Option (List Gust × Int × Unit)) (a : densS p46) : runF (E46 f104 f105 f106) tab (fun _ => false) p46 r46 Proofs.Try.f46 (L46 f104 f105 f106) a = F46 f104 f105 f106 a := by kernel_rfl
theorem ok46 {f104 : List Device × Int × Unit → Option (List Device × Int × Unit)} {f105 : List Cue × Int × Unit → Option (List Cue × Int × Unit)} {f106 : List Gust × Int × Unit → Option (List Gust × Int × Unit)} (h104 : OK Proofs.Try.prog 104 (mkE p104 r104 false f104)) (h105 : OK Proofs.Try.prog 105 (mkE p105 r105 false f105)) (h106 : OK Proofs.Try.prog 106 (mkE p106 r106 false f106)) : OK Proofs.Try.prog 46 (mkE p46 r46 false (F46 f104 f105 f106)) :=
  fn_ok tab_ok (envL_ok (l := [(104, mkE p104 r104 false f104), (105, mkE p105 r105 false f105), (106, mkE p106 r106 false f106)]) (OKs.cons h104 (OKs.cons h105 (OKs.cons h106 OKs.nil)))) mixed (ann := (fun _ => false)) (L := L46 f104 f105 f106) (fn := Proofs.Try.f46) (c := bodyC Proofs.Try.f46) (ls := []) Proofs.Try.func46 (by kernel_rfl) (by kernel_rfl) (by kernel_rfl) (by kernel_rfl)
    LoopsP.nil (e46 f104 f105 f106)
/-! laws.heldDeviceS -/
def p107 : List SP := [.one (.r .device), .one (.int .i64)]
def r107 : List SP := [.one (.int .i64)]
def q107_0 : List SP := pat 89 0 [(0, .one (.r .device)), (1, .one (.int .i64)), (5, .one (.int .i64))]
noncomputable def s107_0 (f167 : Int × Unit → Option (Str × Unit)) (t1 : List Device × Int × Int × Unit) (rec K : List Device × Int × Int × Unit → Option (Int × Unit)) : Option (Int × Unit) :=
  cond (decide (t1.2.2.1 < (Int.ofNat (List.length t1.1)))) (rdL t1.1 t1.2.2.1 fun d2 => (f167 (t1.2.1, ())).bind fun x3 => cond (!decide (d2.Name = x3.1)) (some ((-1), ())) (rdL t1.1 t1.2.2.1 fun d4 => cond (!(decide (d4.Kind = (w64 (t1.2.1 + 1))))) (some ((-1), ())) (rdL t1.1 t1.2.2.1 fun d5 => (f167 ((w64 ((w64 (t1.2.1 + 1)) + 1)), ())).bind fun x6 => cond (!decide (d5.Line = x6.1)) (some ((-1), ())) (rdL t1.1 t1.2.2.1 fun d7 => cond (!(decide (d7.At.X = (w64 ((w64 ((w64 (t1.2.1 + 1)) + 1)) + 1))))) (some ((-1), ())) (rdL t1.1 t1.2.2.1 fun d8 => cond (!(decide (d8.At.Y = (w64 ((w64 ((w64 ((w64 (t1.2.1 + 1)) + 1)) + 1)) + 1))))) (some ((-1), ())) (rdL t1.1 t1.2.2.1 fun d9 => cond (!(decide (d9.Heading = (w64 ((w64 ((w64 ((w64 ((w64 (t1.2.1 + 1)) + 1)) + 1)) + 1)) + 1))))) (some ((-1), ())) (rdL t1.1 t1.2.2.1 fun d10 => cond (!(decide (d10.Tilt = (w64 ((w64 ((w64 ((w64 ((w64 ((w64 (t1.2.1 + 1)) + 1)) + 1)) + 1)) + 1)) + 1))))) (some ((-1), ())) (rdL t1.1 t1.2.2.1 fun d11 => cond (!(decide (d11.Most = (w64 ((w64 ((w64 ((w64 ((w64 ((w64 ((w64 (t1.2.1 + 1)) + 1)) + 1)) + 1)) + 1)) + 1)) + 1))))) (some ((-1), ())) (rec (t1.1, (w64 ((w64 ((w64 ((w64 ((w64 ((w64 ((w64 ((w64 (t1.2.1 + 1)) + 1)) + 1)) + 1)) + 1)) + 1)) + 1)) + 1)), (w64 (t1.2.2.1 + 1)), ())))))))))) (K (t1.1, t1.2.1, t1.2.2.1, ()))
noncomputable def F107 (f167 : Int × Unit → Option (Str × Unit)) (a : List Device × Int × Unit) : Option (Int × Unit) :=
  iterF (s107_0 f167) fuel (a.1, a.2.1, 0, ()) fun t12 => some (t12.2.1, ())
def E107 (f167 : Int × Unit → Option (Str × Unit)) : Env := envL [(167, mkE p167 r167 false f167)]
noncomputable def L107 (f167 : Int × Unit → Option (Str × Unit)) : LEnv (densS (muts p107 ++ r107)) := lenv [(0, loopL (R := densS (muts p107 ++ r107)) q107_0 (s107_0 f167))]
theorem e107_0 (f167 : Int × Unit → Option (Str × Unit)) (X : Nat → St → Option (densS (muts p107 ++ r107))) (rec K : densS q107_0 → Option (densS (muts p107 ++ r107))) (t : densS q107_0) :
    ev (E107 f167) tab (fun _ => false) (L107 f167) (retK tab p107 r107 Proofs.Try.f107.results.toList) (loopC Proofs.Try.f107 0) (fun i s => cond (Nat.beq i 0) (decK 100 q107_0 s K) (X i s)) (fun s => decK 100 q107_0 s rec) (enc q107_0 t) = s107_0 f167 t rec K := by kernel_rfl
theorem e107 (f167 : Int × Unit → Option (Str × Unit)) (a : densS p107) : runF (E107 f167) tab (fun _ => false) p107 r107 Proofs.Try.f107 (L107 f167) a = F107 f167 a := by kernel_rfl
theorem ok107 {f167 : Int × Unit → Option (Str × Unit)} (h167 : OK Proofs.Try.prog 167 (mkE p167 r167 false f167)) : OK Proofs.Try.prog 107 (mkE p107 r107 false (F107 f167)) :=
  fn_ok tab_ok (envL_ok (l := [(167, mkE p167 r167 false f167)]) (OKs.cons h167 OKs.nil)) mixed (ann := (fun _ => false)) (L := L107 f167) (fn := Proofs.Try.f107) (c := bodyC Proofs.Try.f107) (ls := [(0, loopC Proofs.Try.f107 0)]) Proofs.Try.func107 (by kernel_rfl) (by kernel_rfl) (by kernel_rfl) (by kernel_rfl)
    (LoopsP.cons q107_0 (s107_0 f167) rfl (e107_0 f167) LoopsP.nil) (e107 f167)
/-! laws.heldCueS -/
def p108 : List SP := [.one (.r .cue), .one (.int .i64)]
def r108 : List SP := [.one (.int .i64)]
def q108_0 : List SP := pat 50 0 [(0, .one (.r .cue)), (1, .one (.int .i64)), (5, .one (.int .i64))]
noncomputable def s108_0 (f167 : Int × Unit → Option (Str × Unit)) (t1 : List Cue × Int × Int × Unit) (rec K : List Cue × Int × Int × Unit → Option (Int × Unit)) : Option (Int × Unit) :=
  cond (decide (t1.2.2.1 < (Int.ofNat (List.length t1.1)))) (rdL t1.1 t1.2.2.1 fun d2 => cond (!(decide (d2.Tick = t1.2.1))) (some ((-1), ())) (rdL t1.1 t1.2.2.1 fun d3 => (f167 ((w64 (t1.2.1 + 1)), ())).bind fun x4 => cond (!decide (d3.Name = x4.1)) (some ((-1), ())) (rdL t1.1 t1.2.2.1 fun d5 => cond (!(decide (d5.Level = (w64 ((w64 (t1.2.1 + 1)) + 1))))) (some ((-1), ())) (rdL t1.1 t1.2.2.1 fun d6 => cond (!(decide (d6.Ramp = (w64 ((w64 ((w64 (t1.2.1 + 1)) + 1)) + 1))))) (some ((-1), ())) (rec (t1.1, (w64 ((w64 ((w64 ((w64 (t1.2.1 + 1)) + 1)) + 1)) + 1)), (w64 (t1.2.2.1 + 1)), ())))))) (K (t1.1, t1.2.1, t1.2.2.1, ()))
noncomputable def F108 (f167 : Int × Unit → Option (Str × Unit)) (a : List Cue × Int × Unit) : Option (Int × Unit) :=
  iterF (s108_0 f167) fuel (a.1, a.2.1, 0, ()) fun t7 => some (t7.2.1, ())
def E108 (f167 : Int × Unit → Option (Str × Unit)) : Env := envL [(167, mkE p167 r167 false f167)]
noncomputable def L108 (f167 : Int × Unit → Option (Str × Unit)) : LEnv (densS (muts p108 ++ r108)) := lenv [(0, loopL (R := densS (muts p108 ++ r108)) q108_0 (s108_0 f167))]
theorem e108_0 (f167 : Int × Unit → Option (Str × Unit)) (X : Nat → St → Option (densS (muts p108 ++ r108))) (rec K : densS q108_0 → Option (densS (muts p108 ++ r108))) (t : densS q108_0) :
    ev (E108 f167) tab (fun _ => false) (L108 f167) (retK tab p108 r108 Proofs.Try.f108.results.toList) (loopC Proofs.Try.f108 0) (fun i s => cond (Nat.beq i 0) (decK 100 q108_0 s K) (X i s)) (fun s => decK 100 q108_0 s rec) (enc q108_0 t) = s108_0 f167 t rec K := by kernel_rfl
theorem e108 (f167 : Int × Unit → Option (Str × Unit)) (a : densS p108) : runF (E108 f167) tab (fun _ => false) p108 r108 Proofs.Try.f108 (L108 f167) a = F108 f167 a := by kernel_rfl
theorem ok108 {f167 : Int × Unit → Option (Str × Unit)} (h167 : OK Proofs.Try.prog 167 (mkE p167 r167 false f167)) : OK Proofs.Try.prog 108 (mkE p108 r108 false (F108 f167)) :=
  fn_ok tab_ok (envL_ok (l := [(167, mkE p167 r167 false f167)]) (OKs.cons h167 OKs.nil)) mixed (ann := (fun _ => false)) (L := L108 f167) (fn := Proofs.Try.f108) (c := bodyC Proofs.Try.f108) (ls := [(0, loopC Proofs.Try.f108 0)]) Proofs.Try.func108 (by kernel_rfl) (by kernel_rfl) (by kernel_rfl) (by kernel_rfl)
    (LoopsP.cons q108_0 (s108_0 f167) rfl (e108_0 f167) LoopsP.nil) (e108 f167)
/-! laws.heldGustS -/
def p109 : List SP := [.one (.r .gust), .one (.int .i64)]
def r109 : List SP := [.one (.int .i64)]
def q109_0 : List SP := pat 42 0 [(0, .one (.r .gust)), (1, .one (.int .i64)), (5, .one (.int .i64))]
noncomputable def s109_0 (t1 : List Gust × Int × Int × Unit) (rec K : List Gust × Int × Int × Unit → Option (Int × Unit)) : Option (Int × Unit) :=
  cond (decide (t1.2.2.1 < (Int.ofNat (List.length t1.1)))) (rdL t1.1 t1.2.2.1 fun d2 => cond (!(decide (d2.From = t1.2.1))) (some ((-1), ())) (rdL t1.1 t1.2.2.1 fun d3 => cond (!(decide (d3.Drift.X = (w64 (t1.2.1 + 1))))) (some ((-1), ())) (rdL t1.1 t1.2.2.1 fun d4 => cond (!(decide (d4.Drift.Y = (w64 ((w64 (t1.2.1 + 1)) + 1))))) (some ((-1), ())) (rec (t1.1, (w64 ((w64 ((w64 (t1.2.1 + 1)) + 1)) + 1)), (w64 (t1.2.2.1 + 1)), ()))))) (K (t1.1, t1.2.1, t1.2.2.1, ()))
noncomputable def F109 (a : List Gust × Int × Unit) : Option (Int × Unit) :=
  iterF (s109_0) fuel (a.1, a.2.1, 0, ()) fun t5 => some (t5.2.1, ())
def E109 : Env := envL []
noncomputable def L109 : LEnv (densS (muts p109 ++ r109)) := lenv [(0, loopL (R := densS (muts p109 ++ r109)) q109_0 (s109_0))]
theorem e109_0 (X : Nat → St → Option (densS (muts p109 ++ r109))) (rec K : densS q109_0 → Option (densS (muts p109 ++ r109))) (t : densS q109_0) :
    ev (E109) tab (fun _ => false) (L109) (retK tab p109 r109 Proofs.Try.f109.results.toList) (loopC Proofs.Try.f109 0) (fun i s => cond (Nat.beq i 0) (decK 100 q109_0 s K) (X i s)) (fun s => decK 100 q109_0 s rec) (enc q109_0 t) = s109_0 t rec K := by kernel_rfl
theorem e109 (a : densS p109) : runF (E109) tab (fun _ => false) p109 r109 Proofs.Try.f109 (L109) a = F109 a := by kernel_rfl
theorem ok109 : OK Proofs.Try.prog 109 (mkE p109 r109 false (F109)) :=
  fn_ok tab_ok (envL_ok (l := []) OKs.nil) mixed (ann := (fun _ => false)) (L := L109) (fn := Proofs.Try.f109) (c := bodyC Proofs.Try.f109) (ls := [(0, loopC Proofs.Try.f109 0)]) Proofs.Try.func109 (by kernel_rfl) (by kernel_rfl) (by kernel_rfl) (by kernel_rfl)
    (LoopsP.cons q109_0 (s109_0) rfl (e109_0) LoopsP.nil) (e109)
/-! laws.heldShow -/
def p47 : List SP := [.agg [.r .device, .r .cue, .r .gust, .int .i64], .one (.int .i64)]
def r47 : List SP := [.one (.int .i64)]
noncomputable def F47 (f107 : List Device × Int × Unit → Option (Int × Unit)) (f108 : List Cue × Int × Unit → Option (Int × Unit)) (f109 : List Gust × Int × Unit → Option (Int × Unit)) (a : ShD × Int × Unit) : Option (Int × Unit) :=
  (f107 (a.1.1, a.2.1, ())).bind fun x1 => cond (decide (x1.1 < 0)) (some ((-1), ())) ((f108 (a.1.2.1, x1.1, ())).bind fun x2 => cond (decide (x2.1 < 0)) (some ((-1), ())) ((f109 (a.1.2.2.1, x2.1, ())).bind fun x3 => cond (decide (x3.1 < 0)) (some ((-1), ())) (some (x3.1, ()))))
def E47 (f107 : List Device × Int × Unit → Option (Int × Unit)) (f108 : List Cue × Int × Unit → Option (Int × Unit)) (f109 : List Gust × Int × Unit → Option (Int × Unit)) : Env := envL [(107, mkE p107 r107 false f107), (108, mkE p108 r108 false f108), (109, mkE p109 r109 false f109)]
noncomputable def L47 (f107 : List Device × Int × Unit → Option (Int × Unit)) (f108 : List Cue × Int × Unit → Option (Int × Unit)) (f109 : List Gust × Int × Unit → Option (Int × Unit)) : LEnv (densS (muts p47 ++ r47)) := lenv []
theorem e47 (f107 : List Device × Int × Unit → Option (Int × Unit)) (f108 : List Cue × Int × Unit → Option (Int × Unit)) (f109 : List Gust × Int × Unit → Option (Int × Unit)) (a : densS p47) : runF (E47 f107 f108 f109) tab (fun _ => false) p47 r47 Proofs.Try.f47 (L47 f107 f108 f109) a = F47 f107 f108 f109 a := by kernel_rfl
theorem ok47 {f107 : List Device × Int × Unit → Option (Int × Unit)} {f108 : List Cue × Int × Unit → Option (Int × Unit)} {f109 : List Gust × Int × Unit → Option (Int × Unit)} (h107 : OK Proofs.Try.prog 107 (mkE p107 r107 false f107)) (h108 : OK Proofs.Try.prog 108 (mkE p108 r108 false f108)) (h109 : OK Proofs.Try.prog 109 (mkE p109 r109 false f109)) : OK Proofs.Try.prog 47 (mkE p47 r47 false (F47 f107 f108 f109)) :=
  fn_ok tab_ok (envL_ok (l := [(107, mkE p107 r107 false f107), (108, mkE p108 r108 false f108), (109, mkE p109 r109 false f109)]) (OKs.cons h107 (OKs.cons h108 (OKs.cons h109 OKs.nil)))) mixed (ann := (fun _ => false)) (L := L47 f107 f108 f109) (fn := Proofs.Try.f47) (c := bodyC Proofs.Try.f47) (ls := []) Proofs.Try.func47 (by kernel_rfl) (by kernel_rfl) (by kernel_rfl) (by kernel_rfl)
    LoopsP.nil (e47 f107 f108 f109)
/-! laws.FnExactShiftShow -/
def p9 : List SP := [.agg [.r .device, .r .cue, .r .gust, .int .i64], .t .place]
def r9 : List SP := [.one (.bool)]
noncomputable def F9 (f41 : ShD × Int × Unit → Option (Int × Unit)) (f43 : ShD × Unit → Option (ShD × Unit)) (f44 : Place × Unit → Option (Place × Unit)) (f42 : ShD × Place × Unit → Option (ShD × Bool × Unit)) (f30 : ShD × Place × Unit → Option (ShD × Bool × Unit)) (f45 : ShD × ShD × Unit → Option (Bool × Unit)) (f46 : ShD × Int × Unit → Option ShD) (f47 : ShD × Int × Unit → Option (Int × Unit)) (a : ShD × Place × Unit) : Option (Bool × Unit) :=
  (f41 ((a.1.1, a.1.2.1, a.1.2.2.1, a.1.2.2.2.1, ()), 1048576, ())).bind fun x1 => cond (decide (x1.1 < 0)) (some (true, ())) ((f43 ((a.1.1, a.1.2.1, a.1.2.2.1, a.1.2.2.2.1, ()), ())).bind fun x5 => (f44 (a.2.1, ())).bind fun x6 => (f42 ((x5.1.1, x5.1.2.1, x5.1.2.2.1, x5.1.2.2.2.1, ()), x6.1, ())).bind fun x7 => (f43 ((a.1.1, a.1.2.1, a.1.2.2.1, a.1.2.2.2.1, ()), ())).bind fun x8 => (f44 (a.2.1, ())).bind fun x11 => (f30 ((x8.1.1, x8.1.2.1, x8.1.2.2.1, x8.1.2.2.2.1, ()), x11.1, ())).bind fun x12 => (f45 ((x12.1.1, x12.1.2.1, x12.1.2.2.1, x12.1.2.2.2.1, ()), (x7.1.1, x7.1.2.1, x7.1.2.2.1, x7.1.2.2.2.1, ()), ())).bind fun x13 => cond (!(!x13.1)) (cond (!(decide (x12.2.1 = x7.2.1))) (some (false, ())) ((f43 ((a.1.1, a.1.2.1, a.1.2.2.1, a.1.2.2.2.1, ()), ())).bind fun x14 => (f45 ((x8.1.1, x8.1.2.1, x8.1.2.2.1, x8.1.2.2.2.1, ()), (x14.1.1, x14.1.2.1, x14.1.2.2.1, x14.1.2.2.2.1, ()), ())).bind fun x15 => cond (!x15.1) (some (false, ())) ((f46 ((x8.1.1, x8.1.2.1, x8.1.2.2.1, x8.1.2.2.2.1, ()), 1, ())).bind fun x16 => cond (!(decide (x16.2.2.2.1 < 0))) ((f45 ((x12.1.1, x12.1.2.1, x12.1.2.2.1, x12.1.2.2.2.1, ()), (x7.1.1, x7.1.2.1, x7.1.2.2.1, x7.1.2.2.2.1, ()), ())).bind fun x17 => cond (!(!x17.1)) (cond (!(decide (x12.2.1 = x7.2.1))) (some (false, ())) ((f46 ((x12.1.1, x12.1.2.1, x12.1.2.2.1, x12.1.2.2.2.1, ()), 1, ())).bind fun x18 => (f47 ((x18.1, x18.2.1, x18.2.2.1, x12.1.2.2.2.1, ()), 1, ())).bind fun x19 => cond (decide (x19.1 < 0)) (some (false, ())) (cond (!(decide (x19.1 = x18.2.2.2.1))) (some (false, ())) ((f43 ((a.1.1, a.1.2.1, a.1.2.2.1, a.1.2.2.2.1, ()), ())).bind fun x23 => (f44 (a.2.1, ())).bind fun x24 => (f30 ((x23.1.1, x23.1.2.1, x23.1.2.2.1, x23.1.2.2.2.1, ()), x24.1, ())).bind fun x25 => (f45 ((x25.1.1, x25.1.2.1, x25.1.2.2.1, x25.1.2.2.2.1, ()), (x7.1.1, x7.1.2.1, x7.1.2.2.1, x7.1.2.2.2.1, ()), ())).bind fun x26 => cond (!(!x26.1)) (cond (!(decide (x25.2.1 = x7.2.1))) (some (false, ())) ((f47 ((x18.1, x18.2.1, x18.2.2.1, x12.1.2.2.2.1, ()), 1, ())).bind fun x27 => cond (decide (x27.1 < 0)) (some (false, ())) (cond (!(decide (x27.1 = x18.2.2.2.1))) (some (false, ())) (some (true, ()))))) (some (false, ())))))) (some (false, ()))) (some (false, ()))))) (some (false, ())))
def E9 (f41 : ShD × Int × Unit → Option (Int × Unit)) (f43 : ShD × Unit → Option (ShD × Unit)) (f44 : Place × Unit → Option (Place × Unit)) (f42 : ShD × Place × Unit → Option (ShD × Bool × Unit)) (f30 : ShD × Place × Unit → Option (ShD × Bool × Unit)) (f45 : ShD × ShD × Unit → Option (Bool × Unit)) (f46 : ShD × Int × Unit → Option ShD) (f47 : ShD × Int × Unit → Option (Int × Unit)) : Env := envL [(41, mkE p41 r41 false f41), (43, mkE p43 r43 false f43), (44, mkE p44 r44 false f44), (42, mkE p42 r42 false f42), (30, mkE p30 r30 false f30), (45, mkE p45 r45 false f45), (46, mkE p46 r46 false f46), (47, mkE p47 r47 false f47)]
noncomputable def L9 (f41 : ShD × Int × Unit → Option (Int × Unit)) (f43 : ShD × Unit → Option (ShD × Unit)) (f44 : Place × Unit → Option (Place × Unit)) (f42 : ShD × Place × Unit → Option (ShD × Bool × Unit)) (f30 : ShD × Place × Unit → Option (ShD × Bool × Unit)) (f45 : ShD × ShD × Unit → Option (Bool × Unit)) (f46 : ShD × Int × Unit → Option ShD) (f47 : ShD × Int × Unit → Option (Int × Unit)) : LEnv (densS (muts p9 ++ r9)) := lenv []
theorem e9 (f41 : ShD × Int × Unit → Option (Int × Unit)) (f43 : ShD × Unit → Option (ShD × Unit)) (f44 : Place × Unit → Option (Place × Unit)) (f42 : ShD × Place × Unit → Option (ShD × Bool × Unit)) (f30 : ShD × Place × Unit → Option (ShD × Bool × Unit)) (f45 : ShD × ShD × Unit → Option (Bool × Unit)) (f46 : ShD × Int × Unit → Option ShD) (f47 : ShD × Int × Unit → Option (Int × Unit)) (a : densS p9) : runF (E9 f41 f43 f44 f42 f30 f45 f46 f47) tab (fun n => Nat.beq n 900006 || Nat.beq n 900009 || Nat.beq n 900014 || Nat.beq n 1599999 || Nat.beq n 1799999 || Nat.beq n 3499999) p9 r9 Proofs.Try.f9 (L9 f41 f43 f44 f42 f30 f45 f46 f47) a = F9 f41 f43 f44 f42 f30 f45 f46 f47 a := by kernel_rfl
theorem ok9 {f41 : ShD × Int × Unit → Option (Int × Unit)} {f43 : ShD × Unit → Option (ShD × Unit)} {f44 : Place × Unit → Option (Place × Unit)} {f42 : ShD × Place × Unit → Option (ShD × Bool × Unit)} {f30 : ShD × Place × Unit → Option (ShD × Bool × Unit)} {f45 : ShD × ShD × Unit → Option (Bool × Unit)} {f46 : ShD × Int × Unit → Option ShD} {f47 : ShD × Int × Unit → Option (Int × Unit)} (h41 : OK Proofs.Try.prog 41 (mkE p41 r41 false f41)) (h43 : OK Proofs.Try.prog 43 (mkE p43 r43 false f43)) (h44 : OK Proofs.Try.prog 44 (mkE p44 r44 false f44)) (h42 : OK Proofs.Try.prog 42 (mkE p42 r42 false f42)) (h30 : OK Proofs.Try.prog 30 (mkE p30 r30 false f30)) (h45 : OK Proofs.Try.prog 45 (mkE p45 r45 false f45)) (h46 : OK Proofs.Try.prog 46 (mkE p46 r46 false f46)) (h47 : OK Proofs.Try.prog 47 (mkE p47 r47 false f47)) : OK Proofs.Try.prog 9 (mkE p9 r9 false (F9 f41 f43 f44 f42 f30 f45 f46 f47)) :=
  fn_ok tab_ok (envL_ok (l := [(41, mkE p41 r41 false f41), (43, mkE p43 r43 false f43), (44, mkE p44 r44 false f44), (42, mkE p42 r42 false f42), (30, mkE p30 r30 false f30), (45, mkE p45 r45 false f45), (46, mkE p46 r46 false f46), (47, mkE p47 r47 false f47)]) (OKs.cons h41 (OKs.cons h43 (OKs.cons h44 (OKs.cons h42 (OKs.cons h30 (OKs.cons h45 (OKs.cons h46 (OKs.cons h47 OKs.nil))))))))) mixed (ann := (fun n => Nat.beq n 900006 || Nat.beq n 900009 || Nat.beq n 900014 || Nat.beq n 1599999 || Nat.beq n 1799999 || Nat.beq n 3499999)) (L := L9 f41 f43 f44 f42 f30 f45 f46 f47) (fn := Proofs.Try.f9) (c := bodyC Proofs.Try.f9) (ls := []) Proofs.Try.func9 (by kernel_rfl) (by kernel_rfl) (by kernel_rfl) (by kernel_rfl)
    LoopsP.nil (e9 f41 f43 f44 f42 f30 f45 f46 f47)
end Ev
