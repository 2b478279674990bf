/- Functions of the program, as the evaluator sees them. -/
import Derived.Test.YtjdnadolocbjoaaGreatFn
set_option linter.unusedVariables false
set_option maxRecDepth 100000
namespace Ev
open Go
def tab2 : Tab := [(3, ⟨1, false, 8, [.int .i64 0], [], .int .i64, false⟩),
  (4, ⟨1, false, 1, [.bool false], [], .bool, false⟩),
  (5, ⟨1, false, 1, [.int .u8 0], [], .int .u8, false⟩),
  (9, ⟨1, false, 16, [.str []], [], .str, false⟩),
  (22, ⟨1, false, 24, [.nils], [], .sl .u8, false⟩),
  (24, ⟨1, false, 24, [.nils], [], .sl .device, false⟩),
  (25, ⟨1, false, 24, [.nils], [], .sl .cue, false⟩),
  (26, ⟨1, false, 24, [.nils], [], .sl .gust, false⟩),
  (28, ⟨4, true, 80, [.nils, .nils, .nils, .int .i64 0], [(0, 1, false), (1, 1, false), (2, 1, false), (3, 1, false)], .struct, false⟩),
  (29, ⟨1, false, 24, [.nils], [], .sl .place, false⟩),
  (31, ⟨2, true, 16, [.int .i64 0, .int .i64 0], [(0, 1, false), (1, 1, false)], .struct, true⟩),
  (33, ⟨4, true, 32, [.int .i64 0, .int .i64 0, .int .i64 0, .int .i64 0], [(0, 2, true), (2, 2, true)], .struct, false⟩),
  (36, ⟨1, false, 24, [.nils], [], .sl .drop, false⟩),
  (39, ⟨5, true, 40, [.int .i64 0, .int .i64 0, .int .i64 0, .int .i64 0, .int .i64 0], [(0, 2, true), (2, 1, false), (3, 1, false), (4, 1, false)], .struct, false⟩),
  (43, ⟨5, true, 48, [.str [], .int .i64 0, .int .i64 0, .int .i64 0, .int .i64 0], [(0, 1, false), (1, 1, false), (2, 2, true), (4, 1, false)], .struct, false⟩),
  (66, ⟨8, true, 80, [.str [], .int .i64 0, .str [], .int .i64 0, .int .i64 0, .int .i64 0, .int .i64 0, .int .i64 0], [(0, 1, false), (1, 1, false), (2, 1, false), (3, 2, true), (5, 1, false), (6, 1, false), (7, 1, false)], .struct, true⟩),
  (75, ⟨1, false, 24, [.nils], [], .sl .box, false⟩),
  (91, ⟨1, false, 24, [.nils], [], .sl .throw, false⟩),
  (94, ⟨7, true, 64, [.str [], .int .i64 0, .int .i64 0, .int .i64 0, .int .i64 0, .int .i64 0, .int .i64 0], [(0, 1, false), (1, 1, false), (2, 5, true)], .struct, false⟩),
  (98, ⟨1, false, 24, [.nils], [], .sl .int, false⟩),
  (108, ⟨3, true, 24, [.int .i64 0, .int .i64 0, .int .i64 0], [(0, 1, false), (1, 2, true)], .struct, false⟩),
  (116, ⟨4, true, 40, [.int .i64 0, .str [], .int .i64 0, .int .i64 0], [(0, 1, false), (1, 1, false), (2, 1, false), (3, 1, false)], .struct, false⟩)]
theorem tab_ok2 : TabOK Proofs.Tryz.prog tab2 := tab_of2 (by kernel_rfl) (by kernel_rfl)
theorem mixed2 : Proofs.Tryz.prog.follows .mixedOrders = true := by kernel_rfl
/-! laws.big -/
def p14 : List SP := [.one (.r .u8)]
def r14 : List SP := [.one (.bool)]
noncomputable def F14 (a : List Int × Unit) : Option (Bool × Unit) :=
  some ((decide ((Int.ofNat (List.length a.1)) > 4096)), ())
def E14 : Env := envL []
noncomputable def L14 : LEnv (densS (muts p14 ++ r14)) := lenv []
theorem e14 (a : densS p14) : runF (E14) tab2 (fun _ => false) p14 r14 Proofs.Tryz.f14 (L14) a = F14 a := by kernel_rfl
theorem ok14 : OK Proofs.Tryz.prog 14 (mkE p14 r14 false (F14)) :=
  fn_ok tab_ok2 (envL_ok (l := []) OKs.nil) mixed2 (ann := (fun _ => false)) (L := L14) (fn := Proofs.Tryz.f14) (c := bodyC Proofs.Tryz.f14) (ls := []) Proofs.Tryz.func14 (by kernel_rfl) (by kernel_rfl) (by kernel_rfl) (by kernel_rfl)
    LoopsP.nil (e14)
/-! impl.isWithin -/
def p72 : List SP := [.one (.int .i64), .one (.int .i64), .one (.int .i64)]
def r72 : List SP := [.one (.bool)]
noncomputable def F72 (a : Int × Int × Int × Unit) : Option (Bool × Unit) :=
  cond (decide (a.2.1 ≤ a.1)) (some ((decide (a.1 ≤ a.2.2.1)), ())) (some (false, ()))
def E72 : Env := envL []
noncomputable def L72 : LEnv (densS (muts p72 ++ r72)) := lenv []
theorem e72 (a : densS p72) : runF (E72) tab2 (fun _ => false) p72 r72 Proofs.Tryz.f72 (L72) a = F72 a := by kernel_rfl
theorem ok72 : OK Proofs.Tryz.prog 72 (mkE p72 r72 false (F72)) :=
  fn_ok tab_ok2 (envL_ok (l := []) OKs.nil) mixed2 (ann := (fun _ => false)) (L := L72) (fn := Proofs.Tryz.f72) (c := bodyC Proofs.Tryz.f72) (ls := []) Proofs.Tryz.func72 (by kernel_rfl) (by kernel_rfl) (by kernel_rfl) (by kernel_rfl)
    LoopsP.nil (e72)
/-! impl.isDrift -/
def p125 : List SP := [.t .place]
def r125 : List SP := [.one (.bool)]
noncomputable def F125 (f72 : Int × Int × Int × Unit → Option (Bool × Unit)) (a : Place × Unit) : Option (Bool × Unit) :=
  (f72 (a.1.X, (-8), 8, ())).bind fun x1 => cond x1.1 ((f72 (a.1.Y, (-8), 8, ())).bind fun x2 => some (x2.1, ())) (some (false, ()))
def E125 (f72 : Int × Int × Int × Unit → Option (Bool × Unit)) : Env := envL [(72, mkE p72 r72 false f72)]
noncomputable def L125 (f72 : Int × Int × Int × Unit → Option (Bool × Unit)) : LEnv (densS (muts p125 ++ r125)) := lenv []
theorem e125 (f72 : Int × Int × Int × Unit → Option (Bool × Unit)) (a : densS p125) : runF (E125 f72) tab2 (fun _ => false) p125 r125 Proofs.Tryz.f125 (L125 f72) a = F125 f72 a := by kernel_rfl
theorem ok125 {f72 : Int × Int × Int × Unit → Option (Bool × Unit)} (h72 : OK Proofs.Tryz.prog 72 (mkE p72 r72 false f72)) : OK Proofs.Tryz.prog 125 (mkE p125 r125 false (F125 f72)) :=
  fn_ok tab_ok2 (envL_ok (l := [(72, mkE p72 r72 false f72)]) (OKs.cons h72 OKs.nil)) mixed2 (ann := (fun _ => false)) (L := L125 f72) (fn := Proofs.Tryz.f125) (c := bodyC Proofs.Tryz.f125) (ls := []) Proofs.Tryz.func125 (by kernel_rfl) (by kernel_rfl) (by kernel_rfl) (by kernel_rfl)
    LoopsP.nil (e125 f72)
/-! cmp.isNaN[int] -/
def p205 : List SP := [.one (.int .i64)]
def r205 : List SP := [.one (.bool)]
noncomputable def F205 (a : Int × Unit) : Option (Bool × Unit) :=
  some ((!(decide (a.1 = a.1))), ())
def E205 : Env := envL []
noncomputable def L205 : LEnv (densS (muts p205 ++ r205)) := lenv []
theorem e205 (a : densS p205) : runF (E205) tab2 (fun _ => false) p205 r205 Proofs.Tryz.f205 (L205) a = F205 a := by kernel_rfl
theorem ok205 : OK Proofs.Tryz.prog 205 (mkE p205 r205 false (F205)) :=
  fn_ok tab_ok2 (envL_ok (l := []) OKs.nil) mixed2 (ann := (fun _ => false)) (L := L205) (fn := Proofs.Tryz.f205) (c := bodyC Proofs.Tryz.f205) (ls := []) Proofs.Tryz.func205 (by kernel_rfl) (by kernel_rfl) (by kernel_rfl) (by kernel_rfl)
    LoopsP.nil (e205)
/-! cmp.Compare[int] -/
def p163 : List SP := [.one (.int .i64), .one (.int .i64)]
def r163 : List SP := [.one (.int .i64)]
noncomputable def F163 (f205 : Int × Unit → Option (Bool × Unit)) (a : Int × Int × Unit) : Option (Int × Unit) :=
  (f205 (a.1, ())).bind fun x1 => (f205 (a.2.1, ())).bind fun x2 => cond x1.1 (cond x2.1 (some (0, ())) (some ((-1), ()))) (cond x2.1 (some (1, ())) (cond (decide (a.1 < a.2.1)) (some ((-1), ())) (cond (decide (a.1 > a.2.1)) (some (1, ())) (some (0, ())))))
def E163 (f205 : Int × Unit → Option (Bool × Unit)) : Env := envL [(205, mkE p205 r205 false f205)]
noncomputable def L163 (f205 : Int × Unit → Option (Bool × Unit)) : LEnv (densS (muts p163 ++ r163)) := lenv []
theorem e163 (f205 : Int × Unit → Option (Bool × Unit)) (a : densS p163) : runF (E163 f205) tab2 (fun _ => false) p163 r163 Proofs.Tryz.f163 (L163 f205) a = F163 f205 a := by kernel_rfl
theorem ok163 {f205 : Int × Unit → Option (Bool × Unit)} (h205 : OK Proofs.Tryz.prog 205 (mkE p205 r205 false f205)) : OK Proofs.Tryz.prog 163 (mkE p163 r163 false (F163 f205)) :=
  fn_ok tab_ok2 (envL_ok (l := [(205, mkE p205 r205 false f205)]) (OKs.cons h205 OKs.nil)) mixed2 (ann := (fun _ => false)) (L := L163 f205) (fn := Proofs.Tryz.f163) (c := bodyC Proofs.Tryz.f163) (ls := []) Proofs.Tryz.func163 (by kernel_rfl) (by kernel_rfl) (by kernel_rfl) (by kernel_rfl)
    LoopsP.nil (e163 f205)
/-! cmp.Or[int] -/
def p162 : List SP := [.one (.r .int)]
def r162 : List SP := [.one (.int .i64)]
def q162_0 : List SP := pat 18 0 [(3, .one (.int .i64)), (6, .one (.r .int)), (7, .one (.int .i64)), (8, .one (.int .i64))]
noncomputable def s162_0 (t1 : Int × List Int × Int × Int × Unit) (rec K : Int × List Int × Int × Int × Unit → Option (Int × Unit)) : Option (Int × Unit) :=
  cond (decide (t1.2.2.2.1 < t1.2.2.1)) (rdL t1.2.1 t1.2.2.2.1 fun d2 => cond (!(decide (d2 = t1.1))) (some (d2, ())) (rec (t1.1, t1.2.1, t1.2.2.1, (w64 (t1.2.2.2.1 + 1)), ()))) (K (t1.1, t1.2.1, t1.2.2.1, t1.2.2.2.1, ()))
noncomputable def F162 (a : List Int × Unit) : Option (Int × Unit) :=
  iterF (s162_0) fuel (0, a.1, (Int.ofNat (List.length a.1)), 0, ()) fun t3 => some (t3.1, ())
def E162 : Env := envL []
noncomputable def L162 : LEnv (densS (muts p162 ++ r162)) := lenv [(0, loopL (R := densS (muts p162 ++ r162)) q162_0 (s162_0))]
theorem e162_0 (X : Nat → St → Option (densS (muts p162 ++ r162))) (rec K : densS q162_0 → Option (densS (muts p162 ++ r162))) (t : densS q162_0) :
    ev (E162) tab2 (fun _ => false) (L162) (retK tab2 p162 r162 Proofs.Tryz.f162.results.toList) (loopC Proofs.Tryz.f162 0) (fun i s => cond (Nat.beq i 0) (decK 100 q162_0 s K) (X i s)) (fun s => decK 100 q162_0 s rec) (enc q162_0 t) = s162_0 t rec K := by kernel_rfl
theorem e162 (a : densS p162) : runF (E162) tab2 (fun _ => false) p162 r162 Proofs.Tryz.f162 (L162) a = F162 a := by kernel_rfl
theorem ok162 : OK Proofs.Tryz.prog 162 (mkE p162 r162 false (F162)) :=
  fn_ok tab_ok2 (envL_ok (l := []) OKs.nil) mixed2 (ann := (fun _ => false)) (L := L162) (fn := Proofs.Tryz.f162) (c := bodyC Proofs.Tryz.f162) (ls := [(0, loopC Proofs.Tryz.f162 0)]) Proofs.Tryz.func162 (by kernel_rfl) (by kernel_rfl) (by kernel_rfl) (by kernel_rfl)
    (LoopsP.cons q162_0 (s162_0) rfl (e162_0) LoopsP.nil) (e162)
/-! impl.ComparePlaces -/
def p112 : List SP := [.t .place, .t .place]
def r112 : List SP := [.one (.int .i64)]
noncomputable def F112 (f163 : Int × Int × Unit → Option (Int × Unit)) (f162 : List Int × Unit → Option (Int × Unit)) (a : Place × Place × Unit) : Option (Int × Unit) :=
  (f163 (a.1.X, a.2.1.X, ())).bind fun x1 => (f163 (a.1.Y, a.2.1.Y, ())).bind fun x2 => (f162 (([x1.1, x2.1] : List Int), ())).bind fun x3 => some (x3.1, ())
def E112 (f163 : Int × Int × Unit → Option (Int × Unit)) (f162 : List Int × Unit → Option (Int × Unit)) : Env := envL [(163, mkE p163 r163 false f163), (162, mkE p162 r162 false f162)]
noncomputable def L112 (f163 : Int × Int × Unit → Option (Int × Unit)) (f162 : List Int × Unit → Option (Int × Unit)) : LEnv (densS (muts p112 ++ r112)) := lenv []
theorem e112 (f163 : Int × Int × Unit → Option (Int × Unit)) (f162 : List Int × Unit → Option (Int × Unit)) (a : densS p112) : runF (E112 f163 f162) tab2 (fun _ => false) p112 r112 Proofs.Tryz.f112 (L112 f163 f162) a = F112 f163 f162 a := by kernel_rfl
theorem ok112 {f163 : Int × Int × Unit → Option (Int × Unit)} {f162 : List Int × Unit → Option (Int × Unit)} (h163 : OK Proofs.Tryz.prog 163 (mkE p163 r163 false f163)) (h162 : OK Proofs.Tryz.prog 162 (mkE p162 r162 false f162)) : OK Proofs.Tryz.prog 112 (mkE p112 r112 false (F112 f163 f162)) :=
  fn_ok tab_ok2 (envL_ok (l := [(163, mkE p163 r163 false f163), (162, mkE p162 r162 false f162)]) (OKs.cons h163 (OKs.cons h162 OKs.nil))) mixed2 (ann := (fun _ => false)) (L := L112 f163 f162) (fn := Proofs.Tryz.f112) (c := bodyC Proofs.Tryz.f112) (ls := []) Proofs.Tryz.func112 (by kernel_rfl) (by kernel_rfl) (by kernel_rfl) (by kernel_rfl)
    LoopsP.nil (e112 f163 f162)
/-! impl.IsRose -/
def p75 : List SP := [.one (.r .place)]
def r75 : List SP := [.one (.bool)]
def q75_0 : List SP := pat 33 0 [(0, .one (.r .place)), (5, .one (.r .place)), (6, .one (.int .i64)), (7, .one (.int .i64))]
noncomputable def s75_0 (f125 : Place × Unit → Option (Bool × Unit)) (f112 : Place × Place × Unit → Option (Int × Unit)) (f72 : Int × Int × Int × Unit → Option (Bool × Unit)) (t1 : List Place × List Place × Int × Int × Unit) (rec K : List Place × List Place × Int × Int × Unit → Option (Bool × Unit)) : Option (Bool × Unit) :=
  cond (decide (t1.2.2.2.1 < t1.2.2.1)) (rdL t1.2.1 t1.2.2.2.1 fun d2 => (f125 (d2, ())).bind fun x3 => cond (!(!x3.1)) (cond (decide (t1.2.2.2.1 > 0)) (rdL t1.1 (w64 (t1.2.2.2.1 - 1)) fun d4 => (f112 (d4, d2, ())).bind fun x5 => cond (decide (x5.1 ≥ 0)) (some (false, ())) (rec (t1.1, t1.2.1, t1.2.2.1, (w64 (t1.2.2.2.1 + 1)), ()))) (rec (t1.1, t1.2.1, t1.2.2.1, (w64 (t1.2.2.2.1 + 1)), ()))) (some (false, ()))) (K (t1.1, t1.2.1, t1.2.2.1, t1.2.2.2.1, ()))
noncomputable def F75 (f125 : Place × Unit → Option (Bool × Unit)) (f112 : Place × Place × Unit → Option (Int × Unit)) (f72 : Int × Int × Int × Unit → Option (Bool × Unit)) (a : List Place × Unit) : Option (Bool × Unit) :=
  iterF (s75_0 f125 f112 f72) fuel (a.1, a.1, (Int.ofNat (List.length a.1)), 0, ()) fun t6 => (f72 ((Int.ofNat (List.length t6.1)), 1, 4, ())).bind fun x7 => some (x7.1, ())
def E75 (f125 : Place × Unit → Option (Bool × Unit)) (f112 : Place × Place × Unit → Option (Int × Unit)) (f72 : Int × Int × Int × Unit → Option (Bool × Unit)) : Env := envL [(125, mkE p125 r125 false f125), (112, mkE p112 r112 false f112), (72, mkE p72 r72 false f72)]
noncomputable def L75 (f125 : Place × Unit → Option (Bool × Unit)) (f112 : Place × Place × Unit → Option (Int × Unit)) (f72 : Int × Int × Int × Unit → Option (Bool × Unit)) : LEnv (densS (muts p75 ++ r75)) := lenv [(0, loopL (R := densS (muts p75 ++ r75)) q75_0 (s75_0 f125 f112 f72))]
theorem e75_0 (f125 : Place × Unit → Option (Bool × Unit)) (f112 : Place × Place × Unit → Option (Int × Unit)) (f72 : Int × Int × Int × Unit → Option (Bool × Unit)) (X : Nat → St → Option (densS (muts p75 ++ r75))) (rec K : densS q75_0 → Option (densS (muts p75 ++ r75))) (t : densS q75_0) :
    ev (E75 f125 f112 f72) tab2 (fun _ => false) (L75 f125 f112 f72) (retK tab2 p75 r75 Proofs.Tryz.f75.results.toList) (loopC Proofs.Tryz.f75 0) (fun i s => cond (Nat.beq i 0) (decK 100 q75_0 s K) (X i s)) (fun s => decK 100 q75_0 s rec) (enc q75_0 t) = s75_0 f125 f112 f72 t rec K := by kernel_rfl
theorem e75 (f125 : Place × Unit → Option (Bool × Unit)) (f112 : Place × Place × Unit → Option (Int × Unit)) (f72 : Int × Int × Int × Unit → Option (Bool × Unit)) (a : densS p75) : runF (E75 f125 f112 f72) tab2 (fun _ => false) p75 r75 Proofs.Tryz.f75 (L75 f125 f112 f72) a = F75 f125 f112 f72 a := by kernel_rfl
theorem ok75 {f125 : Place × Unit → Option (Bool × Unit)} {f112 : Place × Place × Unit → Option (Int × Unit)} {f72 : Int × Int × Int × Unit → Option (Bool × Unit)} (h125 : OK Proofs.Tryz.prog 125 (mkE p125 r125 false f125)) (h112 : OK Proofs.Tryz.prog 112 (mkE p112 r112 false f112)) (h72 : OK Proofs.Tryz.prog 72 (mkE p72 r72 false f72)) : OK Proofs.Tryz.prog 75 (mkE p75 r75 false (F75 f125 f112 f72)) :=
  fn_ok tab_ok2 (envL_ok (l := [(125, mkE p125 r125 false f125), (112, mkE p112 r112 false f112), (72, mkE p72 r72 false f72)]) (OKs.cons h125 (OKs.cons h112 (OKs.cons h72 OKs.nil)))) mixed2 (ann := (fun _ => false)) (L := L75 f125 f112 f72) (fn := Proofs.Tryz.f75) (c := bodyC Proofs.Tryz.f75) (ls := [(0, loopC Proofs.Tryz.f75 0)]) Proofs.Tryz.func75 (by kernel_rfl) (by kernel_rfl) (by kernel_rfl) (by kernel_rfl)
    (LoopsP.cons q75_0 (s75_0 f125 f112 f72) rfl (e75_0 f125 f112 f72) LoopsP.nil) (e75 f125 f112 f72)
/-! impl.IsName -/
def p179 : List SP := [.one (.str)]
def r179 : List SP := [.one (.bool)]
def q179_0 : List SP := pat 42 0 [(0, .one (.str)), (6, .one (.int .i64)), (7, .one (.int .i64))]
noncomputable def s179_0 (f72 : Int × Int × Int × Unit → Option (Bool × Unit)) (t1 : Str × Int × Int × Unit) (rec K : Str × Int × Int × Unit → Option (Bool × Unit)) : Option (Bool × Unit) :=
  cond (decide (t1.2.2.1 < t1.2.1)) (rdL t1.1 t1.2.2.1 fun d2 => cond (decide ((Int.ofNat (UInt8.toNat d2)) ≥ 97)) (rdL t1.1 t1.2.2.1 fun d3 => cond (!(decide ((Int.ofNat (UInt8.toNat d3)) ≤ 122))) (cond (!(decide (t1.2.2.1 = 0))) (rdL t1.1 t1.2.2.1 fun d4 => cond (!(decide ((Int.ofNat (UInt8.toNat d4)) < 48))) (rdL t1.1 t1.2.2.1 fun d5 => cond (decide ((Int.ofNat (UInt8.toNat d5)) > 57)) (some (false, ())) (rec (t1.1, t1.2.1, (w64 (t1.2.2.1 + 1)), ()))) (some (false, ()))) (some (false, ()))) (rec (t1.1, t1.2.1, (w64 (t1.2.2.1 + 1)), ()))) (cond (!(decide (t1.2.2.1 = 0))) (rdL t1.1 t1.2.2.1 fun d6 => cond (!(decide ((Int.ofNat (UInt8.toNat d6)) < 48))) (rdL t1.1 t1.2.2.1 fun d7 => cond (decide ((Int.ofNat (UInt8.toNat d7)) > 57)) (some (false, ())) (rec (t1.1, t1.2.1, (w64 (t1.2.2.1 + 1)), ()))) (some (false, ()))) (some (false, ())))) (K (t1.1, t1.2.1, t1.2.2.1, ()))
noncomputable def F179 (f72 : Int × Int × Int × Unit → Option (Bool × Unit)) (a : Str × Unit) : Option (Bool × Unit) :=
  iterF (s179_0 f72) fuel (a.1, (Int.ofNat (List.length a.1)), 0, ()) fun t8 => (f72 ((Int.ofNat (List.length t8.1)), 1, 8, ())).bind fun x9 => some (x9.1, ())
def E179 (f72 : Int × Int × Int × Unit → Option (Bool × Unit)) : Env := envL [(72, mkE p72 r72 false f72)]
noncomputable def L179 (f72 : Int × Int × Int × Unit → Option (Bool × Unit)) : LEnv (densS (muts p179 ++ r179)) := lenv [(0, loopL (R := densS (muts p179 ++ r179)) q179_0 (s179_0 f72))]
theorem e179_0 (f72 : Int × Int × Int × Unit → Option (Bool × Unit)) (X : Nat → St → Option (densS (muts p179 ++ r179))) (rec K : densS q179_0 → Option (densS (muts p179 ++ r179))) (t : densS q179_0) :
    ev (E179 f72) tab2 (fun _ => false) (L179 f72) (retK tab2 p179 r179 Proofs.Tryz.f179.results.toList) (loopC Proofs.Tryz.f179 0) (fun i s => cond (Nat.beq i 0) (decK 100 q179_0 s K) (X i s)) (fun s => decK 100 q179_0 s rec) (enc q179_0 t) = s179_0 f72 t rec K := by kernel_rfl
theorem e179 (f72 : Int × Int × Int × Unit → Option (Bool × Unit)) (a : densS p179) : runF (E179 f72) tab2 (fun _ => false) p179 r179 Proofs.Tryz.f179 (L179 f72) a = F179 f72 a := by kernel_rfl
theorem ok179 {f72 : Int × Int × Int × Unit → Option (Bool × Unit)} (h72 : OK Proofs.Tryz.prog 72 (mkE p72 r72 false f72)) : OK Proofs.Tryz.prog 179 (mkE p179 r179 false (F179 f72)) :=
  fn_ok tab_ok2 (envL_ok (l := [(72, mkE p72 r72 false f72)]) (OKs.cons h72 OKs.nil)) mixed2 (ann := (fun _ => false)) (L := L179 f72) (fn := Proofs.Tryz.f179) (c := bodyC Proofs.Tryz.f179) (ls := [(0, loopC Proofs.Tryz.f179 0)]) Proofs.Tryz.func179 (by kernel_rfl) (by kernel_rfl) (by kernel_rfl) (by kernel_rfl)
    (LoopsP.cons q179_0 (s179_0 f72) rfl (e179_0 f72) LoopsP.nil) (e179 f72)
/-! impl.isSupply -/
def p175 : List SP := [.one (.int .i64)]
def r175 : List SP := [.one (.bool)]
noncomputable def F175 (f72 : Int × Int × Int × Unit → Option (Bool × Unit)) (a : Int × Unit) : Option (Bool × Unit) :=
  (f72 (a.1, 0, 512, ())).bind fun x1 => some (x1.1, ())
def E175 (f72 : Int × Int × Int × Unit → Option (Bool × Unit)) : Env := envL [(72, mkE p72 r72 false f72)]
noncomputable def L175 (f72 : Int × Int × Int × Unit → Option (Bool × Unit)) : LEnv (densS (muts p175 ++ r175)) := lenv []
theorem e175 (f72 : Int × Int × Int × Unit → Option (Bool × Unit)) (a : densS p175) : runF (E175 f72) tab2 (fun _ => false) p175 r175 Proofs.Tryz.f175 (L175 f72) a = F175 f72 a := by kernel_rfl
theorem ok175 {f72 : Int × Int × Int × Unit → Option (Bool × Unit)} (h72 : OK Proofs.Tryz.prog 72 (mkE p72 r72 false f72)) : OK Proofs.Tryz.prog 175 (mkE p175 r175 false (F175 f72)) :=
  fn_ok tab_ok2 (envL_ok (l := [(72, mkE p72 r72 false f72)]) (OKs.cons h72 OKs.nil)) mixed2 (ann := (fun _ => false)) (L := L175 f72) (fn := Proofs.Tryz.f175) (c := bodyC Proofs.Tryz.f175) (ls := []) Proofs.Tryz.func175 (by kernel_rfl) (by kernel_rfl) (by kernel_rfl) (by kernel_rfl)
    LoopsP.nil (e175 f72)
/-! impl.IsHeading -/
def p95 : List SP := [.one (.int .i64)]
def r95 : List SP := [.one (.bool)]
noncomputable def F95 (f72 : Int × Int × Int × Unit → Option (Bool × Unit)) (a : Int × Unit) : Option (Bool × Unit) :=
  (f72 (a.1, 0, 3, ())).bind fun x1 => some (x1.1, ())
def E95 (f72 : Int × Int × Int × Unit → Option (Bool × Unit)) : Env := envL [(72, mkE p72 r72 false f72)]
noncomputable def L95 (f72 : Int × Int × Int × Unit → Option (Bool × Unit)) : LEnv (densS (muts p95 ++ r95)) := lenv []
theorem e95 (f72 : Int × Int × Int × Unit → Option (Bool × Unit)) (a : densS p95) : runF (E95 f72) tab2 (fun _ => false) p95 r95 Proofs.Tryz.f95 (L95 f72) a = F95 f72 a := by kernel_rfl
theorem ok95 {f72 : Int × Int × Int × Unit → Option (Bool × Unit)} (h72 : OK Proofs.Tryz.prog 72 (mkE p72 r72 false f72)) : OK Proofs.Tryz.prog 95 (mkE p95 r95 false (F95 f72)) :=
  fn_ok tab_ok2 (envL_ok (l := [(72, mkE p72 r72 false f72)]) (OKs.cons h72 OKs.nil)) mixed2 (ann := (fun _ => false)) (L := L95 f72) (fn := Proofs.Tryz.f95) (c := bodyC Proofs.Tryz.f95) (ls := []) Proofs.Tryz.func95 (by kernel_rfl) (by kernel_rfl) (by kernel_rfl) (by kernel_rfl)
    LoopsP.nil (e95 f72)
/-! impl.IsJet -/
def p70 : List SP := [.t .jet]
def r70 : List SP := [.one (.bool)]
noncomputable def F70 (f72 : Int × Int × Int × Unit → Option (Bool × Unit)) (f95 : Int × Unit → Option (Bool × Unit)) (a : Jet × Unit) : Option (Bool × Unit) :=
  (f72 (a.1.At.X, (-1024), 1024, ())).bind fun x1 => cond x1.1 ((f72 (a.1.At.Y, (-1024), 1024, ())).bind fun x2 => cond x2.1 ((f95 (a.1.Heading, ())).bind fun x3 => cond x3.1 ((f72 (a.1.Tilt, 0, 16, ())).bind fun x4 => cond x4.1 ((f72 (a.1.Lift, 1, 32, ())).bind fun x5 => some (x5.1, ())) (some (false, ()))) (some (false, ()))) (some (false, ()))) (some (false, ()))
def E70 (f72 : Int × Int × Int × Unit → Option (Bool × Unit)) (f95 : Int × Unit → Option (Bool × Unit)) : Env := envL [(72, mkE p72 r72 false f72), (95, mkE p95 r95 false f95)]
noncomputable def L70 (f72 : Int × Int × Int × Unit → Option (Bool × Unit)) (f95 : Int × Unit → Option (Bool × Unit)) : LEnv (densS (muts p70 ++ r70)) := lenv []
theorem e70 (f72 : Int × Int × Int × Unit → Option (Bool × Unit)) (f95 : Int × Unit → Option (Bool × Unit)) (a : densS p70) : runF (E70 f72 f95) tab2 (fun _ => false) p70 r70 Proofs.Tryz.f70 (L70 f72 f95) a = F70 f72 f95 a := by kernel_rfl
theorem ok70 {f72 : Int × Int × Int × Unit → Option (Bool × Unit)} {f95 : Int × Unit → Option (Bool × Unit)} (h72 : OK Proofs.Tryz.prog 72 (mkE p72 r72 false f72)) (h95 : OK Proofs.Tryz.prog 95 (mkE p95 r95 false f95)) : OK Proofs.Tryz.prog 70 (mkE p70 r70 false (F70 f72 f95)) :=
  fn_ok tab_ok2 (envL_ok (l := [(72, mkE p72 r72 false f72), (95, mkE p95 r95 false f95)]) (OKs.cons h72 (OKs.cons h95 OKs.nil))) mixed2 (ann := (fun _ => false)) (L := L70 f72 f95) (fn := Proofs.Tryz.f70) (c := bodyC Proofs.Tryz.f70) (ls := []) Proofs.Tryz.func70 (by kernel_rfl) (by kernel_rfl) (by kernel_rfl) (by kernel_rfl)
    LoopsP.nil (e70 f72 f95)
/-! impl.IsMeasure -/
def p96 : List SP := [.one (.int .i64)]
def r96 : List SP := [.one (.bool)]
noncomputable def F96 (f72 : Int × Int × Int × Unit → Option (Bool × Unit)) (a : Int × Unit) : Option (Bool × Unit) :=
  (f72 (a.1, (-4096), 4096, ())).bind fun x1 => some (x1.1, ())
def E96 (f72 : Int × Int × Int × Unit → Option (Bool × Unit)) : Env := envL [(72, mkE p72 r72 false f72)]
noncomputable def L96 (f72 : Int × Int × Int × Unit → Option (Bool × Unit)) : LEnv (densS (muts p96 ++ r96)) := lenv []
theorem e96 (f72 : Int × Int × Int × Unit → Option (Bool × Unit)) (a : densS p96) : runF (E96 f72) tab2 (fun _ => false) p96 r96 Proofs.Tryz.f96 (L96 f72) a = F96 f72 a := by kernel_rfl
theorem ok96 {f72 : Int × Int × Int × Unit → Option (Bool × Unit)} (h72 : OK Proofs.Tryz.prog 72 (mkE p72 r72 false f72)) : OK Proofs.Tryz.prog 96 (mkE p96 r96 false (F96 f72)) :=
  fn_ok tab_ok2 (envL_ok (l := [(72, mkE p72 r72 false f72)]) (OKs.cons h72 OKs.nil)) mixed2 (ann := (fun _ => false)) (L := L96 f72) (fn := Proofs.Tryz.f96) (c := bodyC Proofs.Tryz.f96) (ls := []) Proofs.Tryz.func96 (by kernel_rfl) (by kernel_rfl) (by kernel_rfl) (by kernel_rfl)
    LoopsP.nil (e96 f72)
/-! impl.IsPlace -/
def p92 : List SP := [.t .place]
def r92 : List SP := [.one (.bool)]
noncomputable def F92 (f96 : Int × Unit → Option (Bool × Unit)) (a : Place × Unit) : Option (Bool × Unit) :=
  (f96 (a.1.X, ())).bind fun x1 => cond x1.1 ((f96 (a.1.Y, ())).bind fun x2 => some (x2.1, ())) (some (false, ()))
def E92 (f96 : Int × Unit → Option (Bool × Unit)) : Env := envL [(96, mkE p96 r96 false f96)]
noncomputable def L92 (f96 : Int × Unit → Option (Bool × Unit)) : LEnv (densS (muts p92 ++ r92)) := lenv []
theorem e92 (f96 : Int × Unit → Option (Bool × Unit)) (a : densS p92) : runF (E92 f96) tab2 (fun _ => false) p92 r92 Proofs.Tryz.f92 (L92 f96) a = F92 f96 a := by kernel_rfl
theorem ok92 {f96 : Int × Unit → Option (Bool × Unit)} (h96 : OK Proofs.Tryz.prog 96 (mkE p96 r96 false f96)) : OK Proofs.Tryz.prog 92 (mkE p92 r92 false (F92 f96)) :=
  fn_ok tab_ok2 (envL_ok (l := [(96, mkE p96 r96 false f96)]) (OKs.cons h96 OKs.nil)) mixed2 (ann := (fun _ => false)) (L := L92 f96) (fn := Proofs.Tryz.f92) (c := bodyC Proofs.Tryz.f92) (ls := []) Proofs.Tryz.func92 (by kernel_rfl) (by kernel_rfl) (by kernel_rfl) (by kernel_rfl)
    LoopsP.nil (e92 f96)
/-! impl.IsDevice -/
def p130 : List SP := [.t .device]
def r130 : List SP := [.one (.bool)]
noncomputable def F130 (f179 : Str × Unit → Option (Bool × Unit)) (f175 : Int × Unit → Option (Bool × Unit)) (f70 : Jet × Unit → Option (Bool × Unit)) (f72 : Int × Int × Int × Unit → Option (Bool × Unit)) (f92 : Place × Unit → Option (Bool × Unit)) (a : Device × Unit) : Option (Bool × Unit) :=
  (f179 (a.1.Name, ())).bind fun x1 => cond (!x1.1) (some (false, ())) (cond (decide (a.1.Kind = 1)) (cond (decide (a.1.Name = a.1.Name) && (decide (a.1.Kind = a.1.Kind) && (decide (a.1.Line = []) && (decide (a.1.At.X = 0) && (decide (a.1.At.Y = 0) && (decide (a.1.Heading = 0) && (decide (a.1.Tilt = 0) && (decide (a.1.Most = a.1.Most) && true)))))))) ((f175 (a.1.Most, ())).bind fun x2 => some (x2.1, ())) (some (false, ()))) (cond (decide (a.1.Kind = 2)) ((f179 (a.1.Line, ())).bind fun x3 => cond x3.1 (cond (!decide (a.1.Line = a.1.Name)) ((f70 ((⟨⟨a.1.At.X, a.1.At.Y⟩, a.1.Heading, a.1.Tilt, 1⟩ : Jet), ())).bind fun x4 => cond x4.1 ((f72 (a.1.Most, 0, 32, ())).bind fun x5 => some (x5.1, ())) (some (false, ()))) (some (false, ()))) (some (false, ()))) (cond (decide (a.1.Kind = 3)) (cond (decide (a.1.Name = a.1.Name) && (decide (a.1.Kind = a.1.Kind) && (decide (a.1.Line = a.1.Line) && (decide (a.1.At.X = a.1.At.X) && (decide (a.1.At.Y = a.1.At.Y) && (decide (a.1.Heading = 0) && (decide (a.1.Tilt = 0) && (decide (a.1.Most = 0) && true)))))))) ((f179 (a.1.Line, ())).bind fun x6 => cond x6.1 (cond (!decide (a.1.Line = a.1.Name)) ((f92 (a.1.At, ())).bind fun x7 => some (x7.1, ())) (some (false, ()))) (some (false, ()))) (some (false, ()))) (some (false, ())))))
def E130 (f179 : Str × Unit → Option (Bool × Unit)) (f175 : Int × Unit → Option (Bool × Unit)) (f70 : Jet × Unit → Option (Bool × Unit)) (f72 : Int × Int × Int × Unit → Option (Bool × Unit)) (f92 : Place × Unit → Option (Bool × Unit)) : Env := envL [(179, mkE p179 r179 false f179), (175, mkE p175 r175 false f175), (70, mkE p70 r70 false f70), (72, mkE p72 r72 false f72), (92, mkE p92 r92 false f92)]
noncomputable def L130 (f179 : Str × Unit → Option (Bool × Unit)) (f175 : Int × Unit → Option (Bool × Unit)) (f70 : Jet × Unit → Option (Bool × Unit)) (f72 : Int × Int × Int × Unit → Option (Bool × Unit)) (f92 : Place × Unit → Option (Bool × Unit)) : LEnv (densS (muts p130 ++ r130)) := lenv []
theorem e130 (f179 : Str × Unit → Option (Bool × Unit)) (f175 : Int × Unit → Option (Bool × Unit)) (f70 : Jet × Unit → Option (Bool × Unit)) (f72 : Int × Int × Int × Unit → Option (Bool × Unit)) (f92 : Place × Unit → Option (Bool × Unit)) (a : densS p130) : runF (E130 f179 f175 f70 f72 f92) tab2 (fun _ => false) p130 r130 Proofs.Tryz.f130 (L130 f179 f175 f70 f72 f92) a = F130 f179 f175 f70 f72 f92 a := by kernel_rfl
theorem ok130 {f179 : Str × Unit → Option (Bool × Unit)} {f175 : Int × Unit → Option (Bool × Unit)} {f70 : Jet × Unit → Option (Bool × Unit)} {f72 : Int × Int × Int × Unit → Option (Bool × Unit)} {f92 : Place × Unit → Option (Bool × Unit)} (h179 : OK Proofs.Tryz.prog 179 (mkE p179 r179 false f179)) (h175 : OK Proofs.Tryz.prog 175 (mkE p175 r175 false f175)) (h70 : OK Proofs.Tryz.prog 70 (mkE p70 r70 false f70)) (h72 : OK Proofs.Tryz.prog 72 (mkE p72 r72 false f72)) (h92 : OK Proofs.Tryz.prog 92 (mkE p92 r92 false f92)) : OK Proofs.Tryz.prog 130 (mkE p130 r130 false (F130 f179 f175 f70 f72 f92)) :=
  fn_ok tab_ok2 (envL_ok (l := [(179, mkE p179 r179 false f179), (175, mkE p175 r175 false f175), (70, mkE p70 r70 false f70), (72, mkE p72 r72 false f72), (92, mkE p92 r92 false f92)]) (OKs.cons h179 (OKs.cons h175 (OKs.cons h70 (OKs.cons h72 (OKs.cons h92 OKs.nil)))))) mixed2 (ann := (fun _ => false)) (L := L130 f179 f175 f70 f72 f92) (fn := Proofs.Tryz.f130) (c := bodyC Proofs.Tryz.f130) (ls := []) Proofs.Tryz.func130 (by kernel_rfl) (by kernel_rfl) (by kernel_rfl) (by kernel_rfl)
    LoopsP.nil (e130 f179 f175 f70 f72 f92)
/-! impl.FindDevice$1 -/
def p122 : List SP := [.t .device, .sp [.str]]
def r122 : List SP := [.one (.bool)]
noncomputable def F122 (a : Device × (Str × Unit) × Unit) : Option (Bool × Unit) :=
  some ((decide (a.1.Name = a.2.1.1)), ())
def E122 : Env := envL []
noncomputable def L122 : LEnv (densS (muts p122 ++ r122)) := lenv []
theorem e122 (a : densS p122) : runF (E122) tab2 (fun _ => false) p122 r122 Proofs.Tryz.f122 (L122) a = F122 a := by kernel_rfl
theorem ok122 : OK Proofs.Tryz.prog 122 (mkE p122 r122 false (F122)) :=
  fn_ok tab_ok2 (envL_ok (l := []) OKs.nil) mixed2 (ann := (fun _ => false)) (L := L122) (fn := Proofs.Tryz.f122) (c := bodyC Proofs.Tryz.f122) (ls := []) Proofs.Tryz.func122 (by kernel_rfl) (by kernel_rfl) (by kernel_rfl) (by kernel_rfl)
    LoopsP.nil (e122)
/-! slices.IndexFunc[[]impl.Device,impl.Device] -/
def p121 : List SP := [.one (.r .device), .fn 122 [.str]]
def r121 : List SP := [.one (.int .i64)]
def q121_0 : List SP := pat 19 0 [(0, .one (.r .device)), (1, .fn 122 [.str]), (7, .one (.int .i64)), (8, .one (.int .i64))]
noncomputable def s121_0 (f122 : Device × (Str × Unit) × Unit → Option (Bool × Unit)) (t1 : List Device × (Str × Unit) × Int × Int × Unit) (rec K : List Device × (Str × Unit) × Int × Int × Unit → Option (Int × Unit)) : Option (Int × Unit) :=
  cond (decide (t1.2.2.2.1 < t1.2.2.1)) (rdL t1.1 t1.2.2.2.1 fun d2 => (f122 (d2, (t1.2.1.1, ()), ())).bind fun x3 => cond x3.1 (some (t1.2.2.2.1, ())) (rec (t1.1, (t1.2.1.1, ()), t1.2.2.1, (w64 (t1.2.2.2.1 + 1)), ()))) (K (t1.1, (t1.2.1.1, ()), t1.2.2.1, t1.2.2.2.1, ()))
noncomputable def F121 (f122 : Device × (Str × Unit) × Unit → Option (Bool × Unit)) (a : List Device × (Str × Unit) × Unit) : Option (Int × Unit) :=
  iterF (s121_0 f122) fuel (a.1, (a.2.1.1, ()), (Int.ofNat (List.length a.1)), 0, ()) fun t4 => some ((-1), ())
def E121 (f122 : Device × (Str × Unit) × Unit → Option (Bool × Unit)) : Env := envL [(122, mkE p122 r122 false f122)]
noncomputable def L121 (f122 : Device × (Str × Unit) × Unit → Option (Bool × Unit)) : LEnv (densS (muts p121 ++ r121)) := lenv [(0, loopL (R := densS (muts p121 ++ r121)) q121_0 (s121_0 f122))]
theorem e121_0 (f122 : Device × (Str × Unit) × Unit → Option (Bool × Unit)) (X : Nat → St → Option (densS (muts p121 ++ r121))) (rec K : densS q121_0 → Option (densS (muts p121 ++ r121))) (t : densS q121_0) :
    ev (E121 f122) tab2 (fun _ => false) (L121 f122) (retK tab2 p121 r121 Proofs.Tryz.f121.results.toList) (loopC Proofs.Tryz.f121 0) (fun i s => cond (Nat.beq i 0) (decK 100 q121_0 s K) (X i s)) (fun s => decK 100 q121_0 s rec) (enc q121_0 t) = s121_0 f122 t rec K := by kernel_rfl
theorem e121 (f122 : Device × (Str × Unit) × Unit → Option (Bool × Unit)) (a : densS p121) : runF (E121 f122) tab2 (fun _ => false) p121 r121 Proofs.Tryz.f121 (L121 f122) a = F121 f122 a := by kernel_rfl
theorem ok121 {f122 : Device × (Str × Unit) × Unit → Option (Bool × Unit)} (h122 : OK Proofs.Tryz.prog 122 (mkE p122 r122 false f122)) : OK Proofs.Tryz.prog 121 (mkE p121 r121 false (F121 f122)) :=
  fn_ok tab_ok2 (envL_ok (l := [(122, mkE p122 r122 false f122)]) (OKs.cons h122 OKs.nil)) mixed2 (ann := (fun _ => false)) (L := L121 f122) (fn := Proofs.Tryz.f121) (c := bodyC Proofs.Tryz.f121) (ls := [(0, loopC Proofs.Tryz.f121 0)]) Proofs.Tryz.func121 (by kernel_rfl) (by kernel_rfl) (by kernel_rfl) (by kernel_rfl)
    (LoopsP.cons q121_0 (s121_0 f122) rfl (e121_0 f122) LoopsP.nil) (e121 f122)
/-! impl.FindDevice -/
def p66 : List SP := [.one (.r .device), .one (.str)]
def r66 : List SP := [.one (.int .i64)]
noncomputable def F66 (f121 : List Device × (Str × Unit) × Unit → Option (Int × Unit)) (a : List Device × Str × Unit) : Option (Int × Unit) :=
  (f121 (a.1, (a.2.1, ()), ())).bind fun x1 => some (x1.1, ())
def E66 (f121 : List Device × (Str × Unit) × Unit → Option (Int × Unit)) : Env := envL [(121, mkE p121 r121 false f121)]
noncomputable def L66 (f121 : List Device × (Str × Unit) × Unit → Option (Int × Unit)) : LEnv (densS (muts p66 ++ r66)) := lenv []
theorem e66 (f121 : List Device × (Str × Unit) × Unit → Option (Int × Unit)) (a : densS p66) : runF (E66 f121) tab2 (fun _ => false) p66 r66 Proofs.Tryz.f66 (L66 f121) a = F66 f121 a := by kernel_rfl
theorem ok66 {f121 : List Device × (Str × Unit) × Unit → Option (Int × Unit)} (h121 : OK Proofs.Tryz.prog 121 (mkE p121 r121 false f121)) : OK Proofs.Tryz.prog 66 (mkE p66 r66 false (F66 f121)) :=
  fn_ok tab_ok2 (envL_ok (l := [(121, mkE p121 r121 false f121)]) (OKs.cons h121 OKs.nil)) mixed2 (ann := (fun _ => false)) (L := L66 f121) (fn := Proofs.Tryz.f66) (c := bodyC Proofs.Tryz.f66) (ls := []) Proofs.Tryz.func66 (by kernel_rfl) (by kernel_rfl) (by kernel_rfl) (by kernel_rfl)
    LoopsP.nil (e66 f121)
/-! impl.isHung -/
def p143 : List SP := [.one (.r .device), .t .device]
def r143 : List SP := [.one (.bool)]
noncomputable def F143 (f66 : List Device × Str × Unit → Option (Int × Unit)) (a : List Device × Device × Unit) : Option (Bool × Unit) :=
  cond (decide (a.2.1.Kind = 1)) (some (true, ())) ((f66 (a.1, a.2.1.Line, ())).bind fun x1 => cond (decide (x1.1 ≥ 0)) (rdL a.1 x1.1 fun d2 => some ((decide (d2.Kind = (w64 (a.2.1.Kind - 1)))), ())) (some (false, ())))
def E143 (f66 : List Device × Str × Unit → Option (Int × Unit)) : Env := envL [(66, mkE p66 r66 false f66)]
noncomputable def L143 (f66 : List Device × Str × Unit → Option (Int × Unit)) : LEnv (densS (muts p143 ++ r143)) := lenv []
theorem e143 (f66 : List Device × Str × Unit → Option (Int × Unit)) (a : densS p143) : runF (E143 f66) tab2 (fun _ => false) p143 r143 Proofs.Tryz.f143 (L143 f66) a = F143 f66 a := by kernel_rfl
theorem ok143 {f66 : List Device × Str × Unit → Option (Int × Unit)} (h66 : OK Proofs.Tryz.prog 66 (mkE p66 r66 false f66)) : OK Proofs.Tryz.prog 143 (mkE p143 r143 false (F143 f66)) :=
  fn_ok tab_ok2 (envL_ok (l := [(66, mkE p66 r66 false f66)]) (OKs.cons h66 OKs.nil)) mixed2 (ann := (fun _ => false)) (L := L143 f66) (fn := Proofs.Tryz.f143) (c := bodyC Proofs.Tryz.f143) (ls := []) Proofs.Tryz.func143 (by kernel_rfl) (by kernel_rfl) (by kernel_rfl) (by kernel_rfl)
    LoopsP.nil (e143 f66)
/-! impl.IsRig -/
def p90 : List SP := [.one (.r .device)]
def r90 : List SP := [.one (.bool)]
def q90_0 : List SP := pat 40 0 [(0, .one (.r .device)), (8, .one (.r .device)), (9, .one (.int .i64)), (10, .one (.int .i64))]
noncomputable def s90_0 (f130 : Device × Unit → Option (Bool × Unit)) (f143 : List Device × Device × Unit → Option (Bool × Unit)) (t1 : List Device × List Device × Int × Int × Unit) (rec K : List Device × List Device × Int × Int × Unit → Option (Bool × Unit)) : Option (Bool × Unit) :=
  cond (decide (t1.2.2.2.1 < t1.2.2.1)) (rdL t1.2.1 t1.2.2.2.1 fun d2 => (f130 (d2, ())).bind fun x3 => cond (!(!x3.1)) (cond (decide (t1.2.2.2.1 > 0)) (rdL t1.1 (w64 (t1.2.2.2.1 - 1)) fun d4 => cond (!(Op.bytesLess d2.Name d4.Name || decide (d2.Name = d4.Name))) ((f143 (t1.1, d2, ())).bind fun x5 => cond (!x5.1) (some (false, ())) (rec (t1.1, t1.2.1, t1.2.2.1, (w64 (t1.2.2.2.1 + 1)), ()))) (some (false, ()))) ((f143 (t1.1, d2, ())).bind fun x6 => cond (!x6.1) (some (false, ())) (rec (t1.1, t1.2.1, t1.2.2.1, (w64 (t1.2.2.2.1 + 1)), ())))) (some (false, ()))) (K (t1.1, t1.2.1, t1.2.2.1, t1.2.2.2.1, ()))
noncomputable def F90 (f130 : Device × Unit → Option (Bool × Unit)) (f143 : List Device × Device × Unit → Option (Bool × Unit)) (a : List Device × Unit) : Option (Bool × Unit) :=
  cond (decide ((Int.ofNat (List.length a.1)) > 8)) (some (false, ())) (iterF (s90_0 f130 f143) fuel (a.1, a.1, (Int.ofNat (List.length a.1)), 0, ()) fun t7 => some (true, ()))
def E90 (f130 : Device × Unit → Option (Bool × Unit)) (f143 : List Device × Device × Unit → Option (Bool × Unit)) : Env := envL [(130, mkE p130 r130 false f130), (143, mkE p143 r143 false f143)]
noncomputable def L90 (f130 : Device × Unit → Option (Bool × Unit)) (f143 : List Device × Device × Unit → Option (Bool × Unit)) : LEnv (densS (muts p90 ++ r90)) := lenv [(0, loopL (R := densS (muts p90 ++ r90)) q90_0 (s90_0 f130 f143))]
theorem e90_0 (f130 : Device × Unit → Option (Bool × Unit)) (f143 : List Device × Device × Unit → Option (Bool × Unit)) (X : Nat → St → Option (densS (muts p90 ++ r90))) (rec K : densS q90_0 → Option (densS (muts p90 ++ r90))) (t : densS q90_0) :
    ev (E90 f130 f143) tab2 (fun _ => false) (L90 f130 f143) (retK tab2 p90 r90 Proofs.Tryz.f90.results.toList) (loopC Proofs.Tryz.f90 0) (fun i s => cond (Nat.beq i 0) (decK 100 q90_0 s K) (X i s)) (fun s => decK 100 q90_0 s rec) (enc q90_0 t) = s90_0 f130 f143 t rec K := by kernel_rfl
theorem e90 (f130 : Device × Unit → Option (Bool × Unit)) (f143 : List Device × Device × Unit → Option (Bool × Unit)) (a : densS p90) : runF (E90 f130 f143) tab2 (fun _ => false) p90 r90 Proofs.Tryz.f90 (L90 f130 f143) a = F90 f130 f143 a := by kernel_rfl
theorem ok90 {f130 : Device × Unit → Option (Bool × Unit)} {f143 : List Device × Device × Unit → Option (Bool × Unit)} (h130 : OK Proofs.Tryz.prog 130 (mkE p130 r130 false f130)) (h143 : OK Proofs.Tryz.prog 143 (mkE p143 r143 false f143)) : OK Proofs.Tryz.prog 90 (mkE p90 r90 false (F90 f130 f143)) :=
  fn_ok tab_ok2 (envL_ok (l := [(130, mkE p130 r130 false f130), (143, mkE p143 r143 false f143)]) (OKs.cons h130 (OKs.cons h143 OKs.nil))) mixed2 (ann := (fun _ => false)) (L := L90 f130 f143) (fn := Proofs.Tryz.f90) (c := bodyC Proofs.Tryz.f90) (ls := [(0, loopC Proofs.Tryz.f90 0)]) Proofs.Tryz.func90 (by kernel_rfl) (by kernel_rfl) (by kernel_rfl) (by kernel_rfl)
    (LoopsP.cons q90_0 (s90_0 f130 f143) rfl (e90_0 f130 f143) LoopsP.nil) (e90 f130 f143)
/-! impl.IsCue -/
def p144 : List SP := [.t .cue]
def r144 : List SP := [.one (.bool)]
noncomputable def F144 (f72 : Int × Int × Int × Unit → Option (Bool × Unit)) (f179 : Str × Unit → Option (Bool × Unit)) (a : Cue × Unit) : Option (Bool × Unit) :=
  (f72 (a.1.Tick, 0, 64, ())).bind fun x1 => cond x1.1 ((f179 (a.1.Name, ())).bind fun x2 => cond x2.1 ((f72 (a.1.Level, 0, 32, ())).bind fun x3 => cond x3.1 ((f72 (a.1.Ramp, 0, 16, ())).bind fun x4 => some (x4.1, ())) (some (false, ()))) (some (false, ()))) (some (false, ()))
def E144 (f72 : Int × Int × Int × Unit → Option (Bool × Unit)) (f179 : Str × Unit → Option (Bool × Unit)) : Env := envL [(72, mkE p72 r72 false f72), (179, mkE p179 r179 false f179)]
noncomputable def L144 (f72 : Int × Int × Int × Unit → Option (Bool × Unit)) (f179 : Str × Unit → Option (Bool × Unit)) : LEnv (densS (muts p144 ++ r144)) := lenv []
theorem e144 (f72 : Int × Int × Int × Unit → Option (Bool × Unit)) (f179 : Str × Unit → Option (Bool × Unit)) (a : densS p144) : runF (E144 f72 f179) tab2 (fun _ => false) p144 r144 Proofs.Tryz.f144 (L144 f72 f179) a = F144 f72 f179 a := by kernel_rfl
theorem ok144 {f72 : Int × Int × Int × Unit → Option (Bool × Unit)} {f179 : Str × Unit → Option (Bool × Unit)} (h72 : OK Proofs.Tryz.prog 72 (mkE p72 r72 false f72)) (h179 : OK Proofs.Tryz.prog 179 (mkE p179 r179 false f179)) : OK Proofs.Tryz.prog 144 (mkE p144 r144 false (F144 f72 f179)) :=
  fn_ok tab_ok2 (envL_ok (l := [(72, mkE p72 r72 false f72), (179, mkE p179 r179 false f179)]) (OKs.cons h72 (OKs.cons h179 OKs.nil))) mixed2 (ann := (fun _ => false)) (L := L144 f72 f179) (fn := Proofs.Tryz.f144) (c := bodyC Proofs.Tryz.f144) (ls := []) Proofs.Tryz.func144 (by kernel_rfl) (by kernel_rfl) (by kernel_rfl) (by kernel_rfl)
    LoopsP.nil (e144 f72 f179)
/-! cmp.isNaN[string] -/
def p217 : List SP := [.one (.str)]
def r217 : List SP := [.one (.bool)]
noncomputable def F217 (a : Str × Unit) : Option (Bool × Unit) :=
  some ((!decide (a.1 = a.1)), ())
def E217 : Env := envL []
noncomputable def L217 : LEnv (densS (muts p217 ++ r217)) := lenv []
theorem e217 (a : densS p217) : runF (E217) tab2 (fun _ => false) p217 r217 Proofs.Tryz.f217 (L217) a = F217 a := by kernel_rfl
theorem ok217 : OK Proofs.Tryz.prog 217 (mkE p217 r217 false (F217)) :=
  fn_ok tab_ok2 (envL_ok (l := []) OKs.nil) mixed2 (ann := (fun _ => false)) (L := L217) (fn := Proofs.Tryz.f217) (c := bodyC Proofs.Tryz.f217) (ls := []) Proofs.Tryz.func217 (by kernel_rfl) (by kernel_rfl) (by kernel_rfl) (by kernel_rfl)
    LoopsP.nil (e217)
/-! cmp.Compare[string] -/
def p185 : List SP := [.one (.str), .one (.str)]
def r185 : List SP := [.one (.int .i64)]
noncomputable def F185 (f217 : Str × Unit → Option (Bool × Unit)) (a : Str × Str × Unit) : Option (Int × Unit) :=
  (f217 (a.1, ())).bind fun x1 => (f217 (a.2.1, ())).bind fun x2 => cond x1.1 (cond x2.1 (some (0, ())) (some ((-1), ()))) (cond x2.1 (some (1, ())) (cond (Op.bytesLess a.1 a.2.1) (some ((-1), ())) (cond (!(Op.bytesLess a.1 a.2.1 || decide (a.1 = a.2.1))) (some (1, ())) (some (0, ())))))
def E185 (f217 : Str × Unit → Option (Bool × Unit)) : Env := envL [(217, mkE p217 r217 false f217)]
noncomputable def L185 (f217 : Str × Unit → Option (Bool × Unit)) : LEnv (densS (muts p185 ++ r185)) := lenv []
theorem e185 (f217 : Str × Unit → Option (Bool × Unit)) (a : densS p185) : runF (E185 f217) tab2 (fun _ => false) p185 r185 Proofs.Tryz.f185 (L185 f217) a = F185 f217 a := by kernel_rfl
theorem ok185 {f217 : Str × Unit → Option (Bool × Unit)} (h217 : OK Proofs.Tryz.prog 217 (mkE p217 r217 false f217)) : OK Proofs.Tryz.prog 185 (mkE p185 r185 false (F185 f217)) :=
  fn_ok tab_ok2 (envL_ok (l := [(217, mkE p217 r217 false f217)]) (OKs.cons h217 OKs.nil)) mixed2 (ann := (fun _ => false)) (L := L185 f217) (fn := Proofs.Tryz.f185) (c := bodyC Proofs.Tryz.f185) (ls := []) Proofs.Tryz.func185 (by kernel_rfl) (by kernel_rfl) (by kernel_rfl) (by kernel_rfl)
    LoopsP.nil (e185 f217)
/-! impl.CompareCues -/
def p145 : List SP := [.t .cue, .t .cue]
def r145 : List SP := [.one (.int .i64)]
noncomputable def F145 (f163 : Int × Int × Unit → Option (Int × Unit)) (f185 : Str × Str × Unit → Option (Int × Unit)) (f162 : List Int × Unit → Option (Int × Unit)) (a : Cue × Cue × Unit) : Option (Int × Unit) :=
  (f163 (a.1.Tick, a.2.1.Tick, ())).bind fun x1 => (f185 (a.1.Name, a.2.1.Name, ())).bind fun x2 => (f162 (([x1.1, x2.1] : List Int), ())).bind fun x3 => some (x3.1, ())
def E145 (f163 : Int × Int × Unit → Option (Int × Unit)) (f185 : Str × Str × Unit → Option (Int × Unit)) (f162 : List Int × Unit → Option (Int × Unit)) : Env := envL [(163, mkE p163 r163 false f163), (185, mkE p185 r185 false f185), (162, mkE p162 r162 false f162)]
noncomputable def L145 (f163 : Int × Int × Unit → Option (Int × Unit)) (f185 : Str × Str × Unit → Option (Int × Unit)) (f162 : List Int × Unit → Option (Int × Unit)) : LEnv (densS (muts p145 ++ r145)) := lenv []
theorem e145 (f163 : Int × Int × Unit → Option (Int × Unit)) (f185 : Str × Str × Unit → Option (Int × Unit)) (f162 : List Int × Unit → Option (Int × Unit)) (a : densS p145) : runF (E145 f163 f185 f162) tab2 (fun _ => false) p145 r145 Proofs.Tryz.f145 (L145 f163 f185 f162) a = F145 f163 f185 f162 a := by kernel_rfl
theorem ok145 {f163 : Int × Int × Unit → Option (Int × Unit)} {f185 : Str × Str × Unit → Option (Int × Unit)} {f162 : List Int × Unit → Option (Int × Unit)} (h163 : OK Proofs.Tryz.prog 163 (mkE p163 r163 false f163)) (h185 : OK Proofs.Tryz.prog 185 (mkE p185 r185 false f185)) (h162 : OK Proofs.Tryz.prog 162 (mkE p162 r162 false f162)) : OK Proofs.Tryz.prog 145 (mkE p145 r145 false (F145 f163 f185 f162)) :=
  fn_ok tab_ok2 (envL_ok (l := [(163, mkE p163 r163 false f163), (185, mkE p185 r185 false f185), (162, mkE p162 r162 false f162)]) (OKs.cons h163 (OKs.cons h185 (OKs.cons h162 OKs.nil)))) mixed2 (ann := (fun _ => false)) (L := L145 f163 f185 f162) (fn := Proofs.Tryz.f145) (c := bodyC Proofs.Tryz.f145) (ls := []) Proofs.Tryz.func145 (by kernel_rfl) (by kernel_rfl) (by kernel_rfl) (by kernel_rfl)
    LoopsP.nil (e145 f163 f185 f162)
/-! impl.IsScore -/
def p91 : List SP := [.one (.r .cue)]
def r91 : List SP := [.one (.bool)]
def q91_0 : List SP := pat 33 0 [(0, .one (.r .cue)), (5, .one (.r .cue)), (6, .one (.int .i64)), (7, .one (.int .i64))]
noncomputable def s91_0 (f144 : Cue × Unit → Option (Bool × Unit)) (f145 : Cue × Cue × Unit → Option (Int × Unit)) (t1 : List Cue × List Cue × Int × Int × Unit) (rec K : List Cue × List Cue × Int × Int × Unit → Option (Bool × Unit)) : Option (Bool × Unit) :=
  cond (decide (t1.2.2.2.1 < t1.2.2.1)) (rdL t1.2.1 t1.2.2.2.1 fun d2 => (f144 (d2, ())).bind fun x3 => cond (!(!x3.1)) (cond (decide (t1.2.2.2.1 > 0)) (rdL t1.1 (w64 (t1.2.2.2.1 - 1)) fun d4 => (f145 (d4, d2, ())).bind fun x5 => cond (decide (x5.1 ≥ 0)) (some (false, ())) (rec (t1.1, t1.2.1, t1.2.2.1, (w64 (t1.2.2.2.1 + 1)), ()))) (rec (t1.1, t1.2.1, t1.2.2.1, (w64 (t1.2.2.2.1 + 1)), ()))) (some (false, ()))) (K (t1.1, t1.2.1, t1.2.2.1, t1.2.2.2.1, ()))
noncomputable def F91 (f144 : Cue × Unit → Option (Bool × Unit)) (f145 : Cue × Cue × Unit → Option (Int × Unit)) (a : List Cue × Unit) : Option (Bool × Unit) :=
  iterF (s91_0 f144 f145) fuel (a.1, a.1, (Int.ofNat (List.length a.1)), 0, ()) fun t6 => some ((decide ((Int.ofNat (List.length t6.1)) ≤ 12)), ())
def E91 (f144 : Cue × Unit → Option (Bool × Unit)) (f145 : Cue × Cue × Unit → Option (Int × Unit)) : Env := envL [(144, mkE p144 r144 false f144), (145, mkE p145 r145 false f145)]
noncomputable def L91 (f144 : Cue × Unit → Option (Bool × Unit)) (f145 : Cue × Cue × Unit → Option (Int × Unit)) : LEnv (densS (muts p91 ++ r91)) := lenv [(0, loopL (R := densS (muts p91 ++ r91)) q91_0 (s91_0 f144 f145))]
theorem e91_0 (f144 : Cue × Unit → Option (Bool × Unit)) (f145 : Cue × Cue × Unit → Option (Int × Unit)) (X : Nat → St → Option (densS (muts p91 ++ r91))) (rec K : densS q91_0 → Option (densS (muts p91 ++ r91))) (t : densS q91_0) :
    ev (E91 f144 f145) tab2 (fun _ => false) (L91 f144 f145) (retK tab2 p91 r91 Proofs.Tryz.f91.results.toList) (loopC Proofs.Tryz.f91 0) (fun i s => cond (Nat.beq i 0) (decK 100 q91_0 s K) (X i s)) (fun s => decK 100 q91_0 s rec) (enc q91_0 t) = s91_0 f144 f145 t rec K := by kernel_rfl
theorem e91 (f144 : Cue × Unit → Option (Bool × Unit)) (f145 : Cue × Cue × Unit → Option (Int × Unit)) (a : densS p91) : runF (E91 f144 f145) tab2 (fun _ => false) p91 r91 Proofs.Tryz.f91 (L91 f144 f145) a = F91 f144 f145 a := by kernel_rfl
theorem ok91 {f144 : Cue × Unit → Option (Bool × Unit)} {f145 : Cue × Cue × Unit → Option (Int × Unit)} (h144 : OK Proofs.Tryz.prog 144 (mkE p144 r144 false f144)) (h145 : OK Proofs.Tryz.prog 145 (mkE p145 r145 false f145)) : OK Proofs.Tryz.prog 91 (mkE p91 r91 false (F91 f144 f145)) :=
  fn_ok tab_ok2 (envL_ok (l := [(144, mkE p144 r144 false f144), (145, mkE p145 r145 false f145)]) (OKs.cons h144 (OKs.cons h145 OKs.nil))) mixed2 (ann := (fun _ => false)) (L := L91 f144 f145) (fn := Proofs.Tryz.f91) (c := bodyC Proofs.Tryz.f91) (ls := [(0, loopC Proofs.Tryz.f91 0)]) Proofs.Tryz.func91 (by kernel_rfl) (by kernel_rfl) (by kernel_rfl) (by kernel_rfl)
    (LoopsP.cons q91_0 (s91_0 f144 f145) rfl (e91_0 f144 f145) LoopsP.nil) (e91 f144 f145)
/-! impl.IsWind -/
def p69 : List SP := [.one (.r .gust)]
def r69 : List SP := [.one (.bool)]
def q69_0 : List SP := pat 41 0 [(0, .one (.r .gust)), (5, .one (.r .gust)), (6, .one (.int .i64)), (7, .one (.int .i64))]
noncomputable def s69_0 (f72 : Int × Int × Int × Unit → Option (Bool × Unit)) (f125 : Place × Unit → Option (Bool × Unit)) (t1 : List Gust × List Gust × Int × Int × Unit) (rec K : List Gust × List Gust × Int × Int × Unit → Option (Bool × Unit)) : Option (Bool × Unit) :=
  cond (decide (t1.2.2.2.1 < t1.2.2.1)) (rdL t1.2.1 t1.2.2.2.1 fun d2 => (f72 (d2.From, 0, 64, ())).bind fun x3 => cond (!(!x3.1)) ((f125 (d2.Drift, ())).bind fun x4 => cond (!(!x4.1)) (cond (decide (t1.2.2.2.1 > 0)) (rdL t1.1 (w64 (t1.2.2.2.1 - 1)) fun d5 => cond (decide (d2.From ≤ d5.From)) (some (false, ())) (rec (t1.1, t1.2.1, t1.2.2.1, (w64 (t1.2.2.2.1 + 1)), ()))) (rec (t1.1, t1.2.1, t1.2.2.1, (w64 (t1.2.2.2.1 + 1)), ()))) (some (false, ()))) (some (false, ()))) (K (t1.1, t1.2.1, t1.2.2.1, t1.2.2.2.1, ()))
noncomputable def F69 (f72 : Int × Int × Int × Unit → Option (Bool × Unit)) (f125 : Place × Unit → Option (Bool × Unit)) (a : List Gust × Unit) : Option (Bool × Unit) :=
  iterF (s69_0 f72 f125) fuel (a.1, a.1, (Int.ofNat (List.length a.1)), 0, ()) fun t6 => some ((decide ((Int.ofNat (List.length t6.1)) ≤ 8)), ())
def E69 (f72 : Int × Int × Int × Unit → Option (Bool × Unit)) (f125 : Place × Unit → Option (Bool × Unit)) : Env := envL [(72, mkE p72 r72 false f72), (125, mkE p125 r125 false f125)]
noncomputable def L69 (f72 : Int × Int × Int × Unit → Option (Bool × Unit)) (f125 : Place × Unit → Option (Bool × Unit)) : LEnv (densS (muts p69 ++ r69)) := lenv [(0, loopL (R := densS (muts p69 ++ r69)) q69_0 (s69_0 f72 f125))]
theorem e69_0 (f72 : Int × Int × Int × Unit → Option (Bool × Unit)) (f125 : Place × Unit → Option (Bool × Unit)) (X : Nat → St → Option (densS (muts p69 ++ r69))) (rec K : densS q69_0 → Option (densS (muts p69 ++ r69))) (t : densS q69_0) :
    ev (E69 f72 f125) tab2 (fun _ => false) (L69 f72 f125) (retK tab2 p69 r69 Proofs.Tryz.f69.results.toList) (loopC Proofs.Tryz.f69 0) (fun i s => cond (Nat.beq i 0) (decK 100 q69_0 s K) (X i s)) (fun s => decK 100 q69_0 s rec) (enc q69_0 t) = s69_0 f72 f125 t rec K := by kernel_rfl
theorem e69 (f72 : Int × Int × Int × Unit → Option (Bool × Unit)) (f125 : Place × Unit → Option (Bool × Unit)) (a : densS p69) : runF (E69 f72 f125) tab2 (fun _ => false) p69 r69 Proofs.Tryz.f69 (L69 f72 f125) a = F69 f72 f125 a := by kernel_rfl
theorem ok69 {f72 : Int × Int × Int × Unit → Option (Bool × Unit)} {f125 : Place × Unit → Option (Bool × Unit)} (h72 : OK Proofs.Tryz.prog 72 (mkE p72 r72 false f72)) (h125 : OK Proofs.Tryz.prog 125 (mkE p125 r125 false f125)) : OK Proofs.Tryz.prog 69 (mkE p69 r69 false (F69 f72 f125)) :=
  fn_ok tab_ok2 (envL_ok (l := [(72, mkE p72 r72 false f72), (125, mkE p125 r125 false f125)]) (OKs.cons h72 (OKs.cons h125 OKs.nil))) mixed2 (ann := (fun _ => false)) (L := L69 f72 f125) (fn := Proofs.Tryz.f69) (c := bodyC Proofs.Tryz.f69) (ls := [(0, loopC Proofs.Tryz.f69 0)]) Proofs.Tryz.func69 (by kernel_rfl) (by kernel_rfl) (by kernel_rfl) (by kernel_rfl)
    (LoopsP.cons q69_0 (s69_0 f72 f125) rfl (e69_0 f72 f125) LoopsP.nil) (e69 f72 f125)
/-! impl.IsShow -/
def p39 : List SP := [.agg [.r .device, .r .cue, .r .gust, .int .i64]]
def r39 : List SP := [.one (.bool)]
noncomputable def F39 (f90 : List Device × Unit → Option (Bool × Unit)) (f91 : List Cue × Unit → Option (Bool × Unit)) (f69 : List Gust × Unit → Option (Bool × Unit)) (f72 : Int × Int × Int × Unit → Option (Bool × Unit)) (a : ShD × Unit) : Option (Bool × Unit) :=
  (f90 (a.1.1, ())).bind fun x1 => cond x1.1 ((f91 (a.1.2.1, ())).bind fun x2 => cond x2.1 ((f69 (a.1.2.2.1, ())).bind fun x3 => cond x3.1 ((f72 (a.1.2.2.2.1, 0, 64, ())).bind fun x4 => some (x4.1, ())) (some (false, ()))) (some (false, ()))) (some (false, ()))
def E39 (f90 : List Device × Unit → Option (Bool × Unit)) (f91 : List Cue × Unit → Option (Bool × Unit)) (f69 : List Gust × Unit → Option (Bool × Unit)) (f72 : Int × Int × Int × Unit → Option (Bool × Unit)) : Env := envL [(90, mkE p90 r90 false f90), (91, mkE p91 r91 false f91), (69, mkE p69 r69 false f69), (72, mkE p72 r72 false f72)]
noncomputable def L39 (f90 : List Device × Unit → Option (Bool × Unit)) (f91 : List Cue × Unit → Option (Bool × Unit)) (f69 : List Gust × Unit → Option (Bool × Unit)) (f72 : Int × Int × Int × Unit → Option (Bool × Unit)) : LEnv (densS (muts p39 ++ r39)) := lenv []
theorem e39 (f90 : List Device × Unit → Option (Bool × Unit)) (f91 : List Cue × Unit → Option (Bool × Unit)) (f69 : List Gust × Unit → Option (Bool × Unit)) (f72 : Int × Int × Int × Unit → Option (Bool × Unit)) (a : densS p39) : runF (E39 f90 f91 f69 f72) tab2 (fun _ => false) p39 r39 Proofs.Tryz.f39 (L39 f90 f91 f69 f72) a = F39 f90 f91 f69 f72 a := by kernel_rfl
theorem ok39 {f90 : List Device × Unit → Option (Bool × Unit)} {f91 : List Cue × Unit → Option (Bool × Unit)} {f69 : List Gust × Unit → Option (Bool × Unit)} {f72 : Int × Int × Int × Unit → Option (Bool × Unit)} (h90 : OK Proofs.Tryz.prog 90 (mkE p90 r90 false f90)) (h91 : OK Proofs.Tryz.prog 91 (mkE p91 r91 false f91)) (h69 : OK Proofs.Tryz.prog 69 (mkE p69 r69 false f69)) (h72 : OK Proofs.Tryz.prog 72 (mkE p72 r72 false f72)) : OK Proofs.Tryz.prog 39 (mkE p39 r39 false (F39 f90 f91 f69 f72)) :=
  fn_ok tab_ok2 (envL_ok (l := [(90, mkE p90 r90 false f90), (91, mkE p91 r91 false f91), (69, mkE p69 r69 false f69), (72, mkE p72 r72 false f72)]) (OKs.cons h90 (OKs.cons h91 (OKs.cons h69 (OKs.cons h72 OKs.nil))))) mixed2 (ann := (fun _ => false)) (L := L39 f90 f91 f69 f72) (fn := Proofs.Tryz.f39) (c := bodyC Proofs.Tryz.f39) (ls := []) Proofs.Tryz.func39 (by kernel_rfl) (by kernel_rfl) (by kernel_rfl) (by kernel_rfl)
    LoopsP.nil (e39 f90 f91 f69 f72)
/-! impl.floorDiv -/
def p208 : List SP := [.one (.int .i64), .one (.int .i64)]
def r208 : List SP := [.one (.int .i64)]
noncomputable def F208 (a : Int × Int × Unit) : Option (Int × Unit) :=
  cond (decide (a.2.1 = 0)) none (cond (decide (a.2.1 = 0)) none (cond (decide ((Int.tmod a.1 a.2.1) < 0)) (some ((w64 ((w64 (Int.tdiv a.1 a.2.1)) - 1)), ())) (some ((w64 (Int.tdiv a.1 a.2.1)), ()))))
def E208 : Env := envL []
noncomputable def L208 : LEnv (densS (muts p208 ++ r208)) := lenv []
theorem e208 (a : densS p208) : runF (E208) tab2 (fun _ => false) p208 r208 Proofs.Tryz.f208 (L208) a = F208 a := by kernel_rfl
theorem ok208 : OK Proofs.Tryz.prog 208 (mkE p208 r208 false (F208)) :=
  fn_ok tab_ok2 (envL_ok (l := []) OKs.nil) mixed2 (ann := (fun _ => false)) (L := L208) (fn := Proofs.Tryz.f208) (c := bodyC Proofs.Tryz.f208) (ls := []) Proofs.Tryz.func208 (by kernel_rfl) (by kernel_rfl) (by kernel_rfl) (by kernel_rfl)
    LoopsP.nil (e208)
/-! impl.RampAt -/
def p173 : List SP := [.one (.int .i64), .one (.int .i64), .one (.int .i64), .one (.int .i64)]
def r173 : List SP := [.one (.int .i64)]
noncomputable def F173 (f96 : Int × Unit → Option (Bool × Unit)) (f208 : Int × Int × Unit → Option (Int × Unit)) (a : Int × Int × Int × Int × Unit) : Option (Int × Unit) :=
  (f96 (a.1, ())).bind fun x1 => cond (!(!x1.1)) ((f96 (a.2.1, ())).bind fun x2 => cond (!x2.1) (some (0, ())) (cond (decide (a.2.2.1 ≥ a.2.2.2.1)) (some (a.2.1, ())) (cond (!(decide (a.2.2.1 ≤ 0))) (cond (decide (a.2.2.2.1 > 999)) (some (a.1, ())) ((f208 ((w64 (a.2.2.1 * (w64 (a.2.1 - a.1)))), a.2.2.2.1, ())).bind fun x3 => some ((w64 (a.1 + x3.1)), ()))) (some (a.1, ()))))) (some (0, ()))
def E173 (f96 : Int × Unit → Option (Bool × Unit)) (f208 : Int × Int × Unit → Option (Int × Unit)) : Env := envL [(96, mkE p96 r96 false f96), (208, mkE p208 r208 false f208)]
noncomputable def L173 (f96 : Int × Unit → Option (Bool × Unit)) (f208 : Int × Int × Unit → Option (Int × Unit)) : LEnv (densS (muts p173 ++ r173)) := lenv []
theorem e173 (f96 : Int × Unit → Option (Bool × Unit)) (f208 : Int × Int × Unit → Option (Int × Unit)) (a : densS p173) : runF (E173 f96 f208) tab2 (fun _ => false) p173 r173 Proofs.Tryz.f173 (L173 f96 f208) a = F173 f96 f208 a := by kernel_rfl
theorem ok173 {f96 : Int × Unit → Option (Bool × Unit)} {f208 : Int × Int × Unit → Option (Int × Unit)} (h96 : OK Proofs.Tryz.prog 96 (mkE p96 r96 false f96)) (h208 : OK Proofs.Tryz.prog 208 (mkE p208 r208 false f208)) : OK Proofs.Tryz.prog 173 (mkE p173 r173 false (F173 f96 f208)) :=
  fn_ok tab_ok2 (envL_ok (l := [(96, mkE p96 r96 false f96), (208, mkE p208 r208 false f208)]) (OKs.cons h96 (OKs.cons h208 OKs.nil))) mixed2 (ann := (fun _ => false)) (L := L173 f96 f208) (fn := Proofs.Tryz.f173) (c := bodyC Proofs.Tryz.f173) (ls := []) Proofs.Tryz.func173 (by kernel_rfl) (by kernel_rfl) (by kernel_rfl) (by kernel_rfl)
    LoopsP.nil (e173 f96 f208)
/-! impl.LevelAt -/
def p123 : List SP := [.one (.r .cue), .one (.str), .one (.int .i64)]
def r123 : List SP := [.one (.int .i64)]
def q123_0 : List SP := pat 58 0 [(1, .one (.str)), (2, .one (.int .i64)), (7, .one (.int .i64)), (8, .boxt 5000001 .cue), (19, .one (.r .cue)), (20, .one (.int .i64)), (21, .one (.int .i64))]
noncomputable def s123_0 (f91 : List Cue × Unit → Option (Bool × Unit)) (f173 : Int × Int × Int × Int × Unit → Option (Int × Unit)) (t2 : Str × Int × Int × Cue × List Cue × Int × Int × Unit) (rec K : Str × Int × Int × Cue × List Cue × Int × Int × Unit → Option (Int × Unit)) : Option (Int × Unit) :=
  cond (decide (t2.2.2.2.2.2.2.1 < t2.2.2.2.2.2.1)) (rdL t2.2.2.2.2.1 t2.2.2.2.2.2.2.1 fun d3 => cond (decide (d3.Name = t2.1)) (cond (decide (d3.Tick ≤ t2.2.1)) ((f173 (t2.2.2.1, t2.2.2.2.1.Level, (w64 (d3.Tick - t2.2.2.2.1.Tick)), t2.2.2.2.1.Ramp, ())).bind fun x4 => rec (t2.1, t2.2.1, x4.1, d3, t2.2.2.2.2.1, t2.2.2.2.2.2.1, (w64 (t2.2.2.2.2.2.2.1 + 1)), ())) (rec (t2.1, t2.2.1, t2.2.2.1, t2.2.2.2.1, t2.2.2.2.2.1, t2.2.2.2.2.2.1, (w64 (t2.2.2.2.2.2.2.1 + 1)), ()))) (rec (t2.1, t2.2.1, t2.2.2.1, t2.2.2.2.1, t2.2.2.2.2.1, t2.2.2.2.2.2.1, (w64 (t2.2.2.2.2.2.2.1 + 1)), ()))) (K (t2.1, t2.2.1, t2.2.2.1, t2.2.2.2.1, t2.2.2.2.2.1, t2.2.2.2.2.2.1, t2.2.2.2.2.2.2.1, ()))
noncomputable def F123 (f91 : List Cue × Unit → Option (Bool × Unit)) (f173 : Int × Int × Int × Int × Unit → Option (Int × Unit)) (a : List Cue × Str × Int × Unit) : Option (Int × Unit) :=
  (f91 (a.1, ())).bind fun x1 => cond (!(!x1.1)) (cond (decide (a.2.2.1 < 0)) (some (0, ())) (iterF (s123_0 f91 f173) fuel (a.2.1, a.2.2.1, 0, (⟨0, [], 0, 0⟩ : Cue), a.1, (Int.ofNat (List.length a.1)), 0, ()) fun t5 => (f173 (t5.2.2.1, t5.2.2.2.1.Level, (w64 (t5.2.1 - t5.2.2.2.1.Tick)), t5.2.2.2.1.Ramp, ())).bind fun x6 => some (x6.1, ()))) (some (0, ()))
def E123 (f91 : List Cue × Unit → Option (Bool × Unit)) (f173 : Int × Int × Int × Int × Unit → Option (Int × Unit)) : Env := envL [(91, mkE p91 r91 false f91), (173, mkE p173 r173 false f173)]
noncomputable def L123 (f91 : List Cue × Unit → Option (Bool × Unit)) (f173 : Int × Int × Int × Int × Unit → Option (Int × Unit)) : LEnv (densS (muts p123 ++ r123)) := lenv [(0, loopL (R := densS (muts p123 ++ r123)) q123_0 (s123_0 f91 f173))]
theorem e123_0 (f91 : List Cue × Unit → Option (Bool × Unit)) (f173 : Int × Int × Int × Int × Unit → Option (Int × Unit)) (X : Nat → St → Option (densS (muts p123 ++ r123))) (rec K : densS q123_0 → Option (densS (muts p123 ++ r123))) (t : densS q123_0) :
    ev (E123 f91 f173) tab2 (fun _ => false) (L123 f91 f173) (retK tab2 p123 r123 Proofs.Tryz.f123.results.toList) (loopC Proofs.Tryz.f123 0) (fun i s => cond (Nat.beq i 0) (decK 100 q123_0 s K) (X i s)) (fun s => decK 100 q123_0 s rec) (enc q123_0 t) = s123_0 f91 f173 t rec K := by kernel_rfl
theorem e123 (f91 : List Cue × Unit → Option (Bool × Unit)) (f173 : Int × Int × Int × Int × Unit → Option (Int × Unit)) (a : densS p123) : runF (E123 f91 f173) tab2 (fun _ => false) p123 r123 Proofs.Tryz.f123 (L123 f91 f173) a = F123 f91 f173 a := by kernel_rfl
theorem ok123 {f91 : List Cue × Unit → Option (Bool × Unit)} {f173 : Int × Int × Int × Int × Unit → Option (Int × Unit)} (h91 : OK Proofs.Tryz.prog 91 (mkE p91 r91 false f91)) (h173 : OK Proofs.Tryz.prog 173 (mkE p173 r173 false f173)) : OK Proofs.Tryz.prog 123 (mkE p123 r123 false (F123 f91 f173)) :=
  fn_ok tab_ok2 (envL_ok (l := [(91, mkE p91 r91 false f91), (173, mkE p173 r173 false f173)]) (OKs.cons h91 (OKs.cons h173 OKs.nil))) mixed2 (ann := (fun _ => false)) (L := L123 f91 f173) (fn := Proofs.Tryz.f123) (c := bodyC Proofs.Tryz.f123) (ls := [(0, loopC Proofs.Tryz.f123 0)]) Proofs.Tryz.func123 (by kernel_rfl) (by kernel_rfl) (by kernel_rfl) (by kernel_rfl)
    (LoopsP.cons q123_0 (s123_0 f91 f173) rfl (e123_0 f91 f173) LoopsP.nil) (e123 f91 f173)
/-! impl.IsDemands -/
def p174 : List SP := [.one (.r .int)]
def r174 : List SP := [.one (.bool)]
def q174_0 : List SP := pat 18 0 [(0, .one (.r .int)), (5, .one (.r .int)), (6, .one (.int .i64)), (7, .one (.int .i64))]
noncomputable def s174_0 (f72 : Int × Int × Int × Unit → Option (Bool × Unit)) (t1 : List Int × List Int × Int × Int × Unit) (rec K : List Int × List Int × Int × Int × Unit → Option (Bool × Unit)) : Option (Bool × Unit) :=
  cond (decide (t1.2.2.2.1 < t1.2.2.1)) (rdL t1.2.1 t1.2.2.2.1 fun d2 => (f72 (d2, 0, 64, ())).bind fun x3 => cond (!x3.1) (some (false, ())) (rec (t1.1, t1.2.1, t1.2.2.1, (w64 (t1.2.2.2.1 + 1)), ()))) (K (t1.1, t1.2.1, t1.2.2.1, t1.2.2.2.1, ()))
noncomputable def F174 (f72 : Int × Int × Int × Unit → Option (Bool × Unit)) (a : List Int × Unit) : Option (Bool × Unit) :=
  iterF (s174_0 f72) fuel (a.1, a.1, (Int.ofNat (List.length a.1)), 0, ()) fun t4 => some ((decide ((Int.ofNat (List.length t4.1)) ≤ 8)), ())
def E174 (f72 : Int × Int × Int × Unit → Option (Bool × Unit)) : Env := envL [(72, mkE p72 r72 false f72)]
noncomputable def L174 (f72 : Int × Int × Int × Unit → Option (Bool × Unit)) : LEnv (densS (muts p174 ++ r174)) := lenv [(0, loopL (R := densS (muts p174 ++ r174)) q174_0 (s174_0 f72))]
theorem e174_0 (f72 : Int × Int × Int × Unit → Option (Bool × Unit)) (X : Nat → St → Option (densS (muts p174 ++ r174))) (rec K : densS q174_0 → Option (densS (muts p174 ++ r174))) (t : densS q174_0) :
    ev (E174 f72) tab2 (fun _ => false) (L174 f72) (retK tab2 p174 r174 Proofs.Tryz.f174.results.toList) (loopC Proofs.Tryz.f174 0) (fun i s => cond (Nat.beq i 0) (decK 100 q174_0 s K) (X i s)) (fun s => decK 100 q174_0 s rec) (enc q174_0 t) = s174_0 f72 t rec K := by kernel_rfl
theorem e174 (f72 : Int × Int × Int × Unit → Option (Bool × Unit)) (a : densS p174) : runF (E174 f72) tab2 (fun _ => false) p174 r174 Proofs.Tryz.f174 (L174 f72) a = F174 f72 a := by kernel_rfl
theorem ok174 {f72 : Int × Int × Int × Unit → Option (Bool × Unit)} (h72 : OK Proofs.Tryz.prog 72 (mkE p72 r72 false f72)) : OK Proofs.Tryz.prog 174 (mkE p174 r174 false (F174 f72)) :=
  fn_ok tab_ok2 (envL_ok (l := [(72, mkE p72 r72 false f72)]) (OKs.cons h72 OKs.nil)) mixed2 (ann := (fun _ => false)) (L := L174 f72) (fn := Proofs.Tryz.f174) (c := bodyC Proofs.Tryz.f174) (ls := [(0, loopC Proofs.Tryz.f174 0)]) Proofs.Tryz.func174 (by kernel_rfl) (by kernel_rfl) (by kernel_rfl) (by kernel_rfl)
    (LoopsP.cons q174_0 (s174_0 f72) rfl (e174_0 f72) LoopsP.nil) (e174 f72)
/-! impl.CutAt -/
def p177 : List SP := [.one (.r .int), .one (.int .i64)]
def r177 : List SP := [.one (.o 0 .int)]
def q177_0 : List SP := pat 31 0 [(1, .one (.int .i64)), (5, .one (.o 5000001 .int)), (17, .one (.r .int)), (18, .one (.int .i64)), (19, .one (.int .i64))]
noncomputable def s177_0 (f174 : List Int × Unit → Option (Bool × Unit)) (t2 : Int × List Int × List Int × Int × Int × Unit) (rec K : Int × List Int × List Int × Int × Int × Unit → Option (List Int × Unit)) : Option (List Int × Unit) :=
  cond (decide (t2.2.2.2.2.1 < t2.2.2.2.1)) (rdL t2.2.2.1 t2.2.2.2.2.1 fun d3 => capK (List.length t2.2.1 + List.length ([(mn d3 t2.1)] : List Int)) (rec (t2.1, (t2.2.1 ++ ([(mn d3 t2.1)] : List Int)), t2.2.2.1, t2.2.2.2.1, (w64 (t2.2.2.2.2.1 + 1)), ()))) (K (t2.1, t2.2.1, t2.2.2.1, t2.2.2.2.1, t2.2.2.2.2.1, ()))
noncomputable def F177 (f174 : List Int × Unit → Option (Bool × Unit)) (a : List Int × Int × Unit) : Option (List Int × Unit) :=
  (f174 (a.1, ())).bind fun x1 => cond (!(!x1.1)) (cond (decide (a.2.1 < 0)) (some (([] : List Int), ())) (iterF (s177_0 f174) fuel (a.2.1, ([] : List Int), a.1, (Int.ofNat (List.length a.1)), 0, ()) fun t4 => some (t4.2.1, ()))) (some (([] : List Int), ()))
def E177 (f174 : List Int × Unit → Option (Bool × Unit)) : Env := envL [(174, mkE p174 r174 false f174)]
noncomputable def L177 (f174 : List Int × Unit → Option (Bool × Unit)) : LEnv (densS (muts p177 ++ r177)) := lenv [(0, loopL (R := densS (muts p177 ++ r177)) q177_0 (s177_0 f174))]
theorem e177_0 (f174 : List Int × Unit → Option (Bool × Unit)) (X : Nat → St → Option (densS (muts p177 ++ r177))) (rec K : densS q177_0 → Option (densS (muts p177 ++ r177))) (t : densS q177_0) :
    ev (E177 f174) tab2 (fun _ => false) (L177 f174) (retK tab2 p177 r177 Proofs.Tryz.f177.results.toList) (loopC Proofs.Tryz.f177 0) (fun i s => cond (Nat.beq i 0) (decK 100 q177_0 s K) (X i s)) (fun s => decK 100 q177_0 s rec) (enc q177_0 t) = s177_0 f174 t rec K := by kernel_rfl
theorem e177 (f174 : List Int × Unit → Option (Bool × Unit)) (a : densS p177) : runF (E177 f174) tab2 (fun _ => false) p177 r177 Proofs.Tryz.f177 (L177 f174) a = F177 f174 a := by kernel_rfl
theorem ok177 {f174 : List Int × Unit → Option (Bool × Unit)} (h174 : OK Proofs.Tryz.prog 174 (mkE p174 r174 false f174)) : OK Proofs.Tryz.prog 177 (mkE p177 r177 false (F177 f174)) :=
  fn_ok tab_ok2 (envL_ok (l := [(174, mkE p174 r174 false f174)]) (OKs.cons h174 OKs.nil)) mixed2 (ann := (fun _ => false)) (L := L177 f174) (fn := Proofs.Tryz.f177) (c := bodyC Proofs.Tryz.f177) (ls := [(0, loopC Proofs.Tryz.f177 0)]) Proofs.Tryz.func177 (by kernel_rfl) (by kernel_rfl) (by kernel_rfl) (by kernel_rfl)
    (LoopsP.cons q177_0 (s177_0 f174) rfl (e177_0 f174) LoopsP.nil) (e177 f174)
/-! impl.sumOf -/
def p178 : List SP := [.one (.r .int)]
def r178 : List SP := [.one (.int .i64)]
def q178_0 : List SP := pat 17 0 [(3, .one (.int .i64)), (6, .one (.r .int)), (7, .one (.int .i64)), (8, .one (.int .i64))]
noncomputable def s178_0 (t1 : Int × List Int × Int × Int × Unit) (rec K : Int × List Int × Int × Int × Unit → Option (Int × Unit)) : Option (Int × Unit) :=
  cond (decide (t1.2.2.2.1 < t1.2.2.1)) (rdL t1.2.1 t1.2.2.2.1 fun d2 => rec ((w64 (t1.1 + d2)), t1.2.1, t1.2.2.1, (w64 (t1.2.2.2.1 + 1)), ())) (K (t1.1, t1.2.1, t1.2.2.1, t1.2.2.2.1, ()))
noncomputable def F178 (a : List Int × Unit) : Option (Int × Unit) :=
  iterF (s178_0) fuel (0, a.1, (Int.ofNat (List.length a.1)), 0, ()) fun t3 => some (t3.1, ())
def E178 : Env := envL []
noncomputable def L178 : LEnv (densS (muts p178 ++ r178)) := lenv [(0, loopL (R := densS (muts p178 ++ r178)) q178_0 (s178_0))]
theorem e178_0 (X : Nat → St → Option (densS (muts p178 ++ r178))) (rec K : densS q178_0 → Option (densS (muts p178 ++ r178))) (t : densS q178_0) :
    ev (E178) tab2 (fun _ => false) (L178) (retK tab2 p178 r178 Proofs.Tryz.f178.results.toList) (loopC Proofs.Tryz.f178 0) (fun i s => cond (Nat.beq i 0) (decK 100 q178_0 s K) (X i s)) (fun s => decK 100 q178_0 s rec) (enc q178_0 t) = s178_0 t rec K := by kernel_rfl
theorem e178 (a : densS p178) : runF (E178) tab2 (fun _ => false) p178 r178 Proofs.Tryz.f178 (L178) a = F178 a := by kernel_rfl
theorem ok178 : OK Proofs.Tryz.prog 178 (mkE p178 r178 false (F178)) :=
  fn_ok tab_ok2 (envL_ok (l := []) OKs.nil) mixed2 (ann := (fun _ => false)) (L := L178) (fn := Proofs.Tryz.f178) (c := bodyC Proofs.Tryz.f178) (ls := [(0, loopC Proofs.Tryz.f178 0)]) Proofs.Tryz.func178 (by kernel_rfl) (by kernel_rfl) (by kernel_rfl) (by kernel_rfl)
    (LoopsP.cons q178_0 (s178_0) rfl (e178_0) LoopsP.nil) (e178)
/-! impl.LevelFor -/
def p176 : List SP := [.one (.int .i64), .one (.r .int)]
def r176 : List SP := [.one (.int .i64)]
def q176_0 : List SP := pat 23 0 [(0, .one (.int .i64)), (1, .one (.r .int)), (5, .one (.int .i64))]
noncomputable def s176_0 (f174 : List Int × Unit → Option (Bool × Unit)) (f175 : Int × Unit → Option (Bool × Unit)) (f177 : List Int × Int × Unit → Option (List Int × Unit)) (f178 : List Int × Unit → Option (Int × Unit)) (t3 : Int × List Int × Int × Unit) (rec K : Int × List Int × Int × Unit → Option (Int × Unit)) : Option (Int × Unit) :=
  (f177 (t3.2.1, t3.2.2.1, ())).bind fun x4 => (f178 (x4.1, ())).bind fun x5 => cond (decide (x5.1 > t3.1)) (rec (t3.1, t3.2.1, (w64 (t3.2.2.1 - 1)), ())) (K (t3.1, t3.2.1, t3.2.2.1, ()))
noncomputable def F176 (f174 : List Int × Unit → Option (Bool × Unit)) (f175 : Int × Unit → Option (Bool × Unit)) (f177 : List Int × Int × Unit → Option (List Int × Unit)) (f178 : List Int × Unit → Option (Int × Unit)) (a : Int × List Int × Unit) : Option (Int × Unit) :=
  (f174 (a.2.1, ())).bind fun x1 => cond (!(!x1.1)) ((f175 (a.1, ())).bind fun x2 => cond (!x2.1) (some (0, ())) (iterF (s176_0 f174 f175 f177 f178) fuel (a.1, a.2.1, 64, ()) fun t6 => some (t6.2.2.1, ()))) (some (0, ()))
def E176 (f174 : List Int × Unit → Option (Bool × Unit)) (f175 : Int × Unit → Option (Bool × Unit)) (f177 : List Int × Int × Unit → Option (List Int × Unit)) (f178 : List Int × Unit → Option (Int × Unit)) : Env := envL [(174, mkE p174 r174 false f174), (175, mkE p175 r175 false f175), (177, mkE p177 r177 false f177), (178, mkE p178 r178 false f178)]
noncomputable def L176 (f174 : List Int × Unit → Option (Bool × Unit)) (f175 : Int × Unit → Option (Bool × Unit)) (f177 : List Int × Int × Unit → Option (List Int × Unit)) (f178 : List Int × Unit → Option (Int × Unit)) : LEnv (densS (muts p176 ++ r176)) := lenv [(0, loopL (R := densS (muts p176 ++ r176)) q176_0 (s176_0 f174 f175 f177 f178))]
theorem e176_0 (f174 : List Int × Unit → Option (Bool × Unit)) (f175 : Int × Unit → Option (Bool × Unit)) (f177 : List Int × Int × Unit → Option (List Int × Unit)) (f178 : List Int × Unit → Option (Int × Unit)) (X : Nat → St → Option (densS (muts p176 ++ r176))) (rec K : densS q176_0 → Option (densS (muts p176 ++ r176))) (t : densS q176_0) :
    ev (E176 f174 f175 f177 f178) tab2 (fun _ => false) (L176 f174 f175 f177 f178) (retK tab2 p176 r176 Proofs.Tryz.f176.results.toList) (loopC Proofs.Tryz.f176 0) (fun i s => cond (Nat.beq i 0) (decK 100 q176_0 s K) (X i s)) (fun s => decK 100 q176_0 s rec) (enc q176_0 t) = s176_0 f174 f175 f177 f178 t rec K := by kernel_rfl
theorem e176 (f174 : List Int × Unit → Option (Bool × Unit)) (f175 : Int × Unit → Option (Bool × Unit)) (f177 : List Int × Int × Unit → Option (List Int × Unit)) (f178 : List Int × Unit → Option (Int × Unit)) (a : densS p176) : runF (E176 f174 f175 f177 f178) tab2 (fun _ => false) p176 r176 Proofs.Tryz.f176 (L176 f174 f175 f177 f178) a = F176 f174 f175 f177 f178 a := by kernel_rfl
theorem ok176 {f174 : List Int × Unit → Option (Bool × Unit)} {f175 : Int × Unit → Option (Bool × Unit)} {f177 : List Int × Int × Unit → Option (List Int × Unit)} {f178 : List Int × Unit → Option (Int × Unit)} (h174 : OK Proofs.Tryz.prog 174 (mkE p174 r174 false f174)) (h175 : OK Proofs.Tryz.prog 175 (mkE p175 r175 false f175)) (h177 : OK Proofs.Tryz.prog 177 (mkE p177 r177 false f177)) (h178 : OK Proofs.Tryz.prog 178 (mkE p178 r178 false f178)) : OK Proofs.Tryz.prog 176 (mkE p176 r176 false (F176 f174 f175 f177 f178)) :=
  fn_ok tab_ok2 (envL_ok (l := [(174, mkE p174 r174 false f174), (175, mkE p175 r175 false f175), (177, mkE p177 r177 false f177), (178, mkE p178 r178 false f178)]) (OKs.cons h174 (OKs.cons h175 (OKs.cons h177 (OKs.cons h178 OKs.nil))))) mixed2 (ann := (fun _ => false)) (L := L176 f174 f175 f177 f178) (fn := Proofs.Tryz.f176) (c := bodyC Proofs.Tryz.f176) (ls := [(0, loopC Proofs.Tryz.f176 0)]) Proofs.Tryz.func176 (by kernel_rfl) (by kernel_rfl) (by kernel_rfl) (by kernel_rfl)
    (LoopsP.cons q176_0 (s176_0 f174 f175 f177 f178) rfl (e176_0 f174 f175 f177 f178) LoopsP.nil) (e176 f174 f175 f177 f178)
/-! impl.ShareOut -/
def p124 : List SP := [.one (.int .i64), .one (.r .int)]
def r124 : List SP := [.one (.o 0 .int)]
def q124_0 : List SP := pat 53 0 [(5, .one (.int .i64)), (6, .one (.o 5000001 .int)), (7, .one (.int .i64)), (29, .one (.r .int)), (30, .one (.int .i64)), (31, .one (.int .i64))]
noncomputable def s124_0 (f174 : List Int × Unit → Option (Bool × Unit)) (f175 : Int × Unit → Option (Bool × Unit)) (f176 : Int × List Int × Unit → Option (Int × Unit)) (f177 : List Int × Int × Unit → Option (List Int × Unit)) (f178 : List Int × Unit → Option (Int × Unit)) (t6 : Int × List Int × Int × List Int × Int × Int × Unit) (rec K : Int × List Int × Int × List Int × Int × Int × Unit → Option (List Int × Unit)) : Option (List Int × Unit) :=
  cond (decide (t6.2.2.2.2.2.1 < t6.2.2.2.2.1)) (rdL t6.2.2.2.1 t6.2.2.2.2.2.1 fun d7 => cond (decide (d7 > t6.1)) (cond (decide (t6.2.2.1 > 0)) (rdL t6.2.1 t6.2.2.2.2.2.1 fun _ => (t6.2.1[(Int.toNat t6.2.2.2.2.2.1)]?).bind fun d8 => rdL t6.2.1 t6.2.2.2.2.2.1 fun _ => (t6.2.1[(Int.toNat t6.2.2.2.2.2.1)]?).bind fun d9 => rec (t6.1, (List.set t6.2.1 (Int.toNat t6.2.2.2.2.2.1) (w64 (d8 + 1))), (w64 (t6.2.2.1 - 1)), t6.2.2.2.1, t6.2.2.2.2.1, (w64 (t6.2.2.2.2.2.1 + 1)), ())) (rec (t6.1, t6.2.1, t6.2.2.1, t6.2.2.2.1, t6.2.2.2.2.1, (w64 (t6.2.2.2.2.2.1 + 1)), ()))) (rec (t6.1, t6.2.1, t6.2.2.1, t6.2.2.2.1, t6.2.2.2.2.1, (w64 (t6.2.2.2.2.2.1 + 1)), ()))) (K (t6.1, t6.2.1, t6.2.2.1, t6.2.2.2.1, t6.2.2.2.2.1, t6.2.2.2.2.2.1, ()))
noncomputable def F124 (f174 : List Int × Unit → Option (Bool × Unit)) (f175 : Int × Unit → Option (Bool × Unit)) (f176 : Int × List Int × Unit → Option (Int × Unit)) (f177 : List Int × Int × Unit → Option (List Int × Unit)) (f178 : List Int × Unit → Option (Int × Unit)) (a : Int × List Int × Unit) : Option (List Int × Unit) :=
  (f174 (a.2.1, ())).bind fun x1 => cond (!(!x1.1)) ((f175 (a.1, ())).bind fun x2 => cond (!x2.1) (some (([] : List Int), ())) ((f176 (a.1, a.2.1, ())).bind fun x3 => (f177 (a.2.1, x3.1, ())).bind fun x4 => (f178 (x4.1, ())).bind fun x5 => iterF (s124_0 f174 f175 f176 f177 f178) fuel (x3.1, x4.1, (w64 (a.1 - x5.1)), a.2.1, (Int.ofNat (List.length a.2.1)), 0, ()) fun t10 => some (t10.2.1, ()))) (some (([] : List Int), ()))
def E124 (f174 : List Int × Unit → Option (Bool × Unit)) (f175 : Int × Unit → Option (Bool × Unit)) (f176 : Int × List Int × Unit → Option (Int × Unit)) (f177 : List Int × Int × Unit → Option (List Int × Unit)) (f178 : List Int × Unit → Option (Int × Unit)) : Env := envL [(174, mkE p174 r174 false f174), (175, mkE p175 r175 false f175), (176, mkE p176 r176 false f176), (177, mkE p177 r177 false f177), (178, mkE p178 r178 false f178)]
noncomputable def L124 (f174 : List Int × Unit → Option (Bool × Unit)) (f175 : Int × Unit → Option (Bool × Unit)) (f176 : Int × List Int × Unit → Option (Int × Unit)) (f177 : List Int × Int × Unit → Option (List Int × Unit)) (f178 : List Int × Unit → Option (Int × Unit)) : LEnv (densS (muts p124 ++ r124)) := lenv [(0, loopL (R := densS (muts p124 ++ r124)) q124_0 (s124_0 f174 f175 f176 f177 f178))]
theorem e124_0 (f174 : List Int × Unit → Option (Bool × Unit)) (f175 : Int × Unit → Option (Bool × Unit)) (f176 : Int × List Int × Unit → Option (Int × Unit)) (f177 : List Int × Int × Unit → Option (List Int × Unit)) (f178 : List Int × Unit → Option (Int × Unit)) (X : Nat → St → Option (densS (muts p124 ++ r124))) (rec K : densS q124_0 → Option (densS (muts p124 ++ r124))) (t : densS q124_0) :
    ev (E124 f174 f175 f176 f177 f178) tab2 (fun _ => false) (L124 f174 f175 f176 f177 f178) (retK tab2 p124 r124 Proofs.Tryz.f124.results.toList) (loopC Proofs.Tryz.f124 0) (fun i s => cond (Nat.beq i 0) (decK 100 q124_0 s K) (X i s)) (fun s => decK 100 q124_0 s rec) (enc q124_0 t) = s124_0 f174 f175 f176 f177 f178 t rec K := by kernel_rfl
theorem e124 (f174 : List Int × Unit → Option (Bool × Unit)) (f175 : Int × Unit → Option (Bool × Unit)) (f176 : Int × List Int × Unit → Option (Int × Unit)) (f177 : List Int × Int × Unit → Option (List Int × Unit)) (f178 : List Int × Unit → Option (Int × Unit)) (a : densS p124) : runF (E124 f174 f175 f176 f177 f178) tab2 (fun _ => false) p124 r124 Proofs.Tryz.f124 (L124 f174 f175 f176 f177 f178) a = F124 f174 f175 f176 f177 f178 a := by kernel_rfl
theorem ok124 {f174 : List Int × Unit → Option (Bool × Unit)} {f175 : Int × Unit → Option (Bool × Unit)} {f176 : Int × List Int × Unit → Option (Int × Unit)} {f177 : List Int × Int × Unit → Option (List Int × Unit)} {f178 : List Int × Unit → Option (Int × Unit)} (h174 : OK Proofs.Tryz.prog 174 (mkE p174 r174 false f174)) (h175 : OK Proofs.Tryz.prog 175 (mkE p175 r175 false f175)) (h176 : OK Proofs.Tryz.prog 176 (mkE p176 r176 false f176)) (h177 : OK Proofs.Tryz.prog 177 (mkE p177 r177 false f177)) (h178 : OK Proofs.Tryz.prog 178 (mkE p178 r178 false f178)) : OK Proofs.Tryz.prog 124 (mkE p124 r124 false (F124 f174 f175 f176 f177 f178)) :=
  fn_ok tab_ok2 (envL_ok (l := [(174, mkE p174 r174 false f174), (175, mkE p175 r175 false f175), (176, mkE p176 r176 false f176), (177, mkE p177 r177 false f177), (178, mkE p178 r178 false f178)]) (OKs.cons h174 (OKs.cons h175 (OKs.cons h176 (OKs.cons h177 (OKs.cons h178 OKs.nil)))))) mixed2 (ann := (fun _ => false)) (L := L124 f174 f175 f176 f177 f178) (fn := Proofs.Tryz.f124) (c := bodyC Proofs.Tryz.f124) (ls := [(0, loopC Proofs.Tryz.f124 0)]) Proofs.Tryz.func124 (by kernel_rfl) (by kernel_rfl) (by kernel_rfl) (by kernel_rfl)
    (LoopsP.cons q124_0 (s124_0 f174 f175 f176 f177 f178) rfl (e124_0 f174 f175 f176 f177 f178) LoopsP.nil) (e124 f174 f175 f176 f177 f178)
/-! impl.LiftsAt -/
def p67 : List SP := [.agg [.r .device, .r .cue, .r .gust, .int .i64], .one (.int .i64)]
def r67 : List SP := [.one (.o 0 .int)]
def q67_2 : List SP := pat 91 0 [(1, .one (.int .i64)), (2, .box 5002001 [.r .device, .r .cue, .r .gust, .int .i64]), (5, .one (.o 5002002 .int)), (7, .boxt 5002003 .device), (8, .one (.o 5002004 .int)), (9, .one (.o 5002005 .int)), (30, .one (.r .device)), (31, .one (.int .i64)), (32, .one (.int .i64)), (42, .one (.r .device)), (43, .one (.int .i64)), (44, .one (.int .i64))]
noncomputable def s67_2 (f39 : ShD × Unit → Option (Bool × Unit)) (f72 : Int × Int × Int × Unit → Option (Bool × Unit)) (f123 : List Cue × Str × Int × Unit → Option (Int × Unit)) (f124 : Int × List Int × Unit → Option (List Int × Unit)) (t5 : Int × ShD × List Int × Device × List Int × List Int × List Device × Int × Int × List Device × Int × Int × Unit) (rec K : Int × ShD × List Int × Device × List Int × List Int × List Device × Int × Int × List Device × Int × Int × Unit → Option (List Int × Unit)) : Option (List Int × Unit) :=
  cond (decide (t5.2.2.2.2.2.2.2.2.2.2.2.1 < t5.2.2.2.2.2.2.2.2.2.2.1)) (rdL t5.2.2.2.2.2.2.2.2.2.1 t5.2.2.2.2.2.2.2.2.2.2.2.1 fun d6 => cond (decide (d6.Line = t5.2.2.2.1.Name)) (capK (List.length t5.2.2.2.2.1 + List.length ([t5.2.2.2.2.2.2.2.2.2.2.2.1] : List Int)) ((f123 (t5.2.1.2.1, d6.Name, t5.1, ())).bind fun x7 => capK (List.length t5.2.2.2.2.2.1 + List.length ([(mn x7.1 d6.Most)] : List Int)) (rec (t5.1, (t5.2.1.1, t5.2.1.2.1, t5.2.1.2.2.1, t5.2.1.2.2.2.1, ()), t5.2.2.1, t5.2.2.2.1, (t5.2.2.2.2.1 ++ ([t5.2.2.2.2.2.2.2.2.2.2.2.1] : List Int)), (t5.2.2.2.2.2.1 ++ ([(mn x7.1 d6.Most)] : List Int)), t5.2.2.2.2.2.2.1, t5.2.2.2.2.2.2.2.1, t5.2.2.2.2.2.2.2.2.1, t5.2.2.2.2.2.2.2.2.2.1, t5.2.2.2.2.2.2.2.2.2.2.1, (w64 (t5.2.2.2.2.2.2.2.2.2.2.2.1 + 1)), ())))) (rec (t5.1, (t5.2.1.1, t5.2.1.2.1, t5.2.1.2.2.1, t5.2.1.2.2.2.1, ()), t5.2.2.1, t5.2.2.2.1, t5.2.2.2.2.1, t5.2.2.2.2.2.1, t5.2.2.2.2.2.2.1, t5.2.2.2.2.2.2.2.1, t5.2.2.2.2.2.2.2.2.1, t5.2.2.2.2.2.2.2.2.2.1, t5.2.2.2.2.2.2.2.2.2.2.1, (w64 (t5.2.2.2.2.2.2.2.2.2.2.2.1 + 1)), ()))) (K (t5.1, (t5.2.1.1, t5.2.1.2.1, t5.2.1.2.2.1, t5.2.1.2.2.2.1, ()), t5.2.2.1, t5.2.2.2.1, t5.2.2.2.2.1, t5.2.2.2.2.2.1, t5.2.2.2.2.2.2.1, t5.2.2.2.2.2.2.2.1, t5.2.2.2.2.2.2.2.2.1, t5.2.2.2.2.2.2.2.2.2.1, t5.2.2.2.2.2.2.2.2.2.2.1, t5.2.2.2.2.2.2.2.2.2.2.2.1, ()))
def q67_4 : List SP := pat 91 0 [(1, .one (.int .i64)), (2, .box 5004001 [.r .device, .r .cue, .r .gust, .int .i64]), (5, .one (.o 5004002 .int)), (8, .one (.o 5004003 .int)), (30, .one (.r .device)), (31, .one (.int .i64)), (32, .one (.int .i64)), (74, .one (.o 5004004 .int)), (75, .one (.int .i64)), (76, .one (.int .i64))]
noncomputable def s67_4 (f39 : ShD × Unit → Option (Bool × Unit)) (f72 : Int × Int × Int × Unit → Option (Bool × Unit)) (f123 : List Cue × Str × Int × Unit → Option (Int × Unit)) (f124 : Int × List Int × Unit → Option (List Int × Unit)) (t10 : Int × ShD × List Int × List Int × List Device × Int × Int × List Int × Int × Int × Unit) (rec K : Int × ShD × List Int × List Int × List Device × Int × Int × List Int × Int × Int × Unit → Option (List Int × Unit)) : Option (List Int × Unit) :=
  cond (decide (t10.2.2.2.2.2.2.2.2.2.1 < t10.2.2.2.2.2.2.2.2.1)) (rdL t10.2.2.2.2.2.2.2.1 t10.2.2.2.2.2.2.2.2.2.1 fun _ => (t10.2.2.2.2.2.2.2.1[(Int.toNat t10.2.2.2.2.2.2.2.2.2.1)]?).bind fun d11 => rdL t10.2.2.2.1 t10.2.2.2.2.2.2.2.2.2.1 fun _ => (t10.2.2.2.1[(Int.toNat t10.2.2.2.2.2.2.2.2.2.1)]?).bind fun d12 => rdL t10.2.2.1 d12 fun _ => (t10.2.2.1[(Int.toNat d12)]?).bind fun d13 => rec (t10.1, (t10.2.1.1, t10.2.1.2.1, t10.2.1.2.2.1, t10.2.1.2.2.2.1, ()), (List.set t10.2.2.1 (Int.toNat d12) d11), t10.2.2.2.1, t10.2.2.2.2.1, t10.2.2.2.2.2.1, t10.2.2.2.2.2.2.1, t10.2.2.2.2.2.2.2.1, t10.2.2.2.2.2.2.2.2.1, (w64 (t10.2.2.2.2.2.2.2.2.2.1 + 1)), ())) (K (t10.1, (t10.2.1.1, t10.2.1.2.1, t10.2.1.2.2.1, t10.2.1.2.2.2.1, ()), t10.2.2.1, t10.2.2.2.1, t10.2.2.2.2.1, t10.2.2.2.2.2.1, t10.2.2.2.2.2.2.1, t10.2.2.2.2.2.2.2.1, t10.2.2.2.2.2.2.2.2.1, t10.2.2.2.2.2.2.2.2.2.1, ()))
def q67_0 : List SP := pat 91 0 [(1, .one (.int .i64)), (2, .box 5000001 [.r .device, .r .cue, .r .gust, .int .i64]), (5, .one (.o 5000002 .int)), (30, .one (.r .device)), (31, .one (.int .i64)), (32, .one (.int .i64))]
noncomputable def s67_0 (f39 : ShD × Unit → Option (Bool × Unit)) (f72 : Int × Int × Int × Unit → Option (Bool × Unit)) (f123 : List Cue × Str × Int × Unit → Option (Int × Unit)) (f124 : Int × List Int × Unit → Option (List Int × Unit)) (t3 : Int × ShD × List Int × List Device × Int × Int × Unit) (rec K : Int × ShD × List Int × List Device × Int × Int × Unit → Option (List Int × Unit)) : Option (List Int × Unit) :=
  cond (decide (t3.2.2.2.2.2.1 < t3.2.2.2.2.1)) (rdL t3.2.2.2.1 t3.2.2.2.2.2.1 fun d4 => cond (!(decide (d4.Kind = 1))) (rec (t3.1, (t3.2.1.1, t3.2.1.2.1, t3.2.1.2.2.1, t3.2.1.2.2.2.1, ()), t3.2.2.1, t3.2.2.2.1, t3.2.2.2.2.1, (w64 (t3.2.2.2.2.2.1 + 1)), ())) (iterF (s67_2 f39 f72 f123 f124) fuel (t3.1, (t3.2.1.1, t3.2.1.2.1, t3.2.1.2.2.1, t3.2.1.2.2.2.1, ()), t3.2.2.1, d4, ([] : List Int), ([] : List Int), t3.2.2.2.1, t3.2.2.2.2.1, t3.2.2.2.2.2.1, t3.2.1.1, (Int.ofNat (List.length t3.2.1.1)), 0, ()) fun t8 => (f124 (t8.2.2.2.1.Most, t8.2.2.2.2.2.1, ())).bind fun x9 => iterF (s67_4 f39 f72 f123 f124) fuel (t8.1, (t8.2.1.1, t8.2.1.2.1, t8.2.1.2.2.1, t8.2.1.2.2.2.1, ()), t8.2.2.1, t8.2.2.2.2.1, t8.2.2.2.2.2.2.1, t8.2.2.2.2.2.2.2.1, t8.2.2.2.2.2.2.2.2.1, x9.1, (Int.ofNat (List.length x9.1)), 0, ()) fun t14 => rec (t14.1, (t14.2.1.1, t14.2.1.2.1, t14.2.1.2.2.1, t14.2.1.2.2.2.1, ()), t14.2.2.1, t14.2.2.2.2.1, t14.2.2.2.2.2.1, (w64 (t14.2.2.2.2.2.2.1 + 1)), ()))) (K (t3.1, (t3.2.1.1, t3.2.1.2.1, t3.2.1.2.2.1, t3.2.1.2.2.2.1, ()), t3.2.2.1, t3.2.2.2.1, t3.2.2.2.2.1, t3.2.2.2.2.2.1, ()))
noncomputable def F67 (f39 : ShD × Unit → Option (Bool × Unit)) (f72 : Int × Int × Int × Unit → Option (Bool × Unit)) (f123 : List Cue × Str × Int × Unit → Option (Int × Unit)) (f124 : Int × List Int × Unit → Option (List Int × Unit)) (a : ShD × Int × Unit) : Option (List Int × Unit) :=
  (f39 ((a.1.1, a.1.2.1, a.1.2.2.1, a.1.2.2.2.1, ()), ())).bind fun x1 => cond (!x1.1) (some (([] : List Int), ())) (okIf (0 ≤ (Int.ofNat (List.length a.1.1))) (capK (Int.toNat (Int.ofNat (List.length a.1.1))) ((f72 (a.2.1, 0, (w64 (a.1.2.2.2.1 - 1)), ())).bind fun x2 => cond (!x2.1) (some ((List.replicate (Int.toNat (Int.ofNat (List.length a.1.1))) (Ty.zero .int)), ())) (iterF (s67_0 f39 f72 f123 f124) fuel (a.2.1, (a.1.1, a.1.2.1, a.1.2.2.1, a.1.2.2.2.1, ()), (List.replicate (Int.toNat (Int.ofNat (List.length a.1.1))) (Ty.zero .int)), a.1.1, (Int.ofNat (List.length a.1.1)), 0, ()) fun t15 => some (t15.2.2.1, ())))))
def E67 (f39 : ShD × Unit → Option (Bool × Unit)) (f72 : Int × Int × Int × Unit → Option (Bool × Unit)) (f123 : List Cue × Str × Int × Unit → Option (Int × Unit)) (f124 : Int × List Int × Unit → Option (List Int × Unit)) : Env := envL [(39, mkE p39 r39 false f39), (72, mkE p72 r72 false f72), (123, mkE p123 r123 false f123), (124, mkE p124 r124 false f124)]
noncomputable def L67 (f39 : ShD × Unit → Option (Bool × Unit)) (f72 : Int × Int × Int × Unit → Option (Bool × Unit)) (f123 : List Cue × Str × Int × Unit → Option (Int × Unit)) (f124 : Int × List Int × Unit → Option (List Int × Unit)) : LEnv (densS (muts p67 ++ r67)) := lenv [(0, loopL (R := densS (muts p67 ++ r67)) q67_0 (s67_0 f39 f72 f123 f124)), (2, loopL (R := densS (muts p67 ++ r67)) q67_2 (s67_2 f39 f72 f123 f124)), (4, loopL (R := densS (muts p67 ++ r67)) q67_4 (s67_4 f39 f72 f123 f124))]
theorem e67_0 (f39 : ShD × Unit → Option (Bool × Unit)) (f72 : Int × Int × Int × Unit → Option (Bool × Unit)) (f123 : List Cue × Str × Int × Unit → Option (Int × Unit)) (f124 : Int × List Int × Unit → Option (List Int × Unit)) (X : Nat → St → Option (densS (muts p67 ++ r67))) (rec K : densS q67_0 → Option (densS (muts p67 ++ r67))) (t : densS q67_0) :
    ev (E67 f39 f72 f123 f124) tab2 (fun _ => false) (L67 f39 f72 f123 f124) (retK tab2 p67 r67 Proofs.Tryz.f67.results.toList) (loopC Proofs.Tryz.f67 0) (fun i s => cond (Nat.beq i 0) (decK 100 q67_0 s K) (X i s)) (fun s => decK 100 q67_0 s rec) (enc q67_0 t) = s67_0 f39 f72 f123 f124 t rec K := by kernel_rfl
theorem e67_2 (f39 : ShD × Unit → Option (Bool × Unit)) (f72 : Int × Int × Int × Unit → Option (Bool × Unit)) (f123 : List Cue × Str × Int × Unit → Option (Int × Unit)) (f124 : Int × List Int × Unit → Option (List Int × Unit)) (X : Nat → St → Option (densS (muts p67 ++ r67))) (rec K : densS q67_2 → Option (densS (muts p67 ++ r67))) (t : densS q67_2) :
    ev (E67 f39 f72 f123 f124) tab2 (fun _ => false) (L67 f39 f72 f123 f124) (retK tab2 p67 r67 Proofs.Tryz.f67.results.toList) (loopC Proofs.Tryz.f67 1) (fun i s => cond (Nat.beq i 2) (decK 100 q67_2 s K) (X i s)) (fun s => decK 100 q67_2 s rec) (enc q67_2 t) = s67_2 f39 f72 f123 f124 t rec K := by kernel_rfl
theorem e67_4 (f39 : ShD × Unit → Option (Bool × Unit)) (f72 : Int × Int × Int × Unit → Option (Bool × Unit)) (f123 : List Cue × Str × Int × Unit → Option (Int × Unit)) (f124 : Int × List Int × Unit → Option (List Int × Unit)) (X : Nat → St → Option (densS (muts p67 ++ r67))) (rec K : densS q67_4 → Option (densS (muts p67 ++ r67))) (t : densS q67_4) :
    ev (E67 f39 f72 f123 f124) tab2 (fun _ => false) (L67 f39 f72 f123 f124) (retK tab2 p67 r67 Proofs.Tryz.f67.results.toList) (loopC Proofs.Tryz.f67 2) (fun i s => cond (Nat.beq i 4) (decK 100 q67_4 s K) (X i s)) (fun s => decK 100 q67_4 s rec) (enc q67_4 t) = s67_4 f39 f72 f123 f124 t rec K := by kernel_rfl
theorem e67 (f39 : ShD × Unit → Option (Bool × Unit)) (f72 : Int × Int × Int × Unit → Option (Bool × Unit)) (f123 : List Cue × Str × Int × Unit → Option (Int × Unit)) (f124 : Int × List Int × Unit → Option (List Int × Unit)) (a : densS p67) : runF (E67 f39 f72 f123 f124) tab2 (fun _ => false) p67 r67 Proofs.Tryz.f67 (L67 f39 f72 f123 f124) a = F67 f39 f72 f123 f124 a := by kernel_rfl
theorem ok67 {f39 : ShD × Unit → Option (Bool × Unit)} {f72 : Int × Int × Int × Unit → Option (Bool × Unit)} {f123 : List Cue × Str × Int × Unit → Option (Int × Unit)} {f124 : Int × List Int × Unit → Option (List Int × Unit)} (h39 : OK Proofs.Tryz.prog 39 (mkE p39 r39 false f39)) (h72 : OK Proofs.Tryz.prog 72 (mkE p72 r72 false f72)) (h123 : OK Proofs.Tryz.prog 123 (mkE p123 r123 false f123)) (h124 : OK Proofs.Tryz.prog 124 (mkE p124 r124 false f124)) : OK Proofs.Tryz.prog 67 (mkE p67 r67 false (F67 f39 f72 f123 f124)) :=
  fn_ok tab_ok2 (envL_ok (l := [(39, mkE p39 r39 false f39), (72, mkE p72 r72 false f72), (123, mkE p123 r123 false f123), (124, mkE p124 r124 false f124)]) (OKs.cons h39 (OKs.cons h72 (OKs.cons h123 (OKs.cons h124 OKs.nil))))) mixed2 (ann := (fun _ => false)) (L := L67 f39 f72 f123 f124) (fn := Proofs.Tryz.f67) (c := bodyC Proofs.Tryz.f67) (ls := [(0, loopC Proofs.Tryz.f67 0), (2, loopC Proofs.Tryz.f67 1), (4, loopC Proofs.Tryz.f67 2)]) Proofs.Tryz.func67 (by kernel_rfl) (by kernel_rfl) (by kernel_rfl) (by kernel_rfl)
    (LoopsP.cons q67_0 (s67_0 f39 f72 f123 f124) rfl (e67_0 f39 f72 f123 f124) (LoopsP.cons q67_2 (s67_2 f39 f72 f123 f124) rfl (e67_2 f39 f72 f123 f124) (LoopsP.cons q67_4 (s67_4 f39 f72 f123 f124) rfl (e67_4 f39 f72 f123 f124) LoopsP.nil))) (e67 f39 f72 f123 f124)
/-! impl.throwsOf -/
def p63 : List SP := [.agg [.r .device, .r .cue, .r .gust, .int .i64]]
def r63 : List SP := [.one (.o 0 .throw)]
def q63_2 : List SP := pat 52 0 [(1, .box 5002001 [.r .device, .r .cue, .r .gust, .int .i64]), (3, .one (.o 5002002 .throw)), (4, .one (.int .i64)), (14, .one (.int .i64)), (15, .one (.int .i64)), (20, .one (.o 5002003 .int)), (21, .one (.int .i64)), (22, .one (.int .i64))]
noncomputable def s63_2 (f39 : ShD × Unit → Option (Bool × Unit)) (f67 : ShD × Int × Unit → Option (List Int × Unit)) (t4 : ShD × List Throw × Int × Int × Int × List Int × Int × Int × Unit) (rec K : ShD × List Throw × Int × Int × Int × List Int × Int × Int × Unit → Option (List Throw × Unit)) : Option (List Throw × Unit) :=
  cond (decide (t4.2.2.2.2.2.2.2.1 < t4.2.2.2.2.2.2.1)) (rdL t4.2.2.2.2.2.1 t4.2.2.2.2.2.2.2.1 fun _ => (t4.2.2.2.2.2.1[(Int.toNat t4.2.2.2.2.2.2.2.1)]?).bind fun d5 => cond (decide (d5 > 0)) (rdL t4.1.1 t4.2.2.2.2.2.2.2.1 fun d6 => capK (List.length t4.2.1 + List.length ([(⟨d6.Name, t4.2.2.1, ⟨⟨d6.At.X, d6.At.Y⟩, d6.Heading, d6.Tilt, d5⟩⟩ : Throw)] : List Throw)) (rec ((t4.1.1, t4.1.2.1, t4.1.2.2.1, t4.1.2.2.2.1, ()), (t4.2.1 ++ ([(⟨d6.Name, t4.2.2.1, ⟨⟨d6.At.X, d6.At.Y⟩, d6.Heading, d6.Tilt, d5⟩⟩ : Throw)] : List Throw)), t4.2.2.1, t4.2.2.2.1, t4.2.2.2.2.1, t4.2.2.2.2.2.1, t4.2.2.2.2.2.2.1, (w64 (t4.2.2.2.2.2.2.2.1 + 1)), ()))) (rec ((t4.1.1, t4.1.2.1, t4.1.2.2.1, t4.1.2.2.2.1, ()), t4.2.1, t4.2.2.1, t4.2.2.2.1, t4.2.2.2.2.1, t4.2.2.2.2.2.1, t4.2.2.2.2.2.2.1, (w64 (t4.2.2.2.2.2.2.2.1 + 1)), ()))) (K ((t4.1.1, t4.1.2.1, t4.1.2.2.1, t4.1.2.2.2.1, ()), t4.2.1, t4.2.2.1, t4.2.2.2.1, t4.2.2.2.2.1, t4.2.2.2.2.2.1, t4.2.2.2.2.2.2.1, t4.2.2.2.2.2.2.2.1, ()))
def q63_0 : List SP := pat 52 0 [(1, .box 5000001 [.r .device, .r .cue, .r .gust, .int .i64]), (3, .one (.o 5000002 .throw)), (14, .one (.int .i64)), (15, .one (.int .i64))]
noncomputable def s63_0 (f39 : ShD × Unit → Option (Bool × Unit)) (f67 : ShD × Int × Unit → Option (List Int × Unit)) (t2 : ShD × List Throw × Int × Int × Unit) (rec K : ShD × List Throw × Int × Int × Unit → Option (List Throw × Unit)) : Option (List Throw × Unit) :=
  cond (decide (t2.2.2.2.1 < t2.2.2.1)) ((f67 ((t2.1.1, t2.1.2.1, t2.1.2.2.1, t2.1.2.2.2.1, ()), t2.2.2.2.1, ())).bind fun x3 => iterF (s63_2 f39 f67) fuel ((t2.1.1, t2.1.2.1, t2.1.2.2.1, t2.1.2.2.2.1, ()), t2.2.1, t2.2.2.2.1, t2.2.2.1, t2.2.2.2.1, x3.1, (Int.ofNat (List.length x3.1)), 0, ()) fun t7 => rec ((t7.1.1, t7.1.2.1, t7.1.2.2.1, t7.1.2.2.2.1, ()), t7.2.1, t7.2.2.2.1, (w64 (t7.2.2.2.2.1 + 1)), ())) (K ((t2.1.1, t2.1.2.1, t2.1.2.2.1, t2.1.2.2.2.1, ()), t2.2.1, t2.2.2.1, t2.2.2.2.1, ()))
noncomputable def F63 (f39 : ShD × Unit → Option (Bool × Unit)) (f67 : ShD × Int × Unit → Option (List Int × Unit)) (a : ShD × Unit) : Option (List Throw × Unit) :=
  (f39 ((a.1.1, a.1.2.1, a.1.2.2.1, a.1.2.2.2.1, ()), ())).bind fun x1 => cond (!x1.1) (some (([] : List Throw), ())) (iterF (s63_0 f39 f67) fuel ((a.1.1, a.1.2.1, a.1.2.2.1, a.1.2.2.2.1, ()), ([] : List Throw), a.1.2.2.2.1, 0, ()) fun t8 => some (t8.2.1, ()))
def E63 (f39 : ShD × Unit → Option (Bool × Unit)) (f67 : ShD × Int × Unit → Option (List Int × Unit)) : Env := envL [(39, mkE p39 r39 false f39), (67, mkE p67 r67 false f67)]
noncomputable def L63 (f39 : ShD × Unit → Option (Bool × Unit)) (f67 : ShD × Int × Unit → Option (List Int × Unit)) : LEnv (densS (muts p63 ++ r63)) := lenv [(0, loopL (R := densS (muts p63 ++ r63)) q63_0 (s63_0 f39 f67)), (2, loopL (R := densS (muts p63 ++ r63)) q63_2 (s63_2 f39 f67))]
theorem e63_0 (f39 : ShD × Unit → Option (Bool × Unit)) (f67 : ShD × Int × Unit → Option (List Int × Unit)) (X : Nat → St → Option (densS (muts p63 ++ r63))) (rec K : densS q63_0 → Option (densS (muts p63 ++ r63))) (t : densS q63_0) :
    ev (E63 f39 f67) tab2 (fun _ => false) (L63 f39 f67) (retK tab2 p63 r63 Proofs.Tryz.f63.results.toList) (loopC Proofs.Tryz.f63 0) (fun i s => cond (Nat.beq i 0) (decK 100 q63_0 s K) (X i s)) (fun s => decK 100 q63_0 s rec) (enc q63_0 t) = s63_0 f39 f67 t rec K := by kernel_rfl
theorem e63_2 (f39 : ShD × Unit → Option (Bool × Unit)) (f67 : ShD × Int × Unit → Option (List Int × Unit)) (X : Nat → St → Option (densS (muts p63 ++ r63))) (rec K : densS q63_2 → Option (densS (muts p63 ++ r63))) (t : densS q63_2) :
    ev (E63 f39 f67) tab2 (fun _ => false) (L63 f39 f67) (retK tab2 p63 r63 Proofs.Tryz.f63.results.toList) (loopC Proofs.Tryz.f63 1) (fun i s => cond (Nat.beq i 2) (decK 100 q63_2 s K) (X i s)) (fun s => decK 100 q63_2 s rec) (enc q63_2 t) = s63_2 f39 f67 t rec K := by kernel_rfl
theorem e63 (f39 : ShD × Unit → Option (Bool × Unit)) (f67 : ShD × Int × Unit → Option (List Int × Unit)) (a : densS p63) : runF (E63 f39 f67) tab2 (fun _ => false) p63 r63 Proofs.Tryz.f63 (L63 f39 f67) a = F63 f39 f67 a := by kernel_rfl
theorem ok63 {f39 : ShD × Unit → Option (Bool × Unit)} {f67 : ShD × Int × Unit → Option (List Int × Unit)} (h39 : OK Proofs.Tryz.prog 39 (mkE p39 r39 false f39)) (h67 : OK Proofs.Tryz.prog 67 (mkE p67 r67 false f67)) : OK Proofs.Tryz.prog 63 (mkE p63 r63 false (F63 f39 f67)) :=
  fn_ok tab_ok2 (envL_ok (l := [(39, mkE p39 r39 false f39), (67, mkE p67 r67 false f67)]) (OKs.cons h39 (OKs.cons h67 OKs.nil))) mixed2 (ann := (fun _ => false)) (L := L63 f39 f67) (fn := Proofs.Tryz.f63) (c := bodyC Proofs.Tryz.f63) (ls := [(0, loopC Proofs.Tryz.f63 0), (2, loopC Proofs.Tryz.f63 1)]) Proofs.Tryz.func63 (by kernel_rfl) (by kernel_rfl) (by kernel_rfl) (by kernel_rfl)
    (LoopsP.cons q63_0 (s63_0 f39 f67) rfl (e63_0 f39 f67) (LoopsP.cons q63_2 (s63_2 f39 f67) rfl (e63_2 f39 f67) LoopsP.nil)) (e63 f39 f67)
/-! impl.FlightOf -/
def p20 : List SP := [.t .jet]
def r20 : List SP := [.one (.int .i64)]
noncomputable def F20 (f70 : Jet × Unit → Option (Bool × Unit)) (a : Jet × Unit) : Option (Int × Unit) :=
  (f70 (a.1, ())).bind fun x1 => cond (!x1.1) (some (0, ())) (some ((w64 (a.1.Lift + 1)), ()))
def E20 (f70 : Jet × Unit → Option (Bool × Unit)) : Env := envL [(70, mkE p70 r70 false f70)]
noncomputable def L20 (f70 : Jet × Unit → Option (Bool × Unit)) : LEnv (densS (muts p20 ++ r20)) := lenv []
theorem e20 (f70 : Jet × Unit → Option (Bool × Unit)) (a : densS p20) : runF (E20 f70) tab2 (fun _ => false) p20 r20 Proofs.Tryz.f20 (L20 f70) a = F20 f70 a := by kernel_rfl
theorem ok20 {f70 : Jet × Unit → Option (Bool × Unit)} (h70 : OK Proofs.Tryz.prog 70 (mkE p70 r70 false f70)) : OK Proofs.Tryz.prog 20 (mkE p20 r20 false (F20 f70)) :=
  fn_ok tab_ok2 (envL_ok (l := [(70, mkE p70 r70 false f70)]) (OKs.cons h70 OKs.nil)) mixed2 (ann := (fun _ => false)) (L := L20 f70) (fn := Proofs.Tryz.f20) (c := bodyC Proofs.Tryz.f20) (ls := []) Proofs.Tryz.func20 (by kernel_rfl) (by kernel_rfl) (by kernel_rfl) (by kernel_rfl)
    LoopsP.nil (e20 f70)
/-! impl.isInAir -/
def p98 : List SP := [.t .jet, .one (.int .i64)]
def r98 : List SP := [.one (.bool)]
noncomputable def F98 (f70 : Jet × Unit → Option (Bool × Unit)) (f20 : Jet × Unit → Option (Int × Unit)) (f72 : Int × Int × Int × Unit → Option (Bool × Unit)) (a : Jet × Int × Unit) : Option (Bool × Unit) :=
  (f70 (a.1, ())).bind fun x1 => cond x1.1 ((f20 (a.1, ())).bind fun x2 => (f72 (a.2.1, 0, x2.1, ())).bind fun x3 => some (x3.1, ())) (some (false, ()))
def E98 (f70 : Jet × Unit → Option (Bool × Unit)) (f20 : Jet × Unit → Option (Int × Unit)) (f72 : Int × Int × Int × Unit → Option (Bool × Unit)) : Env := envL [(70, mkE p70 r70 false f70), (20, mkE p20 r20 false f20), (72, mkE p72 r72 false f72)]
noncomputable def L98 (f70 : Jet × Unit → Option (Bool × Unit)) (f20 : Jet × Unit → Option (Int × Unit)) (f72 : Int × Int × Int × Unit → Option (Bool × Unit)) : LEnv (densS (muts p98 ++ r98)) := lenv []
theorem e98 (f70 : Jet × Unit → Option (Bool × Unit)) (f20 : Jet × Unit → Option (Int × Unit)) (f72 : Int × Int × Int × Unit → Option (Bool × Unit)) (a : densS p98) : runF (E98 f70 f20 f72) tab2 (fun _ => false) p98 r98 Proofs.Tryz.f98 (L98 f70 f20 f72) a = F98 f70 f20 f72 a := by kernel_rfl
theorem ok98 {f70 : Jet × Unit → Option (Bool × Unit)} {f20 : Jet × Unit → Option (Int × Unit)} {f72 : Int × Int × Int × Unit → Option (Bool × Unit)} (h70 : OK Proofs.Tryz.prog 70 (mkE p70 r70 false f70)) (h20 : OK Proofs.Tryz.prog 20 (mkE p20 r20 false f20)) (h72 : OK Proofs.Tryz.prog 72 (mkE p72 r72 false f72)) : OK Proofs.Tryz.prog 98 (mkE p98 r98 false (F98 f70 f20 f72)) :=
  fn_ok tab_ok2 (envL_ok (l := [(70, mkE p70 r70 false f70), (20, mkE p20 r20 false f20), (72, mkE p72 r72 false f72)]) (OKs.cons h70 (OKs.cons h20 (OKs.cons h72 OKs.nil)))) mixed2 (ann := (fun _ => false)) (L := L98 f70 f20 f72) (fn := Proofs.Tryz.f98) (c := bodyC Proofs.Tryz.f98) (ls := []) Proofs.Tryz.func98 (by kernel_rfl) (by kernel_rfl) (by kernel_rfl) (by kernel_rfl)
    LoopsP.nil (e98 f70 f20 f72)
/-! impl.turns -/
def p132 : List SP := [.one (.int .i64)]
def r132 : List SP := [.one (.int .i64)]
noncomputable def F132 (a : Int × Unit) : Option (Int × Unit) :=
  some ((Int.tmod (w64 ((Int.tmod a.1 4) + 4)) 4), ())
def E132 : Env := envL []
noncomputable def L132 : LEnv (densS (muts p132 ++ r132)) := lenv []
theorem e132 (a : densS p132) : runF (E132) tab2 (fun _ => false) p132 r132 Proofs.Tryz.f132 (L132) a = F132 a := by kernel_rfl
theorem ok132 : OK Proofs.Tryz.prog 132 (mkE p132 r132 false (F132)) :=
  fn_ok tab_ok2 (envL_ok (l := []) OKs.nil) mixed2 (ann := (fun _ => false)) (L := L132) (fn := Proofs.Tryz.f132) (c := bodyC Proofs.Tryz.f132) (ls := []) Proofs.Tryz.func132 (by kernel_rfl) (by kernel_rfl) (by kernel_rfl) (by kernel_rfl)
    LoopsP.nil (e132)
/-! impl.turned -/
def p83 : List SP := [.t .place, .one (.int .i64)]
def r83 : List SP := [.t .place]
def q83_0 : List SP := pat 17 0 [(2, .boxt 5000001 .place), (4, .boxt 5000002 .place), (6, .one (.int .i64)), (7, .one (.int .i64))]
noncomputable def s83_0 (f132 : Int × Unit → Option (Int × Unit)) (t2 : Place × Place × Int × Int × Unit) (rec K : Place × Place × Int × Int × Unit → Option (Place × Unit)) : Option (Place × Unit) :=
  cond (decide (t2.2.2.2.1 < t2.2.2.1)) (rec ((⟨(w64 (0 - t2.1.Y)), t2.1.X⟩ : Place), t2.2.1, t2.2.2.1, (w64 (t2.2.2.2.1 + 1)), ())) (K (t2.1, t2.2.1, t2.2.2.1, t2.2.2.2.1, ()))
noncomputable def F83 (f132 : Int × Unit → Option (Int × Unit)) (a : Place × Int × Unit) : Option (Place × Unit) :=
  (f132 (a.2.1, ())).bind fun x1 => iterF (s83_0 f132) fuel (a.1, (⟨0, 0⟩ : Place), x1.1, 0, ()) fun t3 => some (t3.1, ())
def E83 (f132 : Int × Unit → Option (Int × Unit)) : Env := envL [(132, mkE p132 r132 false f132)]
noncomputable def L83 (f132 : Int × Unit → Option (Int × Unit)) : LEnv (densS (muts p83 ++ r83)) := lenv [(0, loopL (R := densS (muts p83 ++ r83)) q83_0 (s83_0 f132))]
theorem e83_0 (f132 : Int × Unit → Option (Int × Unit)) (X : Nat → St → Option (densS (muts p83 ++ r83))) (rec K : densS q83_0 → Option (densS (muts p83 ++ r83))) (t : densS q83_0) :
    ev (E83 f132) tab2 (fun _ => false) (L83 f132) (retK tab2 p83 r83 Proofs.Tryz.f83.results.toList) (loopC Proofs.Tryz.f83 0) (fun i s => cond (Nat.beq i 0) (decK 100 q83_0 s K) (X i s)) (fun s => decK 100 q83_0 s rec) (enc q83_0 t) = s83_0 f132 t rec K := by kernel_rfl
theorem e83 (f132 : Int × Unit → Option (Int × Unit)) (a : densS p83) : runF (E83 f132) tab2 (fun _ => false) p83 r83 Proofs.Tryz.f83 (L83 f132) a = F83 f132 a := by kernel_rfl
theorem ok83 {f132 : Int × Unit → Option (Int × Unit)} (h132 : OK Proofs.Tryz.prog 132 (mkE p132 r132 false f132)) : OK Proofs.Tryz.prog 83 (mkE p83 r83 false (F83 f132)) :=
  fn_ok tab_ok2 (envL_ok (l := [(132, mkE p132 r132 false f132)]) (OKs.cons h132 OKs.nil)) mixed2 (ann := (fun _ => false)) (L := L83 f132) (fn := Proofs.Tryz.f83) (c := bodyC Proofs.Tryz.f83) (ls := [(0, loopC Proofs.Tryz.f83 0)]) Proofs.Tryz.func83 (by kernel_rfl) (by kernel_rfl) (by kernel_rfl) (by kernel_rfl)
    (LoopsP.cons q83_0 (s83_0 f132) rfl (e83_0 f132) LoopsP.nil) (e83 f132)
/-! impl.checked -/
def p97 : List SP := [.t .place]
def r97 : List SP := [.t .place, .one (.bool)]
noncomputable def F97 (f92 : Place × Unit → Option (Bool × Unit)) (a : Place × Unit) : Option (Place × Bool × Unit) :=
  (f92 (a.1, ())).bind fun x1 => cond (!x1.1) (some ((⟨0, 0⟩ : Place), false, ())) (some (a.1, true, ()))
def E97 (f92 : Place × Unit → Option (Bool × Unit)) : Env := envL [(92, mkE p92 r92 false f92)]
noncomputable def L97 (f92 : Place × Unit → Option (Bool × Unit)) : LEnv (densS (muts p97 ++ r97)) := lenv []
theorem e97 (f92 : Place × Unit → Option (Bool × Unit)) (a : densS p97) : runF (E97 f92) tab2 (fun _ => false) p97 r97 Proofs.Tryz.f97 (L97 f92) a = F97 f92 a := by kernel_rfl
theorem ok97 {f92 : Place × Unit → Option (Bool × Unit)} (h92 : OK Proofs.Tryz.prog 92 (mkE p92 r92 false f92)) : OK Proofs.Tryz.prog 97 (mkE p97 r97 false (F97 f92)) :=
  fn_ok tab_ok2 (envL_ok (l := [(92, mkE p92 r92 false f92)]) (OKs.cons h92 OKs.nil)) mixed2 (ann := (fun _ => false)) (L := L97 f92) (fn := Proofs.Tryz.f97) (c := bodyC Proofs.Tryz.f97) (ls := []) Proofs.Tryz.func97 (by kernel_rfl) (by kernel_rfl) (by kernel_rfl) (by kernel_rfl)
    LoopsP.nil (e97 f92)
/-! impl.StepFrom -/
def p43 : List SP := [.t .place, .one (.int .i64), .one (.int .i64)]
def r43 : List SP := [.t .place, .one (.bool)]
noncomputable def F43 (f92 : Place × Unit → Option (Bool × Unit)) (f95 : Int × Unit → Option (Bool × Unit)) (f96 : Int × Unit → Option (Bool × Unit)) (f83 : Place × Int × Unit → Option (Place × Unit)) (f97 : Place × Unit → Option (Place × Bool × Unit)) (a : Place × Int × Int × Unit) : Option (Place × Bool × Unit) :=
  (f92 (a.1, ())).bind fun x1 => cond (!(!x1.1)) ((f95 (a.2.1, ())).bind fun x2 => cond (!(!x2.1)) ((f96 (a.2.2.1, ())).bind fun x3 => cond (!x3.1) (some ((⟨0, 0⟩ : Place), false, ())) ((f83 ((⟨a.2.2.1, 0⟩ : Place), a.2.1, ())).bind fun x4 => (f97 ((⟨(w64 (a.1.X + x4.1.X)), (w64 (a.1.Y + x4.1.Y))⟩ : Place), ())).bind fun x5 => some (x5.1, x5.2.1, ()))) (some ((⟨0, 0⟩ : Place), false, ()))) (some ((⟨0, 0⟩ : Place), false, ()))
def E43 (f92 : Place × Unit → Option (Bool × Unit)) (f95 : Int × Unit → Option (Bool × Unit)) (f96 : Int × Unit → Option (Bool × Unit)) (f83 : Place × Int × Unit → Option (Place × Unit)) (f97 : Place × Unit → Option (Place × Bool × Unit)) : Env := envL [(92, mkE p92 r92 false f92), (95, mkE p95 r95 false f95), (96, mkE p96 r96 false f96), (83, mkE p83 r83 false f83), (97, mkE p97 r97 false f97)]
noncomputable def L43 (f92 : Place × Unit → Option (Bool × Unit)) (f95 : Int × Unit → Option (Bool × Unit)) (f96 : Int × Unit → Option (Bool × Unit)) (f83 : Place × Int × Unit → Option (Place × Unit)) (f97 : Place × Unit → Option (Place × Bool × Unit)) : LEnv (densS (muts p43 ++ r43)) := lenv []
theorem e43 (f92 : Place × Unit → Option (Bool × Unit)) (f95 : Int × Unit → Option (Bool × Unit)) (f96 : Int × Unit → Option (Bool × Unit)) (f83 : Place × Int × Unit → Option (Place × Unit)) (f97 : Place × Unit → Option (Place × Bool × Unit)) (a : densS p43) : runF (E43 f92 f95 f96 f83 f97) tab2 (fun _ => false) p43 r43 Proofs.Tryz.f43 (L43 f92 f95 f96 f83 f97) a = F43 f92 f95 f96 f83 f97 a := by kernel_rfl
theorem ok43 {f92 : Place × Unit → Option (Bool × Unit)} {f95 : Int × Unit → Option (Bool × Unit)} {f96 : Int × Unit → Option (Bool × Unit)} {f83 : Place × Int × Unit → Option (Place × Unit)} {f97 : Place × Unit → Option (Place × Bool × Unit)} (h92 : OK Proofs.Tryz.prog 92 (mkE p92 r92 false f92)) (h95 : OK Proofs.Tryz.prog 95 (mkE p95 r95 false f95)) (h96 : OK Proofs.Tryz.prog 96 (mkE p96 r96 false f96)) (h83 : OK Proofs.Tryz.prog 83 (mkE p83 r83 false f83)) (h97 : OK Proofs.Tryz.prog 97 (mkE p97 r97 false f97)) : OK Proofs.Tryz.prog 43 (mkE p43 r43 false (F43 f92 f95 f96 f83 f97)) :=
  fn_ok tab_ok2 (envL_ok (l := [(92, mkE p92 r92 false f92), (95, mkE p95 r95 false f95), (96, mkE p96 r96 false f96), (83, mkE p83 r83 false f83), (97, mkE p97 r97 false f97)]) (OKs.cons h92 (OKs.cons h95 (OKs.cons h96 (OKs.cons h83 (OKs.cons h97 OKs.nil)))))) mixed2 (ann := (fun _ => false)) (L := L43 f92 f95 f96 f83 f97) (fn := Proofs.Tryz.f43) (c := bodyC Proofs.Tryz.f43) (ls := []) Proofs.Tryz.func43 (by kernel_rfl) (by kernel_rfl) (by kernel_rfl) (by kernel_rfl)
    LoopsP.nil (e43 f92 f95 f96 f83 f97)
/-! impl.PlaceAt -/
def p68 : List SP := [.t .jet, .one (.int .i64)]
def r68 : List SP := [.t .place, .one (.bool)]
noncomputable def F68 (f98 : Jet × Int × Unit → Option (Bool × Unit)) (f43 : Place × Int × Int × Unit → Option (Place × Bool × Unit)) (a : Jet × Int × Unit) : Option (Place × Bool × Unit) :=
  (f98 (a.1, a.2.1, ())).bind fun x1 => cond (!x1.1) (some ((⟨0, 0⟩ : Place), false, ())) ((f43 (a.1.At, a.1.Heading, (w64 (a.2.1 * a.1.Tilt)), ())).bind fun x2 => some (x2.1, x2.2.1, ()))
def E68 (f98 : Jet × Int × Unit → Option (Bool × Unit)) (f43 : Place × Int × Int × Unit → Option (Place × Bool × Unit)) : Env := envL [(98, mkE p98 r98 false f98), (43, mkE p43 r43 false f43)]
noncomputable def L68 (f98 : Jet × Int × Unit → Option (Bool × Unit)) (f43 : Place × Int × Int × Unit → Option (Place × Bool × Unit)) : LEnv (densS (muts p68 ++ r68)) := lenv []
theorem e68 (f98 : Jet × Int × Unit → Option (Bool × Unit)) (f43 : Place × Int × Int × Unit → Option (Place × Bool × Unit)) (a : densS p68) : runF (E68 f98 f43) tab2 (fun _ => false) p68 r68 Proofs.Tryz.f68 (L68 f98 f43) a = F68 f98 f43 a := by kernel_rfl
theorem ok68 {f98 : Jet × Int × Unit → Option (Bool × Unit)} {f43 : Place × Int × Int × Unit → Option (Place × Bool × Unit)} (h98 : OK Proofs.Tryz.prog 98 (mkE p98 r98 false f98)) (h43 : OK Proofs.Tryz.prog 43 (mkE p43 r43 false f43)) : OK Proofs.Tryz.prog 68 (mkE p68 r68 false (F68 f98 f43)) :=
  fn_ok tab_ok2 (envL_ok (l := [(98, mkE p98 r98 false f98), (43, mkE p43 r43 false f43)]) (OKs.cons h98 (OKs.cons h43 OKs.nil))) mixed2 (ann := (fun _ => false)) (L := L68 f98 f43) (fn := Proofs.Tryz.f68) (c := bodyC Proofs.Tryz.f68) (ls := []) Proofs.Tryz.func68 (by kernel_rfl) (by kernel_rfl) (by kernel_rfl) (by kernel_rfl)
    LoopsP.nil (e68 f98 f43)
/-! impl.LandingOf -/
def p18 : List SP := [.t .jet]
def r18 : List SP := [.t .place, .one (.bool)]
noncomputable def F18 (f20 : Jet × Unit → Option (Int × Unit)) (f68 : Jet × Int × Unit → Option (Place × Bool × Unit)) (a : Jet × Unit) : Option (Place × Bool × Unit) :=
  (f20 (a.1, ())).bind fun x1 => (f68 (a.1, x1.1, ())).bind fun x2 => some (x2.1, x2.2.1, ())
def E18 (f20 : Jet × Unit → Option (Int × Unit)) (f68 : Jet × Int × Unit → Option (Place × Bool × Unit)) : Env := envL [(20, mkE p20 r20 false f20), (68, mkE p68 r68 false f68)]
noncomputable def L18 (f20 : Jet × Unit → Option (Int × Unit)) (f68 : Jet × Int × Unit → Option (Place × Bool × Unit)) : LEnv (densS (muts p18 ++ r18)) := lenv []
theorem e18 (f20 : Jet × Unit → Option (Int × Unit)) (f68 : Jet × Int × Unit → Option (Place × Bool × Unit)) (a : densS p18) : runF (E18 f20 f68) tab2 (fun _ => false) p18 r18 Proofs.Tryz.f18 (L18 f20 f68) a = F18 f20 f68 a := by kernel_rfl
theorem ok18 {f20 : Jet × Unit → Option (Int × Unit)} {f68 : Jet × Int × Unit → Option (Place × Bool × Unit)} (h20 : OK Proofs.Tryz.prog 20 (mkE p20 r20 false f20)) (h68 : OK Proofs.Tryz.prog 68 (mkE p68 r68 false f68)) : OK Proofs.Tryz.prog 18 (mkE p18 r18 false (F18 f20 f68)) :=
  fn_ok tab_ok2 (envL_ok (l := [(20, mkE p20 r20 false f20), (68, mkE p68 r68 false f68)]) (OKs.cons h20 (OKs.cons h68 OKs.nil))) mixed2 (ann := (fun _ => false)) (L := L18 f20 f68) (fn := Proofs.Tryz.f18) (c := bodyC Proofs.Tryz.f18) (ls := []) Proofs.Tryz.func18 (by kernel_rfl) (by kernel_rfl) (by kernel_rfl) (by kernel_rfl)
    LoopsP.nil (e18 f20 f68)
/-! impl.BoxOf -/
def p82 : List SP := [.one (.r .place)]
def r82 : List SP := [.t .box, .one (.bool)]
def q82_0 : List SP := pat 58 0 [(2, .boxt 5000001 .box), (4, .boxt 5000002 .box), (18, .one (.r .place)), (19, .one (.int .i64)), (20, .one (.int .i64))]
noncomputable def s82_0 (f92 : Place × Unit → Option (Bool × Unit)) (t3 : Box × Box × List Place × Int × Int × Unit) (rec K : Box × Box × List Place × Int × Int × Unit → Option (Box × Bool × Unit)) : Option (Box × Bool × Unit) :=
  cond (decide (t3.2.2.2.2.1 < t3.2.2.2.1)) (rdL t3.2.2.1 t3.2.2.2.2.1 fun d4 => (f92 (d4, ())).bind fun x5 => cond (!x5.1) (some ((⟨⟨0, 0⟩, ⟨0, 0⟩⟩ : Box), false, ())) (rec (t3.1, (⟨⟨(mn t3.2.1.Low.X d4.X), (mn t3.2.1.Low.Y d4.Y)⟩, ⟨(mx t3.2.1.High.X d4.X), (mx t3.2.1.High.Y d4.Y)⟩⟩ : Box), t3.2.2.1, t3.2.2.2.1, (w64 (t3.2.2.2.2.1 + 1)), ()))) (K (t3.1, t3.2.1, t3.2.2.1, t3.2.2.2.1, t3.2.2.2.2.1, ()))
noncomputable def F82 (f92 : Place × Unit → Option (Bool × Unit)) (a : List Place × Unit) : Option (Box × Bool × Unit) :=
  cond (decide ((Int.ofNat (List.length a.1)) = 0)) (some ((⟨⟨0, 0⟩, ⟨0, 0⟩⟩ : Box), false, ())) (rdL a.1 0 fun d1 => rdL a.1 0 fun d2 => iterF (s82_0 f92) fuel ((⟨⟨0, 0⟩, ⟨0, 0⟩⟩ : Box), (⟨⟨d1.X, d1.Y⟩, ⟨d2.X, d2.Y⟩⟩ : Box), a.1, (Int.ofNat (List.length a.1)), 0, ()) fun t6 => some (t6.2.1, true, ()))
def E82 (f92 : Place × Unit → Option (Bool × Unit)) : Env := envL [(92, mkE p92 r92 false f92)]
noncomputable def L82 (f92 : Place × Unit → Option (Bool × Unit)) : LEnv (densS (muts p82 ++ r82)) := lenv [(0, loopL (R := densS (muts p82 ++ r82)) q82_0 (s82_0 f92))]
theorem e82_0 (f92 : Place × Unit → Option (Bool × Unit)) (X : Nat → St → Option (densS (muts p82 ++ r82))) (rec K : densS q82_0 → Option (densS (muts p82 ++ r82))) (t : densS q82_0) :
    ev (E82 f92) tab2 (fun _ => false) (L82 f92) (retK tab2 p82 r82 Proofs.Tryz.f82.results.toList) (loopC Proofs.Tryz.f82 0) (fun i s => cond (Nat.beq i 0) (decK 100 q82_0 s K) (X i s)) (fun s => decK 100 q82_0 s rec) (enc q82_0 t) = s82_0 f92 t rec K := by kernel_rfl
theorem e82 (f92 : Place × Unit → Option (Bool × Unit)) (a : densS p82) : runF (E82 f92) tab2 (fun _ => false) p82 r82 Proofs.Tryz.f82 (L82 f92) a = F82 f92 a := by kernel_rfl
theorem ok82 {f92 : Place × Unit → Option (Bool × Unit)} (h92 : OK Proofs.Tryz.prog 92 (mkE p92 r92 false f92)) : OK Proofs.Tryz.prog 82 (mkE p82 r82 false (F82 f92)) :=
  fn_ok tab_ok2 (envL_ok (l := [(92, mkE p92 r92 false f92)]) (OKs.cons h92 OKs.nil)) mixed2 (ann := (fun _ => false)) (L := L82 f92) (fn := Proofs.Tryz.f82) (c := bodyC Proofs.Tryz.f82) (ls := [(0, loopC Proofs.Tryz.f82 0)]) Proofs.Tryz.func82 (by kernel_rfl) (by kernel_rfl) (by kernel_rfl) (by kernel_rfl)
    (LoopsP.cons q82_0 (s82_0 f92) rfl (e82_0 f92) LoopsP.nil) (e82 f92)
/-! impl.RoseBox -/
def p71 : List SP := [.one (.r .place), .one (.int .i64)]
def r71 : List SP := [.t .box, .one (.bool)]
noncomputable def F71 (f75 : List Place × Unit → Option (Bool × Unit)) (f72 : Int × Int × Int × Unit → Option (Bool × Unit)) (f82 : List Place × Unit → Option (Box × Bool × Unit)) (a : List Place × Int × Unit) : Option (Box × Bool × Unit) :=
  (f75 (a.1, ())).bind fun x1 => cond (!(!x1.1)) ((f72 (a.2.1, 0, 128, ())).bind fun x2 => cond (!x2.1) (some ((⟨⟨0, 0⟩, ⟨0, 0⟩⟩ : Box), false, ())) ((f82 (a.1, ())).bind fun x3 => some ((⟨⟨(w64 (a.2.1 * x3.1.Low.X)), (w64 (a.2.1 * x3.1.Low.Y))⟩, ⟨(w64 (a.2.1 * x3.1.High.X)), (w64 (a.2.1 * x3.1.High.Y))⟩⟩ : Box), true, ()))) (some ((⟨⟨0, 0⟩, ⟨0, 0⟩⟩ : Box), false, ()))
def E71 (f75 : List Place × Unit → Option (Bool × Unit)) (f72 : Int × Int × Int × Unit → Option (Bool × Unit)) (f82 : List Place × Unit → Option (Box × Bool × Unit)) : Env := envL [(75, mkE p75 r75 false f75), (72, mkE p72 r72 false f72), (82, mkE p82 r82 false f82)]
noncomputable def L71 (f75 : List Place × Unit → Option (Bool × Unit)) (f72 : Int × Int × Int × Unit → Option (Bool × Unit)) (f82 : List Place × Unit → Option (Box × Bool × Unit)) : LEnv (densS (muts p71 ++ r71)) := lenv []
theorem e71 (f75 : List Place × Unit → Option (Bool × Unit)) (f72 : Int × Int × Int × Unit → Option (Bool × Unit)) (f82 : List Place × Unit → Option (Box × Bool × Unit)) (a : densS p71) : runF (E71 f75 f72 f82) tab2 (fun _ => false) p71 r71 Proofs.Tryz.f71 (L71 f75 f72 f82) a = F71 f75 f72 f82 a := by kernel_rfl
theorem ok71 {f75 : List Place × Unit → Option (Bool × Unit)} {f72 : Int × Int × Int × Unit → Option (Bool × Unit)} {f82 : List Place × Unit → Option (Box × Bool × Unit)} (h75 : OK Proofs.Tryz.prog 75 (mkE p75 r75 false f75)) (h72 : OK Proofs.Tryz.prog 72 (mkE p72 r72 false f72)) (h82 : OK Proofs.Tryz.prog 82 (mkE p82 r82 false f82)) : OK Proofs.Tryz.prog 71 (mkE p71 r71 false (F71 f75 f72 f82)) :=
  fn_ok tab_ok2 (envL_ok (l := [(75, mkE p75 r75 false f75), (72, mkE p72 r72 false f72), (82, mkE p82 r82 false f82)]) (OKs.cons h75 (OKs.cons h72 (OKs.cons h82 OKs.nil)))) mixed2 (ann := (fun _ => false)) (L := L71 f75 f72 f82) (fn := Proofs.Tryz.f71) (c := bodyC Proofs.Tryz.f71) (ls := []) Proofs.Tryz.func71 (by kernel_rfl) (by kernel_rfl) (by kernel_rfl) (by kernel_rfl)
    LoopsP.nil (e71 f75 f72 f82)
/-! impl.LandingBox -/
def p21 : List SP := [.t .jet, .one (.r .place)]
def r21 : List SP := [.t .box, .one (.bool)]
noncomputable def F21 (f18 : Jet × Unit → Option (Place × Bool × Unit)) (f20 : Jet × Unit → Option (Int × Unit)) (f71 : List Place × Int × Unit → Option (Box × Bool × Unit)) (a : Jet × List Place × Unit) : Option (Box × Bool × Unit) :=
  (f18 (a.1, ())).bind fun x1 => (f20 (a.1, ())).bind fun x2 => (f71 (a.2.1, x2.1, ())).bind fun x3 => cond (!(!x1.2.1)) (cond (!x3.2.1) (some ((⟨⟨0, 0⟩, ⟨0, 0⟩⟩ : Box), false, ())) (some ((⟨⟨(w64 (x1.1.X + x3.1.Low.X)), (w64 (x1.1.Y + x3.1.Low.Y))⟩, ⟨(w64 (x1.1.X + x3.1.High.X)), (w64 (x1.1.Y + x3.1.High.Y))⟩⟩ : Box), true, ()))) (some ((⟨⟨0, 0⟩, ⟨0, 0⟩⟩ : Box), false, ()))
def E21 (f18 : Jet × Unit → Option (Place × Bool × Unit)) (f20 : Jet × Unit → Option (Int × Unit)) (f71 : List Place × Int × Unit → Option (Box × Bool × Unit)) : Env := envL [(18, mkE p18 r18 false f18), (20, mkE p20 r20 false f20), (71, mkE p71 r71 false f71)]
noncomputable def L21 (f18 : Jet × Unit → Option (Place × Bool × Unit)) (f20 : Jet × Unit → Option (Int × Unit)) (f71 : List Place × Int × Unit → Option (Box × Bool × Unit)) : LEnv (densS (muts p21 ++ r21)) := lenv []
theorem e21 (f18 : Jet × Unit → Option (Place × Bool × Unit)) (f20 : Jet × Unit → Option (Int × Unit)) (f71 : List Place × Int × Unit → Option (Box × Bool × Unit)) (a : densS p21) : runF (E21 f18 f20 f71) tab2 (fun _ => false) p21 r21 Proofs.Tryz.f21 (L21 f18 f20 f71) a = F21 f18 f20 f71 a := by kernel_rfl
theorem ok21 {f18 : Jet × Unit → Option (Place × Bool × Unit)} {f20 : Jet × Unit → Option (Int × Unit)} {f71 : List Place × Int × Unit → Option (Box × Bool × Unit)} (h18 : OK Proofs.Tryz.prog 18 (mkE p18 r18 false f18)) (h20 : OK Proofs.Tryz.prog 20 (mkE p20 r20 false f20)) (h71 : OK Proofs.Tryz.prog 71 (mkE p71 r71 false f71)) : OK Proofs.Tryz.prog 21 (mkE p21 r21 false (F21 f18 f20 f71)) :=
  fn_ok tab_ok2 (envL_ok (l := [(18, mkE p18 r18 false f18), (20, mkE p20 r20 false f20), (71, mkE p71 r71 false f71)]) (OKs.cons h18 (OKs.cons h20 (OKs.cons h71 OKs.nil)))) mixed2 (ann := (fun _ => false)) (L := L21 f18 f20 f71) (fn := Proofs.Tryz.f21) (c := bodyC Proofs.Tryz.f21) (ls := []) Proofs.Tryz.func21 (by kernel_rfl) (by kernel_rfl) (by kernel_rfl) (by kernel_rfl)
    LoopsP.nil (e21 f18 f20 f71)
/-! impl.LeastBasin -/
def p46 : List SP := [.agg [.r .device, .r .cue, .r .gust, .int .i64], .one (.r .place)]
def r46 : List SP := [.t .box, .one (.bool)]
def q46_0 : List SP := pat 42 0 [(1, .one (.r .place)), (4, .boxt 5000001 .box), (6, .one (.o 5000002 .place)), (17, .one (.o 5000003 .throw)), (18, .one (.int .i64)), (19, .one (.int .i64))]
noncomputable def s46_0 (f75 : List Place × Unit → Option (Bool × Unit)) (f63 : ShD × Unit → Option (List Throw × Unit)) (f21 : Jet × List Place × Unit → Option (Box × Bool × Unit)) (f82 : List Place × Unit → Option (Box × Bool × Unit)) (t3 : List Place × Box × List Place × List Throw × Int × Int × Unit) (rec K : List Place × Box × List Place × List Throw × Int × Int × Unit → Option (Box × Bool × Unit)) : Option (Box × Bool × Unit) :=
  cond (decide (t3.2.2.2.2.2.1 < t3.2.2.2.2.1)) (rdL t3.2.2.2.1 t3.2.2.2.2.2.1 fun _ => (t3.2.2.2.1[(Int.toNat t3.2.2.2.2.2.1)]?).bind fun d4 => (f21 (d4.jet, t3.1, ())).bind fun x5 => capK (List.length t3.2.2.1 + List.length ([x5.1.Low, x5.1.High] : List Place)) (rec (t3.1, t3.2.1, (t3.2.2.1 ++ ([x5.1.Low, x5.1.High] : List Place)), t3.2.2.2.1, t3.2.2.2.2.1, (w64 (t3.2.2.2.2.2.1 + 1)), ()))) (K (t3.1, t3.2.1, t3.2.2.1, t3.2.2.2.1, t3.2.2.2.2.1, t3.2.2.2.2.2.1, ()))
noncomputable def F46 (f75 : List Place × Unit → Option (Bool × Unit)) (f63 : ShD × Unit → Option (List Throw × Unit)) (f21 : Jet × List Place × Unit → Option (Box × Bool × Unit)) (f82 : List Place × Unit → Option (Box × Bool × Unit)) (a : ShD × List Place × Unit) : Option (Box × Bool × Unit) :=
  (f75 (a.2.1, ())).bind fun x1 => cond (!x1.1) (some ((⟨⟨0, 0⟩, ⟨0, 0⟩⟩ : Box), false, ())) ((f63 ((a.1.1, a.1.2.1, a.1.2.2.1, a.1.2.2.2.1, ()), ())).bind fun x2 => iterF (s46_0 f75 f63 f21 f82) fuel (a.2.1, (⟨⟨0, 0⟩, ⟨0, 0⟩⟩ : Box), ([] : List Place), x2.1, (Int.ofNat (List.length x2.1)), 0, ()) fun t6 => (f82 (t6.2.2.1, ())).bind fun x7 => some (x7.1, x7.2.1, ()))
def E46 (f75 : List Place × Unit → Option (Bool × Unit)) (f63 : ShD × Unit → Option (List Throw × Unit)) (f21 : Jet × List Place × Unit → Option (Box × Bool × Unit)) (f82 : List Place × Unit → Option (Box × Bool × Unit)) : Env := envL [(75, mkE p75 r75 false f75), (63, mkE p63 r63 false f63), (21, mkE p21 r21 false f21), (82, mkE p82 r82 false f82)]
noncomputable def L46 (f75 : List Place × Unit → Option (Bool × Unit)) (f63 : ShD × Unit → Option (List Throw × Unit)) (f21 : Jet × List Place × Unit → Option (Box × Bool × Unit)) (f82 : List Place × Unit → Option (Box × Bool × Unit)) : LEnv (densS (muts p46 ++ r46)) := lenv [(0, loopL (R := densS (muts p46 ++ r46)) q46_0 (s46_0 f75 f63 f21 f82))]
theorem e46_0 (f75 : List Place × Unit → Option (Bool × Unit)) (f63 : ShD × Unit → Option (List Throw × Unit)) (f21 : Jet × List Place × Unit → Option (Box × Bool × Unit)) (f82 : List Place × Unit → Option (Box × Bool × Unit)) (X : Nat → St → Option (densS (muts p46 ++ r46))) (rec K : densS q46_0 → Option (densS (muts p46 ++ r46))) (t : densS q46_0) :
    ev (E46 f75 f63 f21 f82) tab2 (fun _ => false) (L46 f75 f63 f21 f82) (retK tab2 p46 r46 Proofs.Tryz.f46.results.toList) (loopC Proofs.Tryz.f46 0) (fun i s => cond (Nat.beq i 0) (decK 100 q46_0 s K) (X i s)) (fun s => decK 100 q46_0 s rec) (enc q46_0 t) = s46_0 f75 f63 f21 f82 t rec K := by kernel_rfl
theorem e46 (f75 : List Place × Unit → Option (Bool × Unit)) (f63 : ShD × Unit → Option (List Throw × Unit)) (f21 : Jet × List Place × Unit → Option (Box × Bool × Unit)) (f82 : List Place × Unit → Option (Box × Bool × Unit)) (a : densS p46) : runF (E46 f75 f63 f21 f82) tab2 (fun _ => false) p46 r46 Proofs.Tryz.f46 (L46 f75 f63 f21 f82) a = F46 f75 f63 f21 f82 a := by kernel_rfl
theorem ok46 {f75 : List Place × Unit → Option (Bool × Unit)} {f63 : ShD × Unit → Option (List Throw × Unit)} {f21 : Jet × List Place × Unit → Option (Box × Bool × Unit)} {f82 : List Place × Unit → Option (Box × Bool × Unit)} (h75 : OK Proofs.Tryz.prog 75 (mkE p75 r75 false f75)) (h63 : OK Proofs.Tryz.prog 63 (mkE p63 r63 false f63)) (h21 : OK Proofs.Tryz.prog 21 (mkE p21 r21 false f21)) (h82 : OK Proofs.Tryz.prog 82 (mkE p82 r82 false f82)) : OK Proofs.Tryz.prog 46 (mkE p46 r46 false (F46 f75 f63 f21 f82)) :=
  fn_ok tab_ok2 (envL_ok (l := [(75, mkE p75 r75 false f75), (63, mkE p63 r63 false f63), (21, mkE p21 r21 false f21), (82, mkE p82 r82 false f82)]) (OKs.cons h75 (OKs.cons h63 (OKs.cons h21 (OKs.cons h82 OKs.nil))))) mixed2 (ann := (fun _ => false)) (L := L46 f75 f63 f21 f82) (fn := Proofs.Tryz.f46) (c := bodyC Proofs.Tryz.f46) (ls := [(0, loopC Proofs.Tryz.f46 0)]) Proofs.Tryz.func46 (by kernel_rfl) (by kernel_rfl) (by kernel_rfl) (by kernel_rfl)
    (LoopsP.cons q46_0 (s46_0 f75 f63 f21 f82) rfl (e46_0 f75 f63 f21 f82) LoopsP.nil) (e46 f75 f63 f21 f82)
/-! (impl.throw).lands -/
def p65 : List SP := [.t .throw]
def r65 : List SP := [.one (.int .i64)]
noncomputable def F65 (f20 : Jet × Unit → Option (Int × Unit)) (a : Throw × Unit) : Option (Int × Unit) :=
  (f20 (a.1.jet, ())).bind fun x1 => some ((w64 (a.1.born + x1.1)), ())
def E65 (f20 : Jet × Unit → Option (Int × Unit)) : Env := envL [(20, mkE p20 r20 false f20)]
noncomputable def L65 (f20 : Jet × Unit → Option (Int × Unit)) : LEnv (densS (muts p65 ++ r65)) := lenv []
theorem e65 (f20 : Jet × Unit → Option (Int × Unit)) (a : densS p65) : runF (E65 f20) tab2 (fun _ => false) p65 r65 Proofs.Tryz.f65 (L65 f20) a = F65 f20 a := by kernel_rfl
theorem ok65 {f20 : Jet × Unit → Option (Int × Unit)} (h20 : OK Proofs.Tryz.prog 20 (mkE p20 r20 false f20)) : OK Proofs.Tryz.prog 65 (mkE p65 r65 false (F65 f20)) :=
  fn_ok tab_ok2 (envL_ok (l := [(20, mkE p20 r20 false f20)]) (OKs.cons h20 OKs.nil)) mixed2 (ann := (fun _ => false)) (L := L65 f20) (fn := Proofs.Tryz.f65) (c := bodyC Proofs.Tryz.f65) (ls := []) Proofs.Tryz.func65 (by kernel_rfl) (by kernel_rfl) (by kernel_rfl) (by kernel_rfl)
    LoopsP.nil (e65 f20)
/-! impl.DriftAt -/
def p44 : List SP := [.one (.r .gust), .one (.int .i64)]
def r44 : List SP := [.t .place]
def q44_0 : List SP := pat 27 0 [(1, .one (.int .i64)), (4, .boxt 5000001 .place), (5, .boxt 5000002 .place), (13, .one (.r .gust)), (14, .one (.int .i64)), (15, .one (.int .i64))]
noncomputable def s44_0 (f69 : List Gust × Unit → Option (Bool × Unit)) (t2 : Int × Place × Place × List Gust × Int × Int × Unit) (rec K : Int × Place × Place × List Gust × Int × Int × Unit → Option (Place × Unit)) : Option (Place × Unit) :=
  cond (decide (t2.2.2.2.2.2.1 < t2.2.2.2.2.1)) (rdL t2.2.2.2.1 t2.2.2.2.2.2.1 fun d3 => cond (decide (d3.From ≤ t2.1)) (rec (t2.1, t2.2.1, d3.Drift, t2.2.2.2.1, t2.2.2.2.2.1, (w64 (t2.2.2.2.2.2.1 + 1)), ())) (rec (t2.1, t2.2.1, t2.2.2.1, t2.2.2.2.1, t2.2.2.2.2.1, (w64 (t2.2.2.2.2.2.1 + 1)), ()))) (K (t2.1, t2.2.1, t2.2.2.1, t2.2.2.2.1, t2.2.2.2.2.1, t2.2.2.2.2.2.1, ()))
noncomputable def F44 (f69 : List Gust × Unit → Option (Bool × Unit)) (a : List Gust × Int × Unit) : Option (Place × Unit) :=
  (f69 (a.1, ())).bind fun x1 => cond (!x1.1) (some ((⟨0, 0⟩ : Place), ())) (iterF (s44_0 f69) fuel (a.2.1, (⟨0, 0⟩ : Place), (⟨0, 0⟩ : Place), a.1, (Int.ofNat (List.length a.1)), 0, ()) fun t4 => some (t4.2.2.1, ()))
def E44 (f69 : List Gust × Unit → Option (Bool × Unit)) : Env := envL [(69, mkE p69 r69 false f69)]
noncomputable def L44 (f69 : List Gust × Unit → Option (Bool × Unit)) : LEnv (densS (muts p44 ++ r44)) := lenv [(0, loopL (R := densS (muts p44 ++ r44)) q44_0 (s44_0 f69))]
theorem e44_0 (f69 : List Gust × Unit → Option (Bool × Unit)) (X : Nat → St → Option (densS (muts p44 ++ r44))) (rec K : densS q44_0 → Option (densS (muts p44 ++ r44))) (t : densS q44_0) :
    ev (E44 f69) tab2 (fun _ => false) (L44 f69) (retK tab2 p44 r44 Proofs.Tryz.f44.results.toList) (loopC Proofs.Tryz.f44 0) (fun i s => cond (Nat.beq i 0) (decK 100 q44_0 s K) (X i s)) (fun s => decK 100 q44_0 s rec) (enc q44_0 t) = s44_0 f69 t rec K := by kernel_rfl
theorem e44 (f69 : List Gust × Unit → Option (Bool × Unit)) (a : densS p44) : runF (E44 f69) tab2 (fun _ => false) p44 r44 Proofs.Tryz.f44 (L44 f69) a = F44 f69 a := by kernel_rfl
theorem ok44 {f69 : List Gust × Unit → Option (Bool × Unit)} (h69 : OK Proofs.Tryz.prog 69 (mkE p69 r69 false f69)) : OK Proofs.Tryz.prog 44 (mkE p44 r44 false (F44 f69)) :=
  fn_ok tab_ok2 (envL_ok (l := [(69, mkE p69 r69 false f69)]) (OKs.cons h69 OKs.nil)) mixed2 (ann := (fun _ => false)) (L := L44 f69) (fn := Proofs.Tryz.f44) (c := bodyC Proofs.Tryz.f44) (ls := [(0, loopC Proofs.Tryz.f44 0)]) Proofs.Tryz.func44 (by kernel_rfl) (by kernel_rfl) (by kernel_rfl) (by kernel_rfl)
    (LoopsP.cons q44_0 (s44_0 f69) rfl (e44_0 f69) LoopsP.nil) (e44 f69)
/-! impl.DriftOver -/
def p19 : List SP := [.one (.r .gust), .one (.int .i64), .one (.int .i64)]
def r19 : List SP := [.t .place, .one (.bool)]
def q19_0 : List SP := pat 50 0 [(0, .one (.r .gust)), (2, .one (.int .i64)), (6, .boxt 5000001 .place), (8, .boxt 5000002 .place), (9, .one (.int .i64))]
noncomputable def s19_0 (f69 : List Gust × Unit → Option (Bool × Unit)) (f44 : List Gust × Int × Unit → Option (Place × Unit)) (t2 : List Gust × Int × Place × Place × Int × Unit) (rec K : List Gust × Int × Place × Place × Int × Unit → Option (Place × Bool × Unit)) : Option (Place × Bool × Unit) :=
  cond (decide (t2.2.2.2.2.1 < t2.2.1)) ((f44 (t2.1, t2.2.2.2.2.1, ())).bind fun x3 => rec (t2.1, t2.2.1, t2.2.2.1, (⟨(w64 (t2.2.2.2.1.X + x3.1.X)), (w64 (t2.2.2.2.1.Y + x3.1.Y))⟩ : Place), (w64 (t2.2.2.2.2.1 + 1)), ())) (K (t2.1, t2.2.1, t2.2.2.1, t2.2.2.2.1, t2.2.2.2.2.1, ()))
noncomputable def F19 (f69 : List Gust × Unit → Option (Bool × Unit)) (f44 : List Gust × Int × Unit → Option (Place × Unit)) (a : List Gust × Int × Int × Unit) : Option (Place × Bool × Unit) :=
  (f69 (a.1, ())).bind fun x1 => cond (!(!x1.1)) (cond (!(decide (a.2.1 < 0))) (cond (!(decide (a.2.2.1 < a.2.1))) (cond (decide (a.2.2.1 > 128)) (some ((⟨0, 0⟩ : Place), false, ())) (iterF (s19_0 f69 f44) fuel (a.1, a.2.2.1, (⟨0, 0⟩ : Place), (⟨0, 0⟩ : Place), a.2.1, ()) fun t4 => some (t4.2.2.2.1, true, ()))) (some ((⟨0, 0⟩ : Place), false, ()))) (some ((⟨0, 0⟩ : Place), false, ()))) (some ((⟨0, 0⟩ : Place), false, ()))
def E19 (f69 : List Gust × Unit → Option (Bool × Unit)) (f44 : List Gust × Int × Unit → Option (Place × Unit)) : Env := envL [(69, mkE p69 r69 false f69), (44, mkE p44 r44 false f44)]
noncomputable def L19 (f69 : List Gust × Unit → Option (Bool × Unit)) (f44 : List Gust × Int × Unit → Option (Place × Unit)) : LEnv (densS (muts p19 ++ r19)) := lenv [(0, loopL (R := densS (muts p19 ++ r19)) q19_0 (s19_0 f69 f44))]
theorem e19_0 (f69 : List Gust × Unit → Option (Bool × Unit)) (f44 : List Gust × Int × Unit → Option (Place × Unit)) (X : Nat → St → Option (densS (muts p19 ++ r19))) (rec K : densS q19_0 → Option (densS (muts p19 ++ r19))) (t : densS q19_0) :
    ev (E19 f69 f44) tab2 (fun _ => false) (L19 f69 f44) (retK tab2 p19 r19 Proofs.Tryz.f19.results.toList) (loopC Proofs.Tryz.f19 0) (fun i s => cond (Nat.beq i 0) (decK 100 q19_0 s K) (X i s)) (fun s => decK 100 q19_0 s rec) (enc q19_0 t) = s19_0 f69 f44 t rec K := by kernel_rfl
theorem e19 (f69 : List Gust × Unit → Option (Bool × Unit)) (f44 : List Gust × Int × Unit → Option (Place × Unit)) (a : densS p19) : runF (E19 f69 f44) tab2 (fun _ => false) p19 r19 Proofs.Tryz.f19 (L19 f69 f44) a = F19 f69 f44 a := by kernel_rfl
theorem ok19 {f69 : List Gust × Unit → Option (Bool × Unit)} {f44 : List Gust × Int × Unit → Option (Place × Unit)} (h69 : OK Proofs.Tryz.prog 69 (mkE p69 r69 false f69)) (h44 : OK Proofs.Tryz.prog 44 (mkE p44 r44 false f44)) : OK Proofs.Tryz.prog 19 (mkE p19 r19 false (F19 f69 f44)) :=
  fn_ok tab_ok2 (envL_ok (l := [(69, mkE p69 r69 false f69), (44, mkE p44 r44 false f44)]) (OKs.cons h69 (OKs.cons h44 OKs.nil))) mixed2 (ann := (fun _ => false)) (L := L19 f69 f44) (fn := Proofs.Tryz.f19) (c := bodyC Proofs.Tryz.f19) (ls := [(0, loopC Proofs.Tryz.f19 0)]) Proofs.Tryz.func19 (by kernel_rfl) (by kernel_rfl) (by kernel_rfl) (by kernel_rfl)
    (LoopsP.cons q19_0 (s19_0 f69 f44) rfl (e19_0 f69 f44) LoopsP.nil) (e19 f69 f44)
/-! impl.HeightAt -/
def p45 : List SP := [.t .jet, .one (.int .i64)]
def r45 : List SP := [.one (.int .i64)]
noncomputable def F45 (f98 : Jet × Int × Unit → Option (Bool × Unit)) (a : Jet × Int × Unit) : Option (Int × Unit) :=
  (f98 (a.1, a.2.1, ())).bind fun x1 => cond (!x1.1) (some (0, ())) (some ((w64 (a.2.1 * (w64 ((w64 (a.1.Lift + 1)) - a.2.1)))), ()))
def E45 (f98 : Jet × Int × Unit → Option (Bool × Unit)) : Env := envL [(98, mkE p98 r98 false f98)]
noncomputable def L45 (f98 : Jet × Int × Unit → Option (Bool × Unit)) : LEnv (densS (muts p45 ++ r45)) := lenv []
theorem e45 (f98 : Jet × Int × Unit → Option (Bool × Unit)) (a : densS p45) : runF (E45 f98) tab2 (fun _ => false) p45 r45 Proofs.Tryz.f45 (L45 f98) a = F45 f98 a := by kernel_rfl
theorem ok45 {f98 : Jet × Int × Unit → Option (Bool × Unit)} (h98 : OK Proofs.Tryz.prog 98 (mkE p98 r98 false f98)) : OK Proofs.Tryz.prog 45 (mkE p45 r45 false (F45 f98)) :=
  fn_ok tab_ok2 (envL_ok (l := [(98, mkE p98 r98 false f98)]) (OKs.cons h98 OKs.nil)) mixed2 (ann := (fun _ => false)) (L := L45 f98) (fn := Proofs.Tryz.f45) (c := bodyC Proofs.Tryz.f45) (ls := []) Proofs.Tryz.func45 (by kernel_rfl) (by kernel_rfl) (by kernel_rfl) (by kernel_rfl)
    LoopsP.nil (e45 f98)
/-! (impl.throw).dropAt -/
def p64 : List SP := [.t .throw, .one (.r .gust), .one (.int .i64)]
def r64 : List SP := [.t .drop]
noncomputable def F64 (f68 : Jet × Int × Unit → Option (Place × Bool × Unit)) (f19 : List Gust × Int × Int × Unit → Option (Place × Bool × Unit)) (f45 : Jet × Int × Unit → Option (Int × Unit)) (a : Throw × List Gust × Int × Unit) : Option (Drop × Unit) :=
  (f68 (a.1.jet, (w64 (a.2.2.1 - a.1.born)), ())).bind fun x1 => (f19 (a.2.1, a.1.born, a.2.2.1, ())).bind fun x2 => (f45 (a.1.jet, (w64 (a.2.2.1 - a.1.born)), ())).bind fun x3 => some ((⟨a.1.name, a.1.born, ⟨(w64 (x1.1.X + x2.1.X)), (w64 (x1.1.Y + x2.1.Y))⟩, x3.1⟩ : Drop), ())
def E64 (f68 : Jet × Int × Unit → Option (Place × Bool × Unit)) (f19 : List Gust × Int × Int × Unit → Option (Place × Bool × Unit)) (f45 : Jet × Int × Unit → Option (Int × Unit)) : Env := envL [(68, mkE p68 r68 false f68), (19, mkE p19 r19 false f19), (45, mkE p45 r45 false f45)]
noncomputable def L64 (f68 : Jet × Int × Unit → Option (Place × Bool × Unit)) (f19 : List Gust × Int × Int × Unit → Option (Place × Bool × Unit)) (f45 : Jet × Int × Unit → Option (Int × Unit)) : LEnv (densS (muts p64 ++ r64)) := lenv []
theorem e64 (f68 : Jet × Int × Unit → Option (Place × Bool × Unit)) (f19 : List Gust × Int × Int × Unit → Option (Place × Bool × Unit)) (f45 : Jet × Int × Unit → Option (Int × Unit)) (a : densS p64) : runF (E64 f68 f19 f45) tab2 (fun _ => false) p64 r64 Proofs.Tryz.f64 (L64 f68 f19 f45) a = F64 f68 f19 f45 a := by kernel_rfl
theorem ok64 {f68 : Jet × Int × Unit → Option (Place × Bool × Unit)} {f19 : List Gust × Int × Int × Unit → Option (Place × Bool × Unit)} {f45 : Jet × Int × Unit → Option (Int × Unit)} (h68 : OK Proofs.Tryz.prog 68 (mkE p68 r68 false f68)) (h19 : OK Proofs.Tryz.prog 19 (mkE p19 r19 false f19)) (h45 : OK Proofs.Tryz.prog 45 (mkE p45 r45 false f45)) : OK Proofs.Tryz.prog 64 (mkE p64 r64 false (F64 f68 f19 f45)) :=
  fn_ok tab_ok2 (envL_ok (l := [(68, mkE p68 r68 false f68), (19, mkE p19 r19 false f19), (45, mkE p45 r45 false f45)]) (OKs.cons h68 (OKs.cons h19 (OKs.cons h45 OKs.nil)))) mixed2 (ann := (fun _ => false)) (L := L64 f68 f19 f45) (fn := Proofs.Tryz.f64) (c := bodyC Proofs.Tryz.f64) (ls := []) Proofs.Tryz.func64 (by kernel_rfl) (by kernel_rfl) (by kernel_rfl) (by kernel_rfl)
    LoopsP.nil (e64 f68 f19 f45)
/-! impl.LandingsOf -/
def p16 : List SP := [.agg [.r .device, .r .cue, .r .gust, .int .i64]]
def r16 : List SP := [.one (.o 0 .drop)]
def q16_0 : List SP := pat 25 0 [(1, .box 5000001 [.r .device, .r .cue, .r .gust, .int .i64]), (3, .one (.o 5000002 .drop)), (8, .one (.o 5000003 .throw)), (9, .one (.int .i64)), (10, .one (.int .i64))]
noncomputable def s16_0 (f63 : ShD × Unit → Option (List Throw × Unit)) (f65 : Throw × Unit → Option (Int × Unit)) (f64 : Throw × List Gust × Int × Unit → Option (Drop × Unit)) (t2 : ShD × List Drop × List Throw × Int × Int × Unit) (rec K : ShD × List Drop × List Throw × Int × Int × Unit → Option (List Drop × Unit)) : Option (List Drop × Unit) :=
  cond (decide (t2.2.2.2.2.1 < t2.2.2.2.1)) (rdL t2.2.2.1 t2.2.2.2.2.1 fun _ => (t2.2.2.1[(Int.toNat t2.2.2.2.2.1)]?).bind fun d3 => (f65 (d3, ())).bind fun x4 => (f64 (d3, t2.1.2.2.1, x4.1, ())).bind fun x5 => capK (List.length t2.2.1 + List.length ([x5.1] : List Drop)) (rec ((t2.1.1, t2.1.2.1, t2.1.2.2.1, t2.1.2.2.2.1, ()), (t2.2.1 ++ ([x5.1] : List Drop)), t2.2.2.1, t2.2.2.2.1, (w64 (t2.2.2.2.2.1 + 1)), ()))) (K ((t2.1.1, t2.1.2.1, t2.1.2.2.1, t2.1.2.2.2.1, ()), t2.2.1, t2.2.2.1, t2.2.2.2.1, t2.2.2.2.2.1, ()))
noncomputable def F16 (f63 : ShD × Unit → Option (List Throw × Unit)) (f65 : Throw × Unit → Option (Int × Unit)) (f64 : Throw × List Gust × Int × Unit → Option (Drop × Unit)) (a : ShD × Unit) : Option (List Drop × Unit) :=
  (f63 ((a.1.1, a.1.2.1, a.1.2.2.1, a.1.2.2.2.1, ()), ())).bind fun x1 => iterF (s16_0 f63 f65 f64) fuel ((a.1.1, a.1.2.1, a.1.2.2.1, a.1.2.2.2.1, ()), ([] : List Drop), x1.1, (Int.ofNat (List.length x1.1)), 0, ()) fun t6 => some (t6.2.1, ())
def E16 (f63 : ShD × Unit → Option (List Throw × Unit)) (f65 : Throw × Unit → Option (Int × Unit)) (f64 : Throw × List Gust × Int × Unit → Option (Drop × Unit)) : Env := envL [(63, mkE p63 r63 false f63), (65, mkE p65 r65 false f65), (64, mkE p64 r64 false f64)]
noncomputable def L16 (f63 : ShD × Unit → Option (List Throw × Unit)) (f65 : Throw × Unit → Option (Int × Unit)) (f64 : Throw × List Gust × Int × Unit → Option (Drop × Unit)) : LEnv (densS (muts p16 ++ r16)) := lenv [(0, loopL (R := densS (muts p16 ++ r16)) q16_0 (s16_0 f63 f65 f64))]
theorem e16_0 (f63 : ShD × Unit → Option (List Throw × Unit)) (f65 : Throw × Unit → Option (Int × Unit)) (f64 : Throw × List Gust × Int × Unit → Option (Drop × Unit)) (X : Nat → St → Option (densS (muts p16 ++ r16))) (rec K : densS q16_0 → Option (densS (muts p16 ++ r16))) (t : densS q16_0) :
    ev (E16 f63 f65 f64) tab2 (fun _ => false) (L16 f63 f65 f64) (retK tab2 p16 r16 Proofs.Tryz.f16.results.toList) (loopC Proofs.Tryz.f16 0) (fun i s => cond (Nat.beq i 0) (decK 100 q16_0 s K) (X i s)) (fun s => decK 100 q16_0 s rec) (enc q16_0 t) = s16_0 f63 f65 f64 t rec K := by kernel_rfl
theorem e16 (f63 : ShD × Unit → Option (List Throw × Unit)) (f65 : Throw × Unit → Option (Int × Unit)) (f64 : Throw × List Gust × Int × Unit → Option (Drop × Unit)) (a : densS p16) : runF (E16 f63 f65 f64) tab2 (fun _ => false) p16 r16 Proofs.Tryz.f16 (L16 f63 f65 f64) a = F16 f63 f65 f64 a := by kernel_rfl
theorem ok16 {f63 : ShD × Unit → Option (List Throw × Unit)} {f65 : Throw × Unit → Option (Int × Unit)} {f64 : Throw × List Gust × Int × Unit → Option (Drop × Unit)} (h63 : OK Proofs.Tryz.prog 63 (mkE p63 r63 false f63)) (h65 : OK Proofs.Tryz.prog 65 (mkE p65 r65 false f65)) (h64 : OK Proofs.Tryz.prog 64 (mkE p64 r64 false f64)) : OK Proofs.Tryz.prog 16 (mkE p16 r16 false (F16 f63 f65 f64)) :=
  fn_ok tab_ok2 (envL_ok (l := [(63, mkE p63 r63 false f63), (65, mkE p65 r65 false f65), (64, mkE p64 r64 false f64)]) (OKs.cons h63 (OKs.cons h65 (OKs.cons h64 OKs.nil)))) mixed2 (ann := (fun _ => false)) (L := L16 f63 f65 f64) (fn := Proofs.Tryz.f16) (c := bodyC Proofs.Tryz.f16) (ls := [(0, loopC Proofs.Tryz.f16 0)]) Proofs.Tryz.func16 (by kernel_rfl) (by kernel_rfl) (by kernel_rfl) (by kernel_rfl)
    (LoopsP.cons q16_0 (s16_0 f63 f65 f64) rfl (e16_0 f63 f65 f64) LoopsP.nil) (e16 f63 f65 f64)
/-! impl.IsBox -/
def p50 : List SP := [.t .box]
def r50 : List SP := [.one (.bool)]
noncomputable def F50 (f92 : Place × Unit → Option (Bool × Unit)) (a : Box × Unit) : Option (Bool × Unit) :=
  (f92 (a.1.Low, ())).bind fun x1 => cond x1.1 ((f92 (a.1.High, ())).bind fun x2 => cond x2.1 (cond (decide (a.1.Low.X ≤ a.1.High.X)) (some ((decide (a.1.Low.Y ≤ a.1.High.Y)), ())) (some (false, ()))) (some (false, ()))) (some (false, ()))
def E50 (f92 : Place × Unit → Option (Bool × Unit)) : Env := envL [(92, mkE p92 r92 false f92)]
noncomputable def L50 (f92 : Place × Unit → Option (Bool × Unit)) : LEnv (densS (muts p50 ++ r50)) := lenv []
theorem e50 (f92 : Place × Unit → Option (Bool × Unit)) (a : densS p50) : runF (E50 f92) tab2 (fun _ => false) p50 r50 Proofs.Tryz.f50 (L50 f92) a = F50 f92 a := by kernel_rfl
theorem ok50 {f92 : Place × Unit → Option (Bool × Unit)} (h92 : OK Proofs.Tryz.prog 92 (mkE p92 r92 false f92)) : OK Proofs.Tryz.prog 50 (mkE p50 r50 false (F50 f92)) :=
  fn_ok tab_ok2 (envL_ok (l := [(92, mkE p92 r92 false f92)]) (OKs.cons h92 OKs.nil)) mixed2 (ann := (fun _ => false)) (L := L50 f92) (fn := Proofs.Tryz.f50) (c := bodyC Proofs.Tryz.f50) (ls := []) Proofs.Tryz.func50 (by kernel_rfl) (by kernel_rfl) (by kernel_rfl) (by kernel_rfl)
    LoopsP.nil (e50 f92)
/-! impl.InBox -/
def p23 : List SP := [.t .box, .t .place]
def r23 : List SP := [.one (.bool)]
noncomputable def F23 (f50 : Box × Unit → Option (Bool × Unit)) (f72 : Int × Int × Int × Unit → Option (Bool × Unit)) (a : Box × Place × Unit) : Option (Bool × Unit) :=
  (f50 (a.1, ())).bind fun x1 => cond x1.1 ((f72 (a.2.1.X, a.1.Low.X, a.1.High.X, ())).bind fun x2 => cond x2.1 ((f72 (a.2.1.Y, a.1.Low.Y, a.1.High.Y, ())).bind fun x3 => some (x3.1, ())) (some (false, ()))) (some (false, ()))
def E23 (f50 : Box × Unit → Option (Bool × Unit)) (f72 : Int × Int × Int × Unit → Option (Bool × Unit)) : Env := envL [(50, mkE p50 r50 false f50), (72, mkE p72 r72 false f72)]
noncomputable def L23 (f50 : Box × Unit → Option (Bool × Unit)) (f72 : Int × Int × Int × Unit → Option (Bool × Unit)) : LEnv (densS (muts p23 ++ r23)) := lenv []
theorem e23 (f50 : Box × Unit → Option (Bool × Unit)) (f72 : Int × Int × Int × Unit → Option (Bool × Unit)) (a : densS p23) : runF (E23 f50 f72) tab2 (fun _ => false) p23 r23 Proofs.Tryz.f23 (L23 f50 f72) a = F23 f50 f72 a := by kernel_rfl
theorem ok23 {f50 : Box × Unit → Option (Bool × Unit)} {f72 : Int × Int × Int × Unit → Option (Bool × Unit)} (h50 : OK Proofs.Tryz.prog 50 (mkE p50 r50 false f50)) (h72 : OK Proofs.Tryz.prog 72 (mkE p72 r72 false f72)) : OK Proofs.Tryz.prog 23 (mkE p23 r23 false (F23 f50 f72)) :=
  fn_ok tab_ok2 (envL_ok (l := [(50, mkE p50 r50 false f50), (72, mkE p72 r72 false f72)]) (OKs.cons h50 (OKs.cons h72 OKs.nil))) mixed2 (ann := (fun _ => false)) (L := L23 f50 f72) (fn := Proofs.Tryz.f23) (c := bodyC Proofs.Tryz.f23) (ls := []) Proofs.Tryz.func23 (by kernel_rfl) (by kernel_rfl) (by kernel_rfl) (by kernel_rfl)
    LoopsP.nil (e23 f50 f72)
/-! impl.isIn -/
def p78 : List SP := [.t .box, .t .box]
def r78 : List SP := [.one (.bool)]
noncomputable def F78 (f23 : Box × Place × Unit → Option (Bool × Unit)) (a : Box × Box × Unit) : Option (Bool × Unit) :=
  (f23 (a.2.1, a.1.Low, ())).bind fun x1 => cond x1.1 ((f23 (a.2.1, a.1.High, ())).bind fun x2 => some (x2.1, ())) (some (false, ()))
def E78 (f23 : Box × Place × Unit → Option (Bool × Unit)) : Env := envL [(23, mkE p23 r23 false f23)]
noncomputable def L78 (f23 : Box × Place × Unit → Option (Bool × Unit)) : LEnv (densS (muts p78 ++ r78)) := lenv []
theorem e78 (f23 : Box × Place × Unit → Option (Bool × Unit)) (a : densS p78) : runF (E78 f23) tab2 (fun _ => false) p78 r78 Proofs.Tryz.f78 (L78 f23) a = F78 f23 a := by kernel_rfl
theorem ok78 {f23 : Box × Place × Unit → Option (Bool × Unit)} (h23 : OK Proofs.Tryz.prog 23 (mkE p23 r23 false f23)) : OK Proofs.Tryz.prog 78 (mkE p78 r78 false (F78 f23)) :=
  fn_ok tab_ok2 (envL_ok (l := [(23, mkE p23 r23 false f23)]) (OKs.cons h23 OKs.nil)) mixed2 (ann := (fun _ => false)) (L := L78 f23) (fn := Proofs.Tryz.f78) (c := bodyC Proofs.Tryz.f78) (ls := []) Proofs.Tryz.func78 (by kernel_rfl) (by kernel_rfl) (by kernel_rfl) (by kernel_rfl)
    LoopsP.nil (e78 f23)
/-! impl.IsSafe -/
def p29 : List SP := [.agg [.r .device, .r .cue, .r .gust, .int .i64], .one (.r .place), .t .box]
def r29 : List SP := [.one (.bool)]
noncomputable def F29 (f39 : ShD × Unit → Option (Bool × Unit)) (f75 : List Place × Unit → Option (Bool × Unit)) (f50 : Box × Unit → Option (Bool × Unit)) (f46 : ShD × List Place × Unit → Option (Box × Bool × Unit)) (f78 : Box × Box × Unit → Option (Bool × Unit)) (a : ShD × List Place × Box × Unit) : Option (Bool × Unit) :=
  (f39 ((a.1.1, a.1.2.1, a.1.2.2.1, a.1.2.2.2.1, ()), ())).bind fun x1 => cond (!(!x1.1)) ((f75 (a.2.1, ())).bind fun x2 => cond (!(!x2.1)) ((f50 (a.2.2.1, ())).bind fun x3 => cond (!x3.1) (some (false, ())) ((f46 ((a.1.1, a.1.2.1, a.1.2.2.1, a.1.2.2.2.1, ()), a.2.1, ())).bind fun x4 => cond (!(!x4.2.1)) ((f78 (x4.1, a.2.2.1, ())).bind fun x5 => some (x5.1, ())) (some (true, ())))) (some (false, ()))) (some (false, ()))
def E29 (f39 : ShD × Unit → Option (Bool × Unit)) (f75 : List Place × Unit → Option (Bool × Unit)) (f50 : Box × Unit → Option (Bool × Unit)) (f46 : ShD × List Place × Unit → Option (Box × Bool × Unit)) (f78 : Box × Box × Unit → Option (Bool × Unit)) : Env := envL [(39, mkE p39 r39 false f39), (75, mkE p75 r75 false f75), (50, mkE p50 r50 false f50), (46, mkE p46 r46 false f46), (78, mkE p78 r78 false f78)]
noncomputable def L29 (f39 : ShD × Unit → Option (Bool × Unit)) (f75 : List Place × Unit → Option (Bool × Unit)) (f50 : Box × Unit → Option (Bool × Unit)) (f46 : ShD × List Place × Unit → Option (Box × Bool × Unit)) (f78 : Box × Box × Unit → Option (Bool × Unit)) : LEnv (densS (muts p29 ++ r29)) := lenv []
theorem e29 (f39 : ShD × Unit → Option (Bool × Unit)) (f75 : List Place × Unit → Option (Bool × Unit)) (f50 : Box × Unit → Option (Bool × Unit)) (f46 : ShD × List Place × Unit → Option (Box × Bool × Unit)) (f78 : Box × Box × Unit → Option (Bool × Unit)) (a : densS p29) : runF (E29 f39 f75 f50 f46 f78) tab2 (fun _ => false) p29 r29 Proofs.Tryz.f29 (L29 f39 f75 f50 f46 f78) a = F29 f39 f75 f50 f46 f78 a := by kernel_rfl
theorem ok29 {f39 : ShD × Unit → Option (Bool × Unit)} {f75 : List Place × Unit → Option (Bool × Unit)} {f50 : Box × Unit → Option (Bool × Unit)} {f46 : ShD × List Place × Unit → Option (Box × Bool × Unit)} {f78 : Box × Box × Unit → Option (Bool × Unit)} (h39 : OK Proofs.Tryz.prog 39 (mkE p39 r39 false f39)) (h75 : OK Proofs.Tryz.prog 75 (mkE p75 r75 false f75)) (h50 : OK Proofs.Tryz.prog 50 (mkE p50 r50 false f50)) (h46 : OK Proofs.Tryz.prog 46 (mkE p46 r46 false f46)) (h78 : OK Proofs.Tryz.prog 78 (mkE p78 r78 false f78)) : OK Proofs.Tryz.prog 29 (mkE p29 r29 false (F29 f39 f75 f50 f46 f78)) :=
  fn_ok tab_ok2 (envL_ok (l := [(39, mkE p39 r39 false f39), (75, mkE p75 r75 false f75), (50, mkE p50 r50 false f50), (46, mkE p46 r46 false f46), (78, mkE p78 r78 false f78)]) (OKs.cons h39 (OKs.cons h75 (OKs.cons h50 (OKs.cons h46 (OKs.cons h78 OKs.nil)))))) mixed2 (ann := (fun _ => false)) (L := L29 f39 f75 f50 f46 f78) (fn := Proofs.Tryz.f29) (c := bodyC Proofs.Tryz.f29) (ls := []) Proofs.Tryz.func29 (by kernel_rfl) (by kernel_rfl) (by kernel_rfl) (by kernel_rfl)
    LoopsP.nil (e29 f39 f75 f50 f46 f78)
/-! laws.FnLeastBasin -/
def p8 : List SP := [.one (.r .u8)]
def r8 : List SP := [.one (.bool)]
def q8_0 : List SP := pat 90 0 [(3, .box 5000001 [.r .device, .r .cue, .r .gust, .int .i64]), (4, .one (.r .place)), (7, .boxt 5000002 .box), (9, .one (.o 5000003 .box)), (10, .one (.int .i64))]
noncomputable def s8_0 (f14 : List Int × Unit → Option (Bool × Unit)) (f15 : List Int × Unit → Option (ShD × List Place × Box × List Gust × Unit)) (f46 : ShD × List Place × Unit → Option (Box × Bool × Unit)) (f16 : ShD × Unit → Option (List Drop × Unit)) (f29 : ShD × List Place × Box × Unit → Option (Bool × Unit)) (t10 : ShD × List Place × Box × List Box × Int × Unit) (rec K : ShD × List Place × Box × List Box × Int × Unit → Option (Bool × Unit)) : Option (Bool × Unit) :=
  cond (decide (t10.2.2.2.2.1 < 4)) (rdL t10.2.2.2.1 t10.2.2.2.2.1 fun _ => (t10.2.2.2.1[(Int.toNat t10.2.2.2.2.1)]?).bind fun d11 => (f29 ((t10.1.1, t10.1.2.1, t10.1.2.2.1, t10.1.2.2.2.1, ()), t10.2.1, d11, ())).bind fun x12 => cond x12.1 (some (false, ())) (rec ((t10.1.1, t10.1.2.1, t10.1.2.2.1, t10.1.2.2.2.1, ()), t10.2.1, t10.2.2.1, t10.2.2.2.1, (w64 (t10.2.2.2.2.1 + 1)), ()))) (K ((t10.1.1, t10.1.2.1, t10.1.2.2.1, t10.1.2.2.2.1, ()), t10.2.1, t10.2.2.1, t10.2.2.2.1, t10.2.2.2.2.1, ()))
noncomputable def F8 (f14 : List Int × Unit → Option (Bool × Unit)) (f15 : List Int × Unit → Option (ShD × List Place × Box × List Gust × Unit)) (f46 : ShD × List Place × Unit → Option (Box × Bool × Unit)) (f16 : ShD × Unit → Option (List Drop × Unit)) (f29 : ShD × List Place × Box × Unit → Option (Bool × Unit)) (a : List Int × Unit) : Option (Bool × Unit) :=
  (f14 (a.1, ())).bind fun x1 => cond x1.1 (some (true, ())) ((f15 (a.1, ())).bind fun x2 => (f46 ((x2.1.1, x2.1.2.1, x2.1.2.2.1, x2.1.2.2.2.1, ()), x2.2.1, ())).bind fun x3 => (f16 ((x2.1.1, x2.1.2.1, x2.1.2.2.1, x2.1.2.2.2.1, ()), ())).bind fun x4 => cond (!(decide (x3.2.1 = (decide ((Int.ofNat (List.length x4.1)) > 0))))) (some (false, ())) (cond (!x3.2.1) ((f29 ((x2.1.1, x2.1.2.1, x2.1.2.2.1, x2.1.2.2.2.1, ()), x2.2.1, (⟨⟨0, 0⟩, ⟨0, 0⟩⟩ : Box), ())).bind fun x5 => some (x5.1, ())) (rdL ([x3.1, x3.1, x3.1, x3.1] : List Box) 0 fun _ => (([x3.1, x3.1, x3.1, x3.1] : List Box)[(Int.toNat 0)]?).bind fun d6 => rdL (List.set ([x3.1, x3.1, x3.1, x3.1] : List Box) (Int.toNat 0) (⟨⟨(w64 (x3.1.Low.X + 1)), d6.Low.Y⟩, ⟨d6.High.X, d6.High.Y⟩⟩ : Box)) 1 fun _ => ((List.set ([x3.1, x3.1, x3.1, x3.1] : List Box) (Int.toNat 0) (⟨⟨(w64 (x3.1.Low.X + 1)), d6.Low.Y⟩, ⟨d6.High.X, d6.High.Y⟩⟩ : Box))[(Int.toNat 1)]?).bind fun d7 => rdL (List.set (List.set ([x3.1, x3.1, x3.1, x3.1] : List Box) (Int.toNat 0) (⟨⟨(w64 (x3.1.Low.X + 1)), d6.Low.Y⟩, ⟨d6.High.X, d6.High.Y⟩⟩ : Box)) (Int.toNat 1) (⟨⟨d7.Low.X, (w64 (x3.1.Low.Y + 1))⟩, ⟨d7.High.X, d7.High.Y⟩⟩ : Box)) 2 fun _ => ((List.set (List.set ([x3.1, x3.1, x3.1, x3.1] : List Box) (Int.toNat 0) (⟨⟨(w64 (x3.1.Low.X + 1)), d6.Low.Y⟩, ⟨d6.High.X, d6.High.Y⟩⟩ : Box)) (Int.toNat 1) (⟨⟨d7.Low.X, (w64 (x3.1.Low.Y + 1))⟩, ⟨d7.High.X, d7.High.Y⟩⟩ : Box))[(Int.toNat 2)]?).bind fun d8 => rdL (List.set (List.set (List.set ([x3.1, x3.1, x3.1, x3.1] : List Box) (Int.toNat 0) (⟨⟨(w64 (x3.1.Low.X + 1)), d6.Low.Y⟩, ⟨d6.High.X, d6.High.Y⟩⟩ : Box)) (Int.toNat 1) (⟨⟨d7.Low.X, (w64 (x3.1.Low.Y + 1))⟩, ⟨d7.High.X, d7.High.Y⟩⟩ : Box)) (Int.toNat 2) (⟨⟨d8.Low.X, d8.Low.Y⟩, ⟨(w64 (x3.1.High.X - 1)), d8.High.Y⟩⟩ : Box)) 3 fun _ => ((List.set (List.set (List.set ([x3.1, x3.1, x3.1, x3.1] : List Box) (Int.toNat 0) (⟨⟨(w64 (x3.1.Low.X + 1)), d6.Low.Y⟩, ⟨d6.High.X, d6.High.Y⟩⟩ : Box)) (Int.toNat 1) (⟨⟨d7.Low.X, (w64 (x3.1.Low.Y + 1))⟩, ⟨d7.High.X, d7.High.Y⟩⟩ : Box)) (Int.toNat 2) (⟨⟨d8.Low.X, d8.Low.Y⟩, ⟨(w64 (x3.1.High.X - 1)), d8.High.Y⟩⟩ : Box))[(Int.toNat 3)]?).bind fun d9 => iterF (s8_0 f14 f15 f46 f16 f29) fuel ((x2.1.1, x2.1.2.1, x2.1.2.2.1, x2.1.2.2.2.1, ()), x2.2.1, x3.1, (List.set (List.set (List.set (List.set ([x3.1, x3.1, x3.1, x3.1] : List Box) (Int.toNat 0) (⟨⟨(w64 (x3.1.Low.X + 1)), d6.Low.Y⟩, ⟨d6.High.X, d6.High.Y⟩⟩ : Box)) (Int.toNat 1) (⟨⟨d7.Low.X, (w64 (x3.1.Low.Y + 1))⟩, ⟨d7.High.X, d7.High.Y⟩⟩ : Box)) (Int.toNat 2) (⟨⟨d8.Low.X, d8.Low.Y⟩, ⟨(w64 (x3.1.High.X - 1)), d8.High.Y⟩⟩ : Box)) (Int.toNat 3) (⟨⟨d9.Low.X, d9.Low.Y⟩, ⟨d9.High.X, (w64 (x3.1.High.Y - 1))⟩⟩ : Box)), 0, ()) fun t13 => (f29 ((t13.1.1, t13.1.2.1, t13.1.2.2.1, t13.1.2.2.2.1, ()), t13.2.1, t13.2.2.1, ())).bind fun x14 => some (x14.1, ()))))
def E8 (f14 : List Int × Unit → Option (Bool × Unit)) (f15 : List Int × Unit → Option (ShD × List Place × Box × List Gust × Unit)) (f46 : ShD × List Place × Unit → Option (Box × Bool × Unit)) (f16 : ShD × Unit → Option (List Drop × Unit)) (f29 : ShD × List Place × Box × Unit → Option (Bool × Unit)) : Env := envL [(14, mkE p14 r14 false f14), (15, mkE p15 r15 true f15), (46, mkE p46 r46 false f46), (16, mkE p16 r16 false f16), (29, mkE p29 r29 false f29)]
noncomputable def L8 (f14 : List Int × Unit → Option (Bool × Unit)) (f15 : List Int × Unit → Option (ShD × List Place × Box × List Gust × Unit)) (f46 : ShD × List Place × Unit → Option (Box × Bool × Unit)) (f16 : ShD × Unit → Option (List Drop × Unit)) (f29 : ShD × List Place × Box × Unit → Option (Bool × Unit)) : LEnv (densS (muts p8 ++ r8)) := lenv [(0, loopL (R := densS (muts p8 ++ r8)) q8_0 (s8_0 f14 f15 f46 f16 f29))]
theorem e8_0 (f14 : List Int × Unit → Option (Bool × Unit)) (f15 : List Int × Unit → Option (ShD × List Place × Box × List Gust × Unit)) (f46 : ShD × List Place × Unit → Option (Box × Bool × Unit)) (f16 : ShD × Unit → Option (List Drop × Unit)) (f29 : ShD × List Place × Box × Unit → Option (Bool × Unit)) (X : Nat → St → Option (densS (muts p8 ++ r8))) (rec K : densS q8_0 → Option (densS (muts p8 ++ r8))) (t : densS q8_0) :
    ev (E8 f14 f15 f46 f16 f29) tab2 (fun _ => false) (L8 f14 f15 f46 f16 f29) (retK tab2 p8 r8 Proofs.Tryz.f8.results.toList) (loopC Proofs.Tryz.f8 0) (fun i s => cond (Nat.beq i 0) (decK 100 q8_0 s K) (X i s)) (fun s => decK 100 q8_0 s rec) (enc q8_0 t) = s8_0 f14 f15 f46 f16 f29 t rec K := by kernel_rfl
theorem e8 (f14 : List Int × Unit → Option (Bool × Unit)) (f15 : List Int × Unit → Option (ShD × List Place × Box × List Gust × Unit)) (f46 : ShD × List Place × Unit → Option (Box × Bool × Unit)) (f16 : ShD × Unit → Option (List Drop × Unit)) (f29 : ShD × List Place × Box × Unit → Option (Bool × Unit)) (a : densS p8) : runF (E8 f14 f15 f46 f16 f29) tab2 (fun _ => false) p8 r8 Proofs.Tryz.f8 (L8 f14 f15 f46 f16 f29) a = F8 f14 f15 f46 f16 f29 a := by kernel_rfl
theorem ok8 {f14 : List Int × Unit → Option (Bool × Unit)} {f15 : List Int × Unit → Option (ShD × List Place × Box × List Gust × Unit)} {f46 : ShD × List Place × Unit → Option (Box × Bool × Unit)} {f16 : ShD × Unit → Option (List Drop × Unit)} {f29 : ShD × List Place × Box × Unit → Option (Bool × Unit)} (h14 : OK Proofs.Tryz.prog 14 (mkE p14 r14 false f14)) (h15 : OK Proofs.Tryz.prog 15 (mkE p15 r15 true f15)) (h46 : OK Proofs.Tryz.prog 46 (mkE p46 r46 false f46)) (h16 : OK Proofs.Tryz.prog 16 (mkE p16 r16 false f16)) (h29 : OK Proofs.Tryz.prog 29 (mkE p29 r29 false f29)) : OK Proofs.Tryz.prog 8 (mkE p8 r8 false (F8 f14 f15 f46 f16 f29)) :=
  fn_ok tab_ok2 (envL_ok (l := [(14, mkE p14 r14 false f14), (15, mkE p15 r15 true f15), (46, mkE p46 r46 false f46), (16, mkE p16 r16 false f16), (29, mkE p29 r29 false f29)]) (OKs.cons h14 (OKs.cons h15 (OKs.cons h46 (OKs.cons h16 (OKs.cons h29 OKs.nil)))))) mixed2 (ann := (fun _ => false)) (L := L8 f14 f15 f46 f16 f29) (fn := Proofs.Tryz.f8) (c := bodyC Proofs.Tryz.f8) (ls := [(0, loopC Proofs.Tryz.f8 0)]) Proofs.Tryz.func8 (by kernel_rfl) (by kernel_rfl) (by kernel_rfl) (by kernel_rfl)
    (LoopsP.cons q8_0 (s8_0 f14 f15 f46 f16 f29) rfl (e8_0 f14 f15 f46 f16 f29) LoopsP.nil) (e8 f14 f15 f46 f16 f29)
/-! slices.Clone[[]impl.Device,impl.Device] -/
def p128 : List SP := [.one (.r .device)]
def r128 : List SP := [.one (.o 0 .device)]
noncomputable def F128 (a : List Device × Unit) : Option (List Device × Unit) :=
  emptyK (List.isEmpty a.1) (some ([], ())) (capK (List.length ([] : List Device) + List.length a.1) (some ((([] : List Device) ++ a.1), ())))
def E128 : Env := envL []
noncomputable def L128 : LEnv (densS (muts p128 ++ r128)) := lenv []
theorem e128 (a : densS p128) : runF (E128) tab2 (fun _ => false) p128 r128 Proofs.Tryz.f128 (L128) a = F128 a := by kernel_rfl
theorem ok128 : OK Proofs.Tryz.prog 128 (mkE p128 r128 false (F128)) :=
  fn_ok tab_ok2 (envL_ok (l := []) OKs.nil) mixed2 (ann := (fun _ => false)) (L := L128) (fn := Proofs.Tryz.f128) (c := bodyC Proofs.Tryz.f128) (ls := []) Proofs.Tryz.func128 (by kernel_rfl) (by kernel_rfl) (by kernel_rfl) (by kernel_rfl)
    LoopsP.nil (e128)
/-! slices.Clone[[]impl.Cue,impl.Cue] -/
def p80 : List SP := [.one (.r .cue)]
def r80 : List SP := [.one (.o 0 .cue)]
noncomputable def F80 (a : List Cue × Unit) : Option (List Cue × Unit) :=
  emptyK (List.isEmpty a.1) (some ([], ())) (capK (List.length ([] : List Cue) + List.length a.1) (some ((([] : List Cue) ++ a.1), ())))
def E80 : Env := envL []
noncomputable def L80 : LEnv (densS (muts p80 ++ r80)) := lenv []
theorem e80 (a : densS p80) : runF (E80) tab2 (fun _ => false) p80 r80 Proofs.Tryz.f80 (L80) a = F80 a := by kernel_rfl
theorem ok80 : OK Proofs.Tryz.prog 80 (mkE p80 r80 false (F80)) :=
  fn_ok tab_ok2 (envL_ok (l := []) OKs.nil) mixed2 (ann := (fun _ => false)) (L := L80) (fn := Proofs.Tryz.f80) (c := bodyC Proofs.Tryz.f80) (ls := []) Proofs.Tryz.func80 (by kernel_rfl) (by kernel_rfl) (by kernel_rfl) (by kernel_rfl)
    LoopsP.nil (e80)
/-! slices.Clone[[]impl.Gust,impl.Gust] -/
def p129 : List SP := [.one (.r .gust)]
def r129 : List SP := [.one (.o 0 .gust)]
noncomputable def F129 (a : List Gust × Unit) : Option (List Gust × Unit) :=
  emptyK (List.isEmpty a.1) (some ([], ())) (capK (List.length ([] : List Gust) + List.length a.1) (some ((([] : List Gust) ++ a.1), ())))
def E129 : Env := envL []
noncomputable def L129 : LEnv (densS (muts p129 ++ r129)) := lenv []
theorem e129 (a : densS p129) : runF (E129) tab2 (fun _ => false) p129 r129 Proofs.Tryz.f129 (L129) a = F129 a := by kernel_rfl
theorem ok129 : OK Proofs.Tryz.prog 129 (mkE p129 r129 false (F129)) :=
  fn_ok tab_ok2 (envL_ok (l := []) OKs.nil) mixed2 (ann := (fun _ => false)) (L := L129) (fn := Proofs.Tryz.f129) (c := bodyC Proofs.Tryz.f129) (ls := []) Proofs.Tryz.func129 (by kernel_rfl) (by kernel_rfl) (by kernel_rfl) (by kernel_rfl)
    LoopsP.nil (e129)
/-! impl.cloneShow -/
def p76 : List SP := [.agg [.r .device, .r .cue, .r .gust, .int .i64]]
def r76 : List SP := [.agg [.o 0 .device, .o 1 .cue, .o 2 .gust, .int .i64]]
noncomputable def F76 (f128 : List Device × Unit → Option (List Device × Unit)) (f80 : List Cue × Unit → Option (List Cue × Unit)) (f129 : List Gust × Unit → Option (List Gust × Unit)) (a : ShD × Unit) : Option (ShD × Unit) :=
  (f128 (a.1.1, ())).bind fun x1 => (f80 (a.1.2.1, ())).bind fun x2 => (f129 (a.1.2.2.1, ())).bind fun x3 => some ((x1.1, x2.1, x3.1, a.1.2.2.2.1, ()), ())
def E76 (f128 : List Device × Unit → Option (List Device × Unit)) (f80 : List Cue × Unit → Option (List Cue × Unit)) (f129 : List Gust × Unit → Option (List Gust × Unit)) : Env := envL [(128, mkE p128 r128 false f128), (80, mkE p80 r80 false f80), (129, mkE p129 r129 false f129)]
noncomputable def L76 (f128 : List Device × Unit → Option (List Device × Unit)) (f80 : List Cue × Unit → Option (List Cue × Unit)) (f129 : List Gust × Unit → Option (List Gust × Unit)) : LEnv (densS (muts p76 ++ r76)) := lenv []
theorem e76 (f128 : List Device × Unit → Option (List Device × Unit)) (f80 : List Cue × Unit → Option (List Cue × Unit)) (f129 : List Gust × Unit → Option (List Gust × Unit)) (a : densS p76) : runF (E76 f128 f80 f129) tab2 (fun _ => false) p76 r76 Proofs.Tryz.f76 (L76 f128 f80 f129) a = F76 f128 f80 f129 a := by kernel_rfl
theorem ok76 {f128 : List Device × Unit → Option (List Device × Unit)} {f80 : List Cue × Unit → Option (List Cue × Unit)} {f129 : List Gust × Unit → Option (List Gust × Unit)} (h128 : OK Proofs.Tryz.prog 128 (mkE p128 r128 false f128)) (h80 : OK Proofs.Tryz.prog 80 (mkE p80 r80 false f80)) (h129 : OK Proofs.Tryz.prog 129 (mkE p129 r129 false f129)) : OK Proofs.Tryz.prog 76 (mkE p76 r76 false (F76 f128 f80 f129)) :=
  fn_ok tab_ok2 (envL_ok (l := [(128, mkE p128 r128 false f128), (80, mkE p80 r80 false f80), (129, mkE p129 r129 false f129)]) (OKs.cons h128 (OKs.cons h80 (OKs.cons h129 OKs.nil)))) mixed2 (ann := (fun _ => false)) (L := L76 f128 f80 f129) (fn := Proofs.Tryz.f76) (c := bodyC Proofs.Tryz.f76) (ls := []) Proofs.Tryz.func76 (by kernel_rfl) (by kernel_rfl) (by kernel_rfl) (by kernel_rfl)
    LoopsP.nil (e76 f128 f80 f129)
/-! impl.LiftLimit -/
def p77 : List SP := [.t .device, .one (.r .place), .t .box]
def r77 : List SP := [.one (.int .i64)]
def q77_0 : List SP := pat 49 0 [(1, .one (.r .place)), (3, .boxt 5000001 .device), (5, .boxt 5000002 .box), (7, .one (.int .i64))]
noncomputable def s77_0 (f130 : Device × Unit → Option (Bool × Unit)) (f21 : Jet × List Place × Unit → Option (Box × Bool × Unit)) (f78 : Box × Box × Unit → Option (Bool × Unit)) (t2 : List Place × Device × Box × Int × Unit) (rec K : List Place × Device × Box × Int × Unit → Option (Int × Unit)) : Option (Int × Unit) :=
  cond (decide (t2.2.2.2.1 ≤ t2.2.1.Most)) ((f21 ((⟨⟨t2.2.1.At.X, t2.2.1.At.Y⟩, t2.2.1.Heading, t2.2.1.Tilt, t2.2.2.2.1⟩ : Jet), t2.1, ())).bind fun x3 => cond (!(!x3.2.1)) ((f78 (x3.1, t2.2.2.1, ())).bind fun x4 => cond (!x4.1) (some ((w64 (t2.2.2.2.1 - 1)), ())) (rec (t2.1, t2.2.1, t2.2.2.1, (w64 (t2.2.2.2.1 + 1)), ()))) (some ((w64 (t2.2.2.2.1 - 1)), ()))) (K (t2.1, t2.2.1, t2.2.2.1, t2.2.2.2.1, ()))
noncomputable def F77 (f130 : Device × Unit → Option (Bool × Unit)) (f21 : Jet × List Place × Unit → Option (Box × Bool × Unit)) (f78 : Box × Box × Unit → Option (Bool × Unit)) (a : Device × List Place × Box × Unit) : Option (Int × Unit) :=
  (f130 (a.1, ())).bind fun x1 => cond (!(!x1.1)) (cond (!(decide (a.1.Kind = 2))) (some (0, ())) (iterF (s77_0 f130 f21 f78) fuel (a.2.1, a.1, a.2.2.1, 1, ()) fun t5 => some (t5.2.1.Most, ()))) (some (0, ()))
def E77 (f130 : Device × Unit → Option (Bool × Unit)) (f21 : Jet × List Place × Unit → Option (Box × Bool × Unit)) (f78 : Box × Box × Unit → Option (Bool × Unit)) : Env := envL [(130, mkE p130 r130 false f130), (21, mkE p21 r21 false f21), (78, mkE p78 r78 false f78)]
noncomputable def L77 (f130 : Device × Unit → Option (Bool × Unit)) (f21 : Jet × List Place × Unit → Option (Box × Bool × Unit)) (f78 : Box × Box × Unit → Option (Bool × Unit)) : LEnv (densS (muts p77 ++ r77)) := lenv [(0, loopL (R := densS (muts p77 ++ r77)) q77_0 (s77_0 f130 f21 f78))]
theorem e77_0 (f130 : Device × Unit → Option (Bool × Unit)) (f21 : Jet × List Place × Unit → Option (Box × Bool × Unit)) (f78 : Box × Box × Unit → Option (Bool × Unit)) (X : Nat → St → Option (densS (muts p77 ++ r77))) (rec K : densS q77_0 → Option (densS (muts p77 ++ r77))) (t : densS q77_0) :
    ev (E77 f130 f21 f78) tab2 (fun _ => false) (L77 f130 f21 f78) (retK tab2 p77 r77 Proofs.Tryz.f77.results.toList) (loopC Proofs.Tryz.f77 0) (fun i s => cond (Nat.beq i 0) (decK 100 q77_0 s K) (X i s)) (fun s => decK 100 q77_0 s rec) (enc q77_0 t) = s77_0 f130 f21 f78 t rec K := by kernel_rfl
theorem e77 (f130 : Device × Unit → Option (Bool × Unit)) (f21 : Jet × List Place × Unit → Option (Box × Bool × Unit)) (f78 : Box × Box × Unit → Option (Bool × Unit)) (a : densS p77) : runF (E77 f130 f21 f78) tab2 (fun _ => false) p77 r77 Proofs.Tryz.f77 (L77 f130 f21 f78) a = F77 f130 f21 f78 a := by kernel_rfl
theorem ok77 {f130 : Device × Unit → Option (Bool × Unit)} {f21 : Jet × List Place × Unit → Option (Box × Bool × Unit)} {f78 : Box × Box × Unit → Option (Bool × Unit)} (h130 : OK Proofs.Tryz.prog 130 (mkE p130 r130 false f130)) (h21 : OK Proofs.Tryz.prog 21 (mkE p21 r21 false f21)) (h78 : OK Proofs.Tryz.prog 78 (mkE p78 r78 false f78)) : OK Proofs.Tryz.prog 77 (mkE p77 r77 false (F77 f130 f21 f78)) :=
  fn_ok tab_ok2 (envL_ok (l := [(130, mkE p130 r130 false f130), (21, mkE p21 r21 false f21), (78, mkE p78 r78 false f78)]) (OKs.cons h130 (OKs.cons h21 (OKs.cons h78 OKs.nil)))) mixed2 (ann := (fun _ => false)) (L := L77 f130 f21 f78) (fn := Proofs.Tryz.f77) (c := bodyC Proofs.Tryz.f77) (ls := [(0, loopC Proofs.Tryz.f77 0)]) Proofs.Tryz.func77 (by kernel_rfl) (by kernel_rfl) (by kernel_rfl) (by kernel_rfl)
    (LoopsP.cons q77_0 (s77_0 f130 f21 f78) rfl (e77_0 f130 f21 f78) LoopsP.nil) (e77 f130 f21 f78)
/-! impl.LimitShow -/
def p28 : List SP := [.agg [.r .device, .r .cue, .r .gust, .int .i64], .one (.r .place), .t .box]
def r28 : List SP := [.agg [.o 0 .device, .o 1 .cue, .o 2 .gust, .int .i64], .one (.bool)]
def q28_0 : List SP := pat 49 0 [(1, .one (.r .place)), (5, .boxt 5000001 .box), (6, .box 5000002 [.o 5000003 .device, .o 5000004 .cue, .o 5000005 .gust, .int .i64]), (8, .box 5000006 [.o 5000007 .device, .o 5000008 .cue, .o 5000009 .gust, .int .i64]), (28, .one (.al 5000007 .device)), (29, .one (.int .i64)), (30, .one (.int .i64))]
noncomputable def s28_0 (f39 : ShD × Unit → Option (Bool × Unit)) (f75 : List Place × Unit → Option (Bool × Unit)) (f50 : Box × Unit → Option (Bool × Unit)) (f76 : ShD × Unit → Option (ShD × Unit)) (f77 : Device × List Place × Box × Unit → Option (Int × Unit)) (t5 : List Place × Box × ShD × ShD × Unit × Int × Int × Unit) (rec K : List Place × Box × ShD × ShD × Unit × Int × Int × Unit → Option (ShD × Bool × Unit)) : Option (ShD × Bool × Unit) :=
  cond (decide (t5.2.2.2.2.2.2.1 < t5.2.2.2.2.2.1)) (rdL t5.2.2.2.1.1 t5.2.2.2.2.2.2.1 fun _ => (t5.2.2.2.1.1[(Int.toNat t5.2.2.2.2.2.2.1)]?).bind fun d6 => cond (decide (d6.Kind = 2)) ((f77 (d6, t5.1, t5.2.1, ())).bind fun x7 => rdL t5.2.2.2.1.1 t5.2.2.2.2.2.2.1 fun _ => (t5.2.2.2.1.1[(Int.toNat t5.2.2.2.2.2.2.1)]?).bind fun d8 => rec (t5.1, t5.2.1, (t5.2.2.1.1, t5.2.2.1.2.1, t5.2.2.1.2.2.1, t5.2.2.1.2.2.2.1, ()), ((List.set t5.2.2.2.1.1 (Int.toNat t5.2.2.2.2.2.2.1) (⟨d8.Name, d8.Kind, d8.Line, ⟨d8.At.X, d8.At.Y⟩, d8.Heading, d8.Tilt, x7.1⟩ : Device)), t5.2.2.2.1.2.1, t5.2.2.2.1.2.2.1, t5.2.2.2.1.2.2.2.1, ()), (), t5.2.2.2.2.2.1, (w64 (t5.2.2.2.2.2.2.1 + 1)), ())) (rec (t5.1, t5.2.1, (t5.2.2.1.1, t5.2.2.1.2.1, t5.2.2.1.2.2.1, t5.2.2.1.2.2.2.1, ()), (t5.2.2.2.1.1, t5.2.2.2.1.2.1, t5.2.2.2.1.2.2.1, t5.2.2.2.1.2.2.2.1, ()), (), t5.2.2.2.2.2.1, (w64 (t5.2.2.2.2.2.2.1 + 1)), ()))) (K (t5.1, t5.2.1, (t5.2.2.1.1, t5.2.2.1.2.1, t5.2.2.1.2.2.1, t5.2.2.1.2.2.2.1, ()), (t5.2.2.2.1.1, t5.2.2.2.1.2.1, t5.2.2.2.1.2.2.1, t5.2.2.2.1.2.2.2.1, ()), (), t5.2.2.2.2.2.1, t5.2.2.2.2.2.2.1, ()))
noncomputable def F28 (f39 : ShD × Unit → Option (Bool × Unit)) (f75 : List Place × Unit → Option (Bool × Unit)) (f50 : Box × Unit → Option (Bool × Unit)) (f76 : ShD × Unit → Option (ShD × Unit)) (f77 : Device × List Place × Box × Unit → Option (Int × Unit)) (a : ShD × List Place × Box × Unit) : Option (ShD × Bool × Unit) :=
  (f39 ((a.1.1, a.1.2.1, a.1.2.2.1, a.1.2.2.2.1, ()), ())).bind fun x1 => cond (!(!x1.1)) ((f75 (a.2.1, ())).bind fun x2 => cond (!(!x2.1)) ((f50 (a.2.2.1, ())).bind fun x3 => cond (!x3.1) (some (([], [], [], 0, ()), false, ())) ((f76 ((a.1.1, a.1.2.1, a.1.2.2.1, a.1.2.2.2.1, ()), ())).bind fun x4 => iterF (s28_0 f39 f75 f50 f76 f77) fuel (a.2.1, a.2.2.1, ([], [], [], 0, ()), (x4.1.1, x4.1.2.1, x4.1.2.2.1, x4.1.2.2.2.1, ()), (), (Int.ofNat (List.length x4.1.1)), 0, ()) fun t9 => some ((t9.2.2.2.1.1, t9.2.2.2.1.2.1, t9.2.2.2.1.2.2.1, t9.2.2.2.1.2.2.2.1, ()), true, ()))) (some (([], [], [], 0, ()), false, ()))) (some (([], [], [], 0, ()), false, ()))
def E28 (f39 : ShD × Unit → Option (Bool × Unit)) (f75 : List Place × Unit → Option (Bool × Unit)) (f50 : Box × Unit → Option (Bool × Unit)) (f76 : ShD × Unit → Option (ShD × Unit)) (f77 : Device × List Place × Box × Unit → Option (Int × Unit)) : Env := envL [(39, mkE p39 r39 false f39), (75, mkE p75 r75 false f75), (50, mkE p50 r50 false f50), (76, mkE p76 r76 false f76), (77, mkE p77 r77 false f77)]
noncomputable def L28 (f39 : ShD × Unit → Option (Bool × Unit)) (f75 : List Place × Unit → Option (Bool × Unit)) (f50 : Box × Unit → Option (Bool × Unit)) (f76 : ShD × Unit → Option (ShD × Unit)) (f77 : Device × List Place × Box × Unit → Option (Int × Unit)) : LEnv (densS (muts p28 ++ r28)) := lenv [(0, loopL (R := densS (muts p28 ++ r28)) q28_0 (s28_0 f39 f75 f50 f76 f77))]
theorem e28_0 (f39 : ShD × Unit → Option (Bool × Unit)) (f75 : List Place × Unit → Option (Bool × Unit)) (f50 : Box × Unit → Option (Bool × Unit)) (f76 : ShD × Unit → Option (ShD × Unit)) (f77 : Device × List Place × Box × Unit → Option (Int × Unit)) (X : Nat → St → Option (densS (muts p28 ++ r28))) (rec K : densS q28_0 → Option (densS (muts p28 ++ r28))) (t : densS q28_0) :
    ev (E28 f39 f75 f50 f76 f77) tab2 (fun _ => false) (L28 f39 f75 f50 f76 f77) (retK tab2 p28 r28 Proofs.Tryz.f28.results.toList) (loopC Proofs.Tryz.f28 0) (fun i s => cond (Nat.beq i 0) (decK 100 q28_0 s K) (X i s)) (fun s => decK 100 q28_0 s rec) (enc q28_0 t) = s28_0 f39 f75 f50 f76 f77 t rec K := by kernel_rfl
theorem e28 (f39 : ShD × Unit → Option (Bool × Unit)) (f75 : List Place × Unit → Option (Bool × Unit)) (f50 : Box × Unit → Option (Bool × Unit)) (f76 : ShD × Unit → Option (ShD × Unit)) (f77 : Device × List Place × Box × Unit → Option (Int × Unit)) (a : densS p28) : runF (E28 f39 f75 f50 f76 f77) tab2 (fun _ => false) p28 r28 Proofs.Tryz.f28 (L28 f39 f75 f50 f76 f77) a = F28 f39 f75 f50 f76 f77 a := by kernel_rfl
theorem ok28 {f39 : ShD × Unit → Option (Bool × Unit)} {f75 : List Place × Unit → Option (Bool × Unit)} {f50 : Box × Unit → Option (Bool × Unit)} {f76 : ShD × Unit → Option (ShD × Unit)} {f77 : Device × List Place × Box × Unit → Option (Int × Unit)} (h39 : OK Proofs.Tryz.prog 39 (mkE p39 r39 false f39)) (h75 : OK Proofs.Tryz.prog 75 (mkE p75 r75 false f75)) (h50 : OK Proofs.Tryz.prog 50 (mkE p50 r50 false f50)) (h76 : OK Proofs.Tryz.prog 76 (mkE p76 r76 false f76)) (h77 : OK Proofs.Tryz.prog 77 (mkE p77 r77 false f77)) : OK Proofs.Tryz.prog 28 (mkE p28 r28 false (F28 f39 f75 f50 f76 f77)) :=
  fn_ok tab_ok2 (envL_ok (l := [(39, mkE p39 r39 false f39), (75, mkE p75 r75 false f75), (50, mkE p50 r50 false f50), (76, mkE p76 r76 false f76), (77, mkE p77 r77 false f77)]) (OKs.cons h39 (OKs.cons h75 (OKs.cons h50 (OKs.cons h76 (OKs.cons h77 OKs.nil)))))) mixed2 (ann := (fun _ => false)) (L := L28 f39 f75 f50 f76 f77) (fn := Proofs.Tryz.f28) (c := bodyC Proofs.Tryz.f28) (ls := [(0, loopC Proofs.Tryz.f28 0)]) Proofs.Tryz.func28 (by kernel_rfl) (by kernel_rfl) (by kernel_rfl) (by kernel_rfl)
    (LoopsP.cons q28_0 (s28_0 f39 f75 f50 f76 f77) rfl (e28_0 f39 f75 f50 f76 f77) LoopsP.nil) (e28 f39 f75 f50 f76 f77)
/-! laws.rigs -/
def p47 : List SP := [.one (.r .device), .one (.r .device)]
def r47 : List SP := [.one (.bool)]
def q47_0 : List SP := pat 26 0 [(0, .one (.r .device)), (1, .one (.r .device)), (5, .one (.int .i64))]
noncomputable def s47_0 (t1 : List Device × List Device × Int × Unit) (rec K : List Device × List Device × Int × Unit → Option (Bool × Unit)) : Option (Bool × Unit) :=
  cond (decide (t1.2.2.1 < (Int.ofNat (List.length t1.1)))) (rdL t1.1 t1.2.2.1 fun d2 => rdL t1.2.1 t1.2.2.1 fun d3 => cond (!(decide (d2.Name = d3.Name) && (decide (d2.Kind = d3.Kind) && (decide (d2.Line = d3.Line) && (decide (d2.At.X = d3.At.X) && (decide (d2.At.Y = d3.At.Y) && (decide (d2.Heading = d3.Heading) && (decide (d2.Tilt = d3.Tilt) && (decide (d2.Most = d3.Most) && true))))))))) (some (false, ())) (rec (t1.1, t1.2.1, (w64 (t1.2.2.1 + 1)), ()))) (K (t1.1, t1.2.1, t1.2.2.1, ()))
noncomputable def F47 (a : List Device × List Device × Unit) : Option (Bool × Unit) :=
  cond (!(decide ((Int.ofNat (List.length a.1)) = (Int.ofNat (List.length a.2.1))))) (some (false, ())) (iterF (s47_0) fuel (a.1, a.2.1, 0, ()) fun t4 => some (true, ()))
def E47 : Env := envL []
noncomputable def L47 : LEnv (densS (muts p47 ++ r47)) := lenv [(0, loopL (R := densS (muts p47 ++ r47)) q47_0 (s47_0))]
theorem e47_0 (X : Nat → St → Option (densS (muts p47 ++ r47))) (rec K : densS q47_0 → Option (densS (muts p47 ++ r47))) (t : densS q47_0) :
    ev (E47) tab2 (fun _ => false) (L47) (retK tab2 p47 r47 Proofs.Tryz.f47.results.toList) (loopC Proofs.Tryz.f47 0) (fun i s => cond (Nat.beq i 0) (decK 100 q47_0 s K) (X i s)) (fun s => decK 100 q47_0 s rec) (enc q47_0 t) = s47_0 t rec K := by kernel_rfl
theorem e47 (a : densS p47) : runF (E47) tab2 (fun _ => false) p47 r47 Proofs.Tryz.f47 (L47) a = F47 a := by kernel_rfl
theorem ok47 : OK Proofs.Tryz.prog 47 (mkE p47 r47 false (F47)) :=
  fn_ok tab_ok2 (envL_ok (l := []) OKs.nil) mixed2 (ann := (fun _ => false)) (L := L47) (fn := Proofs.Tryz.f47) (c := bodyC Proofs.Tryz.f47) (ls := [(0, loopC Proofs.Tryz.f47 0)]) Proofs.Tryz.func47 (by kernel_rfl) (by kernel_rfl) (by kernel_rfl) (by kernel_rfl)
    (LoopsP.cons q47_0 (s47_0) rfl (e47_0) LoopsP.nil) (e47)
/-! laws.FnLimited -/
def p9 : List SP := [.one (.r .u8)]
def r9 : List SP := [.one (.bool)]
def q9_0 : List SP := pat 103 0 [(3, .box 5000001 [.r .device, .r .cue, .r .gust, .int .i64]), (7, .box 5000002 [.o 5000003 .device, .o 5000004 .cue, .o 5000005 .gust, .int .i64]), (11, .one (.int .i64))]
noncomputable def s9_0 (f14 : List Int × Unit → Option (Bool × Unit)) (f15 : List Int × Unit → Option (ShD × List Place × Box × List Gust × Unit)) (f28 : ShD × List Place × Box × Unit → Option (ShD × Bool × Unit)) (f39 : ShD × Unit → Option (Bool × Unit)) (f29 : ShD × List Place × Box × Unit → Option (Bool × Unit)) (f47 : List Device × List Device × Unit → Option (Bool × Unit)) (t8 : ShD × ShD × Int × Unit) (rec K : ShD × ShD × Int × Unit → Option (Bool × Unit)) : Option (Bool × Unit) :=
  cond (decide (t8.2.2.1 < (Int.ofNat (List.length t8.1.1)))) (rdL t8.2.1.1 t8.2.2.1 fun _ => (t8.2.1.1[(Int.toNat t8.2.2.1)]?).bind fun d9 => rdL t8.1.1 t8.2.2.1 fun d10 => cond (!(decide (d9.Most > d10.Most))) (rdL t8.1.1 t8.2.2.1 fun d11 => cond (!(decide (d11.Kind = 2))) (rdL t8.2.1.1 t8.2.2.1 fun _ => (t8.2.1.1[(Int.toNat t8.2.2.1)]?).bind fun d12 => rdL t8.1.1 t8.2.2.1 fun d13 => cond (!(decide (d12.Name = d13.Name) && (decide (d12.Kind = d13.Kind) && (decide (d12.Line = d13.Line) && (decide (d12.At.X = d13.At.X) && (decide (d12.At.Y = d13.At.Y) && (decide (d12.Heading = d13.Heading) && (decide (d12.Tilt = d13.Tilt) && (decide (d12.Most = d13.Most) && true))))))))) (some (false, ())) (rec ((t8.1.1, t8.1.2.1, t8.1.2.2.1, t8.1.2.2.2.1, ()), (t8.2.1.1, t8.2.1.2.1, t8.2.1.2.2.1, t8.2.1.2.2.2.1, ()), (w64 (t8.2.2.1 + 1)), ()))) (rec ((t8.1.1, t8.1.2.1, t8.1.2.2.1, t8.1.2.2.2.1, ()), (t8.2.1.1, t8.2.1.2.1, t8.2.1.2.2.1, t8.2.1.2.2.2.1, ()), (w64 (t8.2.2.1 + 1)), ()))) (some (false, ()))) (K ((t8.1.1, t8.1.2.1, t8.1.2.2.1, t8.1.2.2.2.1, ()), (t8.2.1.1, t8.2.1.2.1, t8.2.1.2.2.1, t8.2.1.2.2.2.1, ()), t8.2.2.1, ()))
noncomputable def F9 (f14 : List Int × Unit → Option (Bool × Unit)) (f15 : List Int × Unit → Option (ShD × List Place × Box × List Gust × Unit)) (f28 : ShD × List Place × Box × Unit → Option (ShD × Bool × Unit)) (f39 : ShD × Unit → Option (Bool × Unit)) (f29 : ShD × List Place × Box × Unit → Option (Bool × Unit)) (f47 : List Device × List Device × Unit → Option (Bool × Unit)) (a : List Int × Unit) : Option (Bool × Unit) :=
  (f14 (a.1, ())).bind fun x1 => cond x1.1 (some (true, ())) ((f15 (a.1, ())).bind fun x2 => (f28 ((x2.1.1, x2.1.2.1, x2.1.2.2.1, x2.1.2.2.2.1, ()), x2.2.1, x2.2.2.1, ())).bind fun x3 => (f28 ((x3.1.1, x3.1.2.1, x3.1.2.2.1, x3.1.2.2.2.1, ()), x2.2.1, x2.2.2.1, ())).bind fun x4 => cond (!(!x3.2.1)) (cond (!(!x4.2.1)) ((f39 ((x3.1.1, x3.1.2.1, x3.1.2.2.1, x3.1.2.2.2.1, ()), ())).bind fun x5 => cond (!(!x5.1)) ((f29 ((x3.1.1, x3.1.2.1, x3.1.2.2.1, x3.1.2.2.2.1, ()), x2.2.1, x2.2.2.1, ())).bind fun x6 => cond (!(!x6.1)) ((f47 (x3.1.1, x4.1.1, ())).bind fun x7 => cond (!x7.1) (some (false, ())) (iterF (s9_0 f14 f15 f28 f39 f29 f47) fuel ((x2.1.1, x2.1.2.1, x2.1.2.2.1, x2.1.2.2.2.1, ()), (x3.1.1, x3.1.2.1, x3.1.2.2.1, x3.1.2.2.2.1, ()), 0, ()) fun t14 => some (true, ()))) (some (false, ()))) (some (false, ()))) (some (false, ()))) (some (false, ())))
def E9 (f14 : List Int × Unit → Option (Bool × Unit)) (f15 : List Int × Unit → Option (ShD × List Place × Box × List Gust × Unit)) (f28 : ShD × List Place × Box × Unit → Option (ShD × Bool × Unit)) (f39 : ShD × Unit → Option (Bool × Unit)) (f29 : ShD × List Place × Box × Unit → Option (Bool × Unit)) (f47 : List Device × List Device × Unit → Option (Bool × Unit)) : Env := envL [(14, mkE p14 r14 false f14), (15, mkE p15 r15 true f15), (28, mkE p28 r28 false f28), (39, mkE p39 r39 false f39), (29, mkE p29 r29 false f29), (47, mkE p47 r47 false f47)]
noncomputable def L9 (f14 : List Int × Unit → Option (Bool × Unit)) (f15 : List Int × Unit → Option (ShD × List Place × Box × List Gust × Unit)) (f28 : ShD × List Place × Box × Unit → Option (ShD × Bool × Unit)) (f39 : ShD × Unit → Option (Bool × Unit)) (f29 : ShD × List Place × Box × Unit → Option (Bool × Unit)) (f47 : List Device × List Device × Unit → Option (Bool × Unit)) : LEnv (densS (muts p9 ++ r9)) := lenv [(0, loopL (R := densS (muts p9 ++ r9)) q9_0 (s9_0 f14 f15 f28 f39 f29 f47))]
theorem e9_0 (f14 : List Int × Unit → Option (Bool × Unit)) (f15 : List Int × Unit → Option (ShD × List Place × Box × List Gust × Unit)) (f28 : ShD × List Place × Box × Unit → Option (ShD × Bool × Unit)) (f39 : ShD × Unit → Option (Bool × Unit)) (f29 : ShD × List Place × Box × Unit → Option (Bool × Unit)) (f47 : List Device × List Device × Unit → Option (Bool × Unit)) (X : Nat → St → Option (densS (muts p9 ++ r9))) (rec K : densS q9_0 → Option (densS (muts p9 ++ r9))) (t : densS q9_0) :
    ev (E9 f14 f15 f28 f39 f29 f47) tab2 (fun _ => false) (L9 f14 f15 f28 f39 f29 f47) (retK tab2 p9 r9 Proofs.Tryz.f9.results.toList) (loopC Proofs.Tryz.f9 0) (fun i s => cond (Nat.beq i 0) (decK 100 q9_0 s K) (X i s)) (fun s => decK 100 q9_0 s rec) (enc q9_0 t) = s9_0 f14 f15 f28 f39 f29 f47 t rec K := by kernel_rfl
theorem e9 (f14 : List Int × Unit → Option (Bool × Unit)) (f15 : List Int × Unit → Option (ShD × List Place × Box × List Gust × Unit)) (f28 : ShD × List Place × Box × Unit → Option (ShD × Bool × Unit)) (f39 : ShD × Unit → Option (Bool × Unit)) (f29 : ShD × List Place × Box × Unit → Option (Bool × Unit)) (f47 : List Device × List Device × Unit → Option (Bool × Unit)) (a : densS p9) : runF (E9 f14 f15 f28 f39 f29 f47) tab2 (fun _ => false) p9 r9 Proofs.Tryz.f9 (L9 f14 f15 f28 f39 f29 f47) a = F9 f14 f15 f28 f39 f29 f47 a := by kernel_rfl
theorem ok9 {f14 : List Int × Unit → Option (Bool × Unit)} {f15 : List Int × Unit → Option (ShD × List Place × Box × List Gust × Unit)} {f28 : ShD × List Place × Box × Unit → Option (ShD × Bool × Unit)} {f39 : ShD × Unit → Option (Bool × Unit)} {f29 : ShD × List Place × Box × Unit → Option (Bool × Unit)} {f47 : List Device × List Device × Unit → Option (Bool × Unit)} (h14 : OK Proofs.Tryz.prog 14 (mkE p14 r14 false f14)) (h15 : OK Proofs.Tryz.prog 15 (mkE p15 r15 true f15)) (h28 : OK Proofs.Tryz.prog 28 (mkE p28 r28 false f28)) (h39 : OK Proofs.Tryz.prog 39 (mkE p39 r39 false f39)) (h29 : OK Proofs.Tryz.prog 29 (mkE p29 r29 false f29)) (h47 : OK Proofs.Tryz.prog 47 (mkE p47 r47 false f47)) : OK Proofs.Tryz.prog 9 (mkE p9 r9 false (F9 f14 f15 f28 f39 f29 f47)) :=
  fn_ok tab_ok2 (envL_ok (l := [(14, mkE p14 r14 false f14), (15, mkE p15 r15 true f15), (28, mkE p28 r28 false f28), (39, mkE p39 r39 false f39), (29, mkE p29 r29 false f29), (47, mkE p47 r47 false f47)]) (OKs.cons h14 (OKs.cons h15 (OKs.cons h28 (OKs.cons h39 (OKs.cons h29 (OKs.cons h47 OKs.nil))))))) mixed2 (ann := (fun _ => false)) (L := L9 f14 f15 f28 f39 f29 f47) (fn := Proofs.Tryz.f9) (c := bodyC Proofs.Tryz.f9) (ls := [(0, loopC Proofs.Tryz.f9 0)]) Proofs.Tryz.func9 (by kernel_rfl) (by kernel_rfl) (by kernel_rfl) (by kernel_rfl)
    (LoopsP.cons q9_0 (s9_0 f14 f15 f28 f39 f29 f47) rfl (e9_0 f14 f15 f28 f39 f29 f47) LoopsP.nil) (e9 f14 f15 f28 f39 f29 f47)
/-! slices.Index[[]impl.Place,impl.Place] -/
def p156 : List SP := [.one (.r .place), .t .place]
def r156 : List SP := [.one (.int .i64)]
def q156_0 : List SP := pat 19 0 [(0, .one (.r .place)), (3, .boxt 5000001 .place), (7, .one (.int .i64)), (8, .one (.int .i64))]
noncomputable def s156_0 (t1 : List Place × Place × Int × Int × Unit) (rec K : List Place × Place × Int × Int × Unit → Option (Int × Unit)) : Option (Int × Unit) :=
  cond (decide (t1.2.2.2.1 < t1.2.2.1)) (rdL t1.1 t1.2.2.2.1 fun d2 => cond (decide (t1.2.1.X = d2.X) && (decide (t1.2.1.Y = d2.Y) && true)) (some (t1.2.2.2.1, ())) (rec (t1.1, t1.2.1, t1.2.2.1, (w64 (t1.2.2.2.1 + 1)), ()))) (K (t1.1, t1.2.1, t1.2.2.1, t1.2.2.2.1, ()))
noncomputable def F156 (a : List Place × Place × Unit) : Option (Int × Unit) :=
  iterF (s156_0) fuel (a.1, a.2.1, (Int.ofNat (List.length a.1)), 0, ()) fun t3 => some ((-1), ())
def E156 : Env := envL []
noncomputable def L156 : LEnv (densS (muts p156 ++ r156)) := lenv [(0, loopL (R := densS (muts p156 ++ r156)) q156_0 (s156_0))]
theorem e156_0 (X : Nat → St → Option (densS (muts p156 ++ r156))) (rec K : densS q156_0 → Option (densS (muts p156 ++ r156))) (t : densS q156_0) :
    ev (E156) tab2 (fun _ => false) (L156) (retK tab2 p156 r156 Proofs.Tryz.f156.results.toList) (loopC Proofs.Tryz.f156 0) (fun i s => cond (Nat.beq i 0) (decK 100 q156_0 s K) (X i s)) (fun s => decK 100 q156_0 s rec) (enc q156_0 t) = s156_0 t rec K := by kernel_rfl
theorem e156 (a : densS p156) : runF (E156) tab2 (fun _ => false) p156 r156 Proofs.Tryz.f156 (L156) a = F156 a := by kernel_rfl
theorem ok156 : OK Proofs.Tryz.prog 156 (mkE p156 r156 false (F156)) :=
  fn_ok tab_ok2 (envL_ok (l := []) OKs.nil) mixed2 (ann := (fun _ => false)) (L := L156) (fn := Proofs.Tryz.f156) (c := bodyC Proofs.Tryz.f156) (ls := [(0, loopC Proofs.Tryz.f156 0)]) Proofs.Tryz.func156 (by kernel_rfl) (by kernel_rfl) (by kernel_rfl) (by kernel_rfl)
    (LoopsP.cons q156_0 (s156_0) rfl (e156_0) LoopsP.nil) (e156)
/-! slices.Contains[[]impl.Place,impl.Place] -/
def p107 : List SP := [.one (.r .place), .t .place]
def r107 : List SP := [.one (.bool)]
noncomputable def F107 (f156 : List Place × Place × Unit → Option (Int × Unit)) (a : List Place × Place × Unit) : Option (Bool × Unit) :=
  (f156 (a.1, a.2.1, ())).bind fun x1 => some ((decide (x1.1 ≥ 0)), ())
def E107 (f156 : List Place × Place × Unit → Option (Int × Unit)) : Env := envL [(156, mkE p156 r156 false f156)]
noncomputable def L107 (f156 : List Place × Place × Unit → Option (Int × Unit)) : LEnv (densS (muts p107 ++ r107)) := lenv []
theorem e107 (f156 : List Place × Place × Unit → Option (Int × Unit)) (a : densS p107) : runF (E107 f156) tab2 (fun _ => false) p107 r107 Proofs.Tryz.f107 (L107 f156) a = F107 f156 a := by kernel_rfl
theorem ok107 {f156 : List Place × Place × Unit → Option (Int × Unit)} (h156 : OK Proofs.Tryz.prog 156 (mkE p156 r156 false f156)) : OK Proofs.Tryz.prog 107 (mkE p107 r107 false (F107 f156)) :=
  fn_ok tab_ok2 (envL_ok (l := [(156, mkE p156 r156 false f156)]) (OKs.cons h156 OKs.nil)) mixed2 (ann := (fun _ => false)) (L := L107 f156) (fn := Proofs.Tryz.f107) (c := bodyC Proofs.Tryz.f107) (ls := []) Proofs.Tryz.func107 (by kernel_rfl) (by kernel_rfl) (by kernel_rfl) (by kernel_rfl)
    LoopsP.nil (e107 f156)
/-! impl.FitsRose -/
def p52 : List SP := [.one (.r .gust), .one (.r .place), .one (.int .i64)]
def r52 : List SP := [.one (.bool)]
def q52_0 : List SP := pat 31 0 [(0, .one (.r .gust)), (1, .one (.r .place)), (2, .one (.int .i64)), (7, .one (.int .i64))]
noncomputable def s52_0 (f69 : List Gust × Unit → Option (Bool × Unit)) (f75 : List Place × Unit → Option (Bool × Unit)) (f44 : List Gust × Int × Unit → Option (Place × Unit)) (f107 : List Place × Place × Unit → Option (Bool × Unit)) (t3 : List Gust × List Place × Int × Int × Unit) (rec K : List Gust × List Place × Int × Int × Unit → Option (Bool × Unit)) : Option (Bool × Unit) :=
  cond (decide (t3.2.2.2.1 < t3.2.2.1)) ((f44 (t3.1, t3.2.2.2.1, ())).bind fun x4 => (f107 (t3.2.1, x4.1, ())).bind fun x5 => cond (!x5.1) (some (false, ())) (rec (t3.1, t3.2.1, t3.2.2.1, (w64 (t3.2.2.2.1 + 1)), ()))) (K (t3.1, t3.2.1, t3.2.2.1, t3.2.2.2.1, ()))
noncomputable def F52 (f69 : List Gust × Unit → Option (Bool × Unit)) (f75 : List Place × Unit → Option (Bool × Unit)) (f44 : List Gust × Int × Unit → Option (Place × Unit)) (f107 : List Place × Place × Unit → Option (Bool × Unit)) (a : List Gust × List Place × Int × Unit) : Option (Bool × Unit) :=
  (f69 (a.1, ())).bind fun x1 => cond (!(!x1.1)) ((f75 (a.2.1, ())).bind fun x2 => cond (!(!x2.1)) (cond (decide (a.2.2.1 > 128)) (some (false, ())) (iterF (s52_0 f69 f75 f44 f107) fuel (a.1, a.2.1, a.2.2.1, 0, ()) fun t6 => some (true, ()))) (some (false, ()))) (some (false, ()))
def E52 (f69 : List Gust × Unit → Option (Bool × Unit)) (f75 : List Place × Unit → Option (Bool × Unit)) (f44 : List Gust × Int × Unit → Option (Place × Unit)) (f107 : List Place × Place × Unit → Option (Bool × Unit)) : Env := envL [(69, mkE p69 r69 false f69), (75, mkE p75 r75 false f75), (44, mkE p44 r44 false f44), (107, mkE p107 r107 false f107)]
noncomputable def L52 (f69 : List Gust × Unit → Option (Bool × Unit)) (f75 : List Place × Unit → Option (Bool × Unit)) (f44 : List Gust × Int × Unit → Option (Place × Unit)) (f107 : List Place × Place × Unit → Option (Bool × Unit)) : LEnv (densS (muts p52 ++ r52)) := lenv [(0, loopL (R := densS (muts p52 ++ r52)) q52_0 (s52_0 f69 f75 f44 f107))]
theorem e52_0 (f69 : List Gust × Unit → Option (Bool × Unit)) (f75 : List Place × Unit → Option (Bool × Unit)) (f44 : List Gust × Int × Unit → Option (Place × Unit)) (f107 : List Place × Place × Unit → Option (Bool × Unit)) (X : Nat → St → Option (densS (muts p52 ++ r52))) (rec K : densS q52_0 → Option (densS (muts p52 ++ r52))) (t : densS q52_0) :
    ev (E52 f69 f75 f44 f107) tab2 (fun _ => false) (L52 f69 f75 f44 f107) (retK tab2 p52 r52 Proofs.Tryz.f52.results.toList) (loopC Proofs.Tryz.f52 0) (fun i s => cond (Nat.beq i 0) (decK 100 q52_0 s K) (X i s)) (fun s => decK 100 q52_0 s rec) (enc q52_0 t) = s52_0 f69 f75 f44 f107 t rec K := by kernel_rfl
theorem e52 (f69 : List Gust × Unit → Option (Bool × Unit)) (f75 : List Place × Unit → Option (Bool × Unit)) (f44 : List Gust × Int × Unit → Option (Place × Unit)) (f107 : List Place × Place × Unit → Option (Bool × Unit)) (a : densS p52) : runF (E52 f69 f75 f44 f107) tab2 (fun _ => false) p52 r52 Proofs.Tryz.f52 (L52 f69 f75 f44 f107) a = F52 f69 f75 f44 f107 a := by kernel_rfl
theorem ok52 {f69 : List Gust × Unit → Option (Bool × Unit)} {f75 : List Place × Unit → Option (Bool × Unit)} {f44 : List Gust × Int × Unit → Option (Place × Unit)} {f107 : List Place × Place × Unit → Option (Bool × Unit)} (h69 : OK Proofs.Tryz.prog 69 (mkE p69 r69 false f69)) (h75 : OK Proofs.Tryz.prog 75 (mkE p75 r75 false f75)) (h44 : OK Proofs.Tryz.prog 44 (mkE p44 r44 false f44)) (h107 : OK Proofs.Tryz.prog 107 (mkE p107 r107 false f107)) : OK Proofs.Tryz.prog 52 (mkE p52 r52 false (F52 f69 f75 f44 f107)) :=
  fn_ok tab_ok2 (envL_ok (l := [(69, mkE p69 r69 false f69), (75, mkE p75 r75 false f75), (44, mkE p44 r44 false f44), (107, mkE p107 r107 false f107)]) (OKs.cons h69 (OKs.cons h75 (OKs.cons h44 (OKs.cons h107 OKs.nil))))) mixed2 (ann := (fun _ => false)) (L := L52 f69 f75 f44 f107) (fn := Proofs.Tryz.f52) (c := bodyC Proofs.Tryz.f52) (ls := [(0, loopC Proofs.Tryz.f52 0)]) Proofs.Tryz.func52 (by kernel_rfl) (by kernel_rfl) (by kernel_rfl) (by kernel_rfl)
    (LoopsP.cons q52_0 (s52_0 f69 f75 f44 f107) rfl (e52_0 f69 f75 f44 f107) LoopsP.nil) (e52 f69 f75 f44 f107)
/-! impl.WetDrops -/
def p51 : List SP := [.agg [.r .device, .r .cue, .r .gust, .int .i64], .t .box]
def r51 : List SP := [.one (.o 0 .drop)]
def q51_0 : List SP := pat 31 0 [(3, .boxt 5000001 .box), (5, .one (.o 5000002 .drop)), (14, .one (.o 5000003 .drop)), (15, .one (.int .i64)), (16, .one (.int .i64))]
noncomputable def s51_0 (f50 : Box × Unit → Option (Bool × Unit)) (f16 : ShD × Unit → Option (List Drop × Unit)) (f23 : Box × Place × Unit → Option (Bool × Unit)) (t3 : Box × List Drop × List Drop × Int × Int × Unit) (rec K : Box × List Drop × List Drop × Int × Int × Unit → Option (List Drop × Unit)) : Option (List Drop × Unit) :=
  cond (decide (t3.2.2.2.2.1 < t3.2.2.2.1)) (rdL t3.2.2.1 t3.2.2.2.2.1 fun _ => (t3.2.2.1[(Int.toNat t3.2.2.2.2.1)]?).bind fun d4 => (f23 (t3.1, d4.At, ())).bind fun x5 => cond (!x5.1) (capK (List.length t3.2.1 + List.length ([d4] : List Drop)) (rec (t3.1, (t3.2.1 ++ ([d4] : List Drop)), t3.2.2.1, t3.2.2.2.1, (w64 (t3.2.2.2.2.1 + 1)), ()))) (rec (t3.1, t3.2.1, t3.2.2.1, t3.2.2.2.1, (w64 (t3.2.2.2.2.1 + 1)), ()))) (K (t3.1, t3.2.1, t3.2.2.1, t3.2.2.2.1, t3.2.2.2.2.1, ()))
noncomputable def F51 (f50 : Box × Unit → Option (Bool × Unit)) (f16 : ShD × Unit → Option (List Drop × Unit)) (f23 : Box × Place × Unit → Option (Bool × Unit)) (a : ShD × Box × Unit) : Option (List Drop × Unit) :=
  (f50 (a.2.1, ())).bind fun x1 => cond (!x1.1) (some (([] : List Drop), ())) ((f16 ((a.1.1, a.1.2.1, a.1.2.2.1, a.1.2.2.2.1, ()), ())).bind fun x2 => iterF (s51_0 f50 f16 f23) fuel (a.2.1, ([] : List Drop), x2.1, (Int.ofNat (List.length x2.1)), 0, ()) fun t6 => some (t6.2.1, ()))
def E51 (f50 : Box × Unit → Option (Bool × Unit)) (f16 : ShD × Unit → Option (List Drop × Unit)) (f23 : Box × Place × Unit → Option (Bool × Unit)) : Env := envL [(50, mkE p50 r50 false f50), (16, mkE p16 r16 false f16), (23, mkE p23 r23 false f23)]
noncomputable def L51 (f50 : Box × Unit → Option (Bool × Unit)) (f16 : ShD × Unit → Option (List Drop × Unit)) (f23 : Box × Place × Unit → Option (Bool × Unit)) : LEnv (densS (muts p51 ++ r51)) := lenv [(0, loopL (R := densS (muts p51 ++ r51)) q51_0 (s51_0 f50 f16 f23))]
theorem e51_0 (f50 : Box × Unit → Option (Bool × Unit)) (f16 : ShD × Unit → Option (List Drop × Unit)) (f23 : Box × Place × Unit → Option (Bool × Unit)) (X : Nat → St → Option (densS (muts p51 ++ r51))) (rec K : densS q51_0 → Option (densS (muts p51 ++ r51))) (t : densS q51_0) :
    ev (E51 f50 f16 f23) tab2 (fun _ => false) (L51 f50 f16 f23) (retK tab2 p51 r51 Proofs.Tryz.f51.results.toList) (loopC Proofs.Tryz.f51 0) (fun i s => cond (Nat.beq i 0) (decK 100 q51_0 s K) (X i s)) (fun s => decK 100 q51_0 s rec) (enc q51_0 t) = s51_0 f50 f16 f23 t rec K := by kernel_rfl
theorem e51 (f50 : Box × Unit → Option (Bool × Unit)) (f16 : ShD × Unit → Option (List Drop × Unit)) (f23 : Box × Place × Unit → Option (Bool × Unit)) (a : densS p51) : runF (E51 f50 f16 f23) tab2 (fun _ => false) p51 r51 Proofs.Tryz.f51 (L51 f50 f16 f23) a = F51 f50 f16 f23 a := by kernel_rfl
theorem ok51 {f50 : Box × Unit → Option (Bool × Unit)} {f16 : ShD × Unit → Option (List Drop × Unit)} {f23 : Box × Place × Unit → Option (Bool × Unit)} (h50 : OK Proofs.Tryz.prog 50 (mkE p50 r50 false f50)) (h16 : OK Proofs.Tryz.prog 16 (mkE p16 r16 false f16)) (h23 : OK Proofs.Tryz.prog 23 (mkE p23 r23 false f23)) : OK Proofs.Tryz.prog 51 (mkE p51 r51 false (F51 f50 f16 f23)) :=
  fn_ok tab_ok2 (envL_ok (l := [(50, mkE p50 r50 false f50), (16, mkE p16 r16 false f16), (23, mkE p23 r23 false f23)]) (OKs.cons h50 (OKs.cons h16 (OKs.cons h23 OKs.nil)))) mixed2 (ann := (fun _ => false)) (L := L51 f50 f16 f23) (fn := Proofs.Tryz.f51) (c := bodyC Proofs.Tryz.f51) (ls := [(0, loopC Proofs.Tryz.f51 0)]) Proofs.Tryz.func51 (by kernel_rfl) (by kernel_rfl) (by kernel_rfl) (by kernel_rfl)
    (LoopsP.cons q51_0 (s51_0 f50 f16 f23) rfl (e51_0 f50 f16 f23) LoopsP.nil) (e51 f50 f16 f23)
/-! impl.IsDry -/
def p30 : List SP := [.agg [.r .device, .r .cue, .r .gust, .int .i64], .t .box]
def r30 : List SP := [.one (.bool)]
noncomputable def F30 (f39 : ShD × Unit → Option (Bool × Unit)) (f50 : Box × Unit → Option (Bool × Unit)) (f51 : ShD × Box × Unit → Option (List Drop × Unit)) (a : ShD × Box × Unit) : Option (Bool × Unit) :=
  (f39 ((a.1.1, a.1.2.1, a.1.2.2.1, a.1.2.2.2.1, ()), ())).bind fun x1 => cond x1.1 ((f50 (a.2.1, ())).bind fun x2 => cond x2.1 ((f51 ((a.1.1, a.1.2.1, a.1.2.2.1, a.1.2.2.2.1, ()), a.2.1, ())).bind fun x3 => some ((decide ((Int.ofNat (List.length x3.1)) = 0)), ())) (some (false, ()))) (some (false, ()))
def E30 (f39 : ShD × Unit → Option (Bool × Unit)) (f50 : Box × Unit → Option (Bool × Unit)) (f51 : ShD × Box × Unit → Option (List Drop × Unit)) : Env := envL [(39, mkE p39 r39 false f39), (50, mkE p50 r50 false f50), (51, mkE p51 r51 false f51)]
noncomputable def L30 (f39 : ShD × Unit → Option (Bool × Unit)) (f50 : Box × Unit → Option (Bool × Unit)) (f51 : ShD × Box × Unit → Option (List Drop × Unit)) : LEnv (densS (muts p30 ++ r30)) := lenv []
theorem e30 (f39 : ShD × Unit → Option (Bool × Unit)) (f50 : Box × Unit → Option (Bool × Unit)) (f51 : ShD × Box × Unit → Option (List Drop × Unit)) (a : densS p30) : runF (E30 f39 f50 f51) tab2 (fun _ => false) p30 r30 Proofs.Tryz.f30 (L30 f39 f50 f51) a = F30 f39 f50 f51 a := by kernel_rfl
theorem ok30 {f39 : ShD × Unit → Option (Bool × Unit)} {f50 : Box × Unit → Option (Bool × Unit)} {f51 : ShD × Box × Unit → Option (List Drop × Unit)} (h39 : OK Proofs.Tryz.prog 39 (mkE p39 r39 false f39)) (h50 : OK Proofs.Tryz.prog 50 (mkE p50 r50 false f50)) (h51 : OK Proofs.Tryz.prog 51 (mkE p51 r51 false f51)) : OK Proofs.Tryz.prog 30 (mkE p30 r30 false (F30 f39 f50 f51)) :=
  fn_ok tab_ok2 (envL_ok (l := [(39, mkE p39 r39 false f39), (50, mkE p50 r50 false f50), (51, mkE p51 r51 false f51)]) (OKs.cons h39 (OKs.cons h50 (OKs.cons h51 OKs.nil)))) mixed2 (ann := (fun _ => false)) (L := L30 f39 f50 f51) (fn := Proofs.Tryz.f30) (c := bodyC Proofs.Tryz.f30) (ls := []) Proofs.Tryz.func30 (by kernel_rfl) (by kernel_rfl) (by kernel_rfl) (by kernel_rfl)
    LoopsP.nil (e30 f39 f50 f51)
/-! laws.FnSafe -/
def p11 : List SP := [.one (.r .u8)]
def r11 : List SP := [.one (.bool)]
noncomputable def F11 (f14 : List Int × Unit → Option (Bool × Unit)) (f15 : List Int × Unit → Option (ShD × List Place × Box × List Gust × Unit)) (f39 : ShD × Unit → Option (Bool × Unit)) (f52 : List Gust × List Place × Int × Unit → Option (Bool × Unit)) (f29 : ShD × List Place × Box × Unit → Option (Bool × Unit)) (f30 : ShD × Box × Unit → Option (Bool × Unit)) (a : List Int × Unit) : Option (Bool × Unit) :=
  (f14 (a.1, ())).bind fun x1 => cond x1.1 (some (true, ())) ((f15 (a.1, ())).bind fun x2 => (f39 ((x2.1.1, x2.1.2.1, x2.2.2.2.1, x2.1.2.2.2.1, ()), ())).bind fun x3 => cond (!(!x3.1)) ((f52 (x2.2.2.2.1, x2.2.1, 128, ())).bind fun x4 => cond (!x4.1) (some (false, ())) ((f29 ((x2.1.1, x2.1.2.1, x2.1.2.2.1, x2.1.2.2.2.1, ()), x2.2.1, x2.2.2.1, ())).bind fun x5 => cond (!(!x5.1)) ((f30 ((x2.1.1, x2.1.2.1, x2.2.2.2.1, x2.1.2.2.2.1, ()), x2.2.2.1, ())).bind fun x6 => some (x6.1, ())) (some (true, ())))) (some (false, ())))
def E11 (f14 : List Int × Unit → Option (Bool × Unit)) (f15 : List Int × Unit → Option (ShD × List Place × Box × List Gust × Unit)) (f39 : ShD × Unit → Option (Bool × Unit)) (f52 : List Gust × List Place × Int × Unit → Option (Bool × Unit)) (f29 : ShD × List Place × Box × Unit → Option (Bool × Unit)) (f30 : ShD × Box × Unit → Option (Bool × Unit)) : Env := envL [(14, mkE p14 r14 false f14), (15, mkE p15 r15 true f15), (39, mkE p39 r39 false f39), (52, mkE p52 r52 false f52), (29, mkE p29 r29 false f29), (30, mkE p30 r30 false f30)]
noncomputable def L11 (f14 : List Int × Unit → Option (Bool × Unit)) (f15 : List Int × Unit → Option (ShD × List Place × Box × List Gust × Unit)) (f39 : ShD × Unit → Option (Bool × Unit)) (f52 : List Gust × List Place × Int × Unit → Option (Bool × Unit)) (f29 : ShD × List Place × Box × Unit → Option (Bool × Unit)) (f30 : ShD × Box × Unit → Option (Bool × Unit)) : LEnv (densS (muts p11 ++ r11)) := lenv []
theorem e11 (f14 : List Int × Unit → Option (Bool × Unit)) (f15 : List Int × Unit → Option (ShD × List Place × Box × List Gust × Unit)) (f39 : ShD × Unit → Option (Bool × Unit)) (f52 : List Gust × List Place × Int × Unit → Option (Bool × Unit)) (f29 : ShD × List Place × Box × Unit → Option (Bool × Unit)) (f30 : ShD × Box × Unit → Option (Bool × Unit)) (a : densS p11) : runF (E11 f14 f15 f39 f52 f29 f30) tab2 (fun _ => false) p11 r11 Proofs.Tryz.f11 (L11 f14 f15 f39 f52 f29 f30) a = F11 f14 f15 f39 f52 f29 f30 a := by kernel_rfl
theorem ok11 {f14 : List Int × Unit → Option (Bool × Unit)} {f15 : List Int × Unit → Option (ShD × List Place × Box × List Gust × Unit)} {f39 : ShD × Unit → Option (Bool × Unit)} {f52 : List Gust × List Place × Int × Unit → Option (Bool × Unit)} {f29 : ShD × List Place × Box × Unit → Option (Bool × Unit)} {f30 : ShD × Box × Unit → Option (Bool × Unit)} (h14 : OK Proofs.Tryz.prog 14 (mkE p14 r14 false f14)) (h15 : OK Proofs.Tryz.prog 15 (mkE p15 r15 true f15)) (h39 : OK Proofs.Tryz.prog 39 (mkE p39 r39 false f39)) (h52 : OK Proofs.Tryz.prog 52 (mkE p52 r52 false f52)) (h29 : OK Proofs.Tryz.prog 29 (mkE p29 r29 false f29)) (h30 : OK Proofs.Tryz.prog 30 (mkE p30 r30 false f30)) : OK Proofs.Tryz.prog 11 (mkE p11 r11 false (F11 f14 f15 f39 f52 f29 f30)) :=
  fn_ok tab_ok2 (envL_ok (l := [(14, mkE p14 r14 false f14), (15, mkE p15 r15 true f15), (39, mkE p39 r39 false f39), (52, mkE p52 r52 false f52), (29, mkE p29 r29 false f29), (30, mkE p30 r30 false f30)]) (OKs.cons h14 (OKs.cons h15 (OKs.cons h39 (OKs.cons h52 (OKs.cons h29 (OKs.cons h30 OKs.nil))))))) mixed2 (ann := (fun _ => false)) (L := L11 f14 f15 f39 f52 f29 f30) (fn := Proofs.Tryz.f11) (c := bodyC Proofs.Tryz.f11) (ls := []) Proofs.Tryz.func11 (by kernel_rfl) (by kernel_rfl) (by kernel_rfl) (by kernel_rfl)
    LoopsP.nil (e11 f14 f15 f39 f52 f29 f30)
end Ev
