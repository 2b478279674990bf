/- Functions of the program, as the evaluator sees them. -/
import Derived.Test.YtjdnadolocbjoaaFn2
set_option linter.unusedVariables false
set_option maxRecDepth 100000
namespace Ev
open Go
def tab3 : Tab := [(3, ⟨1, false, 8, [.int .i64 0], [], .int .i64, false⟩),
  (9, ⟨1, false, 16, [.str []], [], .str, false⟩),
  (22, ⟨1, false, 24, [.nils], [], .sl .u8, false⟩),
  (24, ⟨1, false, 24, [.nils], [], .sl .cue, false⟩),
  (37, ⟨2, true, 16, [.int .i64 0, .int .i64 0], [(0, 1, false), (1, 1, false)], .struct, false⟩),
  (39, ⟨8, true, 80, [.str [], .int .i64 0, .str [], .int .i64 0, .int .i64 0, .int .i64 0, .int .i64 0, .int .i64 0], [(0, 1, false), (1, 1, false), (2, 1, false), (3, 2, true), (5, 1, false), (6, 1, false), (7, 1, false)], .struct, true⟩),
  (52, ⟨5, true, 40, [.int .i64 0, .int .i64 0, .int .i64 0, .int .i64 0, .int .i64 0], [(0, 2, true), (2, 1, false), (3, 1, false), (4, 1, false)], .struct, false⟩),
  (54, ⟨1, false, 24, [.nils], [], .sl .device, false⟩),
  (55, ⟨1, false, 24, [.nils], [], .sl .gust, false⟩),
  (57, ⟨4, true, 80, [.nils, .nils, .nils, .int .i64 0], [(0, 1, false), (1, 1, false), (2, 1, false), (3, 1, false)], .struct, false⟩),
  (66, ⟨1, false, 24, [.nils], [], .sl .drop, false⟩),
  (70, ⟨5, true, 48, [.str [], .int .i64 0, .int .i64 0, .int .i64 0, .int .i64 0], [(0, 1, false), (1, 1, false), (2, 2, true), (4, 1, false)], .struct, true⟩),
  (124, ⟨1, false, 24, [.nils], [], .sl .throw, false⟩),
  (127, ⟨7, true, 64, [.str [], .int .i64 0, .int .i64 0, .int .i64 0, .int .i64 0, .int .i64 0, .int .i64 0], [(0, 1, false), (1, 1, false), (2, 5, true)], .struct, false⟩),
  (171, ⟨3, true, 24, [.int .i64 0, .int .i64 0, .int .i64 0], [(0, 1, false), (1, 2, true)], .struct, false⟩)]
theorem tab_ok3 : TabOK Proofs.Try.prog tab3 := tab_of2 (by kernel_rfl) (by kernel_rfl)
theorem mixed3 : Proofs.Try.prog.follows .mixedOrders = true := by kernel_rfl
/-! slices.Clone[[]impl.Device,impl.Device] -/
def p141 : List SP := [.one (.r .device)]
def r141 : List SP := [.one (.o 0 .device)]
noncomputable def F141 (a : List Device × Unit) : Option (List Device × Unit) :=
  emptyK (List.isEmpty a.1) (some ([], ())) (capK (List.length ([] : List Device) + List.length a.1) (some ((([] : List Device) ++ a.1), ())))
def E141 : Env := envL []
noncomputable def L141 : LEnv (densS (muts p141 ++ r141)) := lenv []
theorem e141 (a : densS p141) : runF (E141) tab3 (fun _ => false) p141 r141 Proofs.Try.f141 (L141) a = F141 a := by kernel_rfl
theorem ok141 : OK Proofs.Try.prog 141 (mkE p141 r141 false (F141)) :=
  fn_ok tab_ok3 (envL_ok (l := []) OKs.nil) mixed3 (ann := (fun _ => false)) (L := L141) (fn := Proofs.Try.f141) (c := bodyC Proofs.Try.f141) (ls := []) Proofs.Try.func141 (by kernel_rfl) (by kernel_rfl) (by kernel_rfl) (by kernel_rfl)
    LoopsP.nil (e141)
/-! impl.checked -/
def p178 : List SP := [.t .place]
def r178 : List SP := [.t .place, .one (.bool)]
noncomputable def F178 (f65 : Place × Unit → Option (Bool × Unit)) (a : Place × Unit) : Option (Place × Bool × Unit) :=
  (f65 (a.1, ())).bind fun x1 => cond (!x1.1) (some ((⟨0, 0⟩ : Place), false, ())) (some (a.1, true, ()))
def E178 (f65 : Place × Unit → Option (Bool × Unit)) : Env := envL [(65, mkE p65 r65 false f65)]
noncomputable def L178 (f65 : Place × Unit → Option (Bool × Unit)) : LEnv (densS (muts p178 ++ r178)) := lenv []
theorem e178 (f65 : Place × Unit → Option (Bool × Unit)) (a : densS p178) : runF (E178 f65) tab3 (fun _ => false) p178 r178 Proofs.Try.f178 (L178 f65) a = F178 f65 a := by kernel_rfl
theorem ok178 {f65 : Place × Unit → Option (Bool × Unit)} (h65 : OK Proofs.Try.prog 65 (mkE p65 r65 false f65)) : OK Proofs.Try.prog 178 (mkE p178 r178 false (F178 f65)) :=
  fn_ok tab_ok3 (envL_ok (l := [(65, mkE p65 r65 false f65)]) (OKs.cons h65 OKs.nil)) mixed3 (ann := (fun _ => false)) (L := L178 f65) (fn := Proofs.Try.f178) (c := bodyC Proofs.Try.f178) (ls := []) Proofs.Try.func178 (by kernel_rfl) (by kernel_rfl) (by kernel_rfl) (by kernel_rfl)
    LoopsP.nil (e178 f65)
/-! impl.AddPlaces -/
def p142 : List SP := [.t .place, .t .place]
def r142 : List SP := [.t .place, .one (.bool)]
noncomputable def F142 (f65 : Place × Unit → Option (Bool × Unit)) (f178 : Place × Unit → Option (Place × Bool × Unit)) (a : Place × Place × Unit) : Option (Place × Bool × Unit) :=
  (f65 (a.1, ())).bind fun x1 => cond (!(!x1.1)) ((f65 (a.2.1, ())).bind fun x2 => cond (!x2.1) (some ((⟨0, 0⟩ : Place), false, ())) ((f178 ((⟨(w64 (a.1.X + a.2.1.X)), (w64 (a.1.Y + a.2.1.Y))⟩ : Place), ())).bind fun x3 => some (x3.1, x3.2.1, ()))) (some ((⟨0, 0⟩ : Place), false, ()))
def E142 (f65 : Place × Unit → Option (Bool × Unit)) (f178 : Place × Unit → Option (Place × Bool × Unit)) : Env := envL [(65, mkE p65 r65 false f65), (178, mkE p178 r178 false f178)]
noncomputable def L142 (f65 : Place × Unit → Option (Bool × Unit)) (f178 : Place × Unit → Option (Place × Bool × Unit)) : LEnv (densS (muts p142 ++ r142)) := lenv []
theorem e142 (f65 : Place × Unit → Option (Bool × Unit)) (f178 : Place × Unit → Option (Place × Bool × Unit)) (a : densS p142) : runF (E142 f65 f178) tab3 (fun _ => false) p142 r142 Proofs.Try.f142 (L142 f65 f178) a = F142 f65 f178 a := by kernel_rfl
theorem ok142 {f65 : Place × Unit → Option (Bool × Unit)} {f178 : Place × Unit → Option (Place × Bool × Unit)} (h65 : OK Proofs.Try.prog 65 (mkE p65 r65 false f65)) (h178 : OK Proofs.Try.prog 178 (mkE p178 r178 false f178)) : OK Proofs.Try.prog 142 (mkE p142 r142 false (F142 f65 f178)) :=
  fn_ok tab_ok3 (envL_ok (l := [(65, mkE p65 r65 false f65), (178, mkE p178 r178 false f178)]) (OKs.cons h65 (OKs.cons h178 OKs.nil))) mixed3 (ann := (fun _ => false)) (L := L142 f65 f178) (fn := Proofs.Try.f142) (c := bodyC Proofs.Try.f142) (ls := []) Proofs.Try.func142 (by kernel_rfl) (by kernel_rfl) (by kernel_rfl) (by kernel_rfl)
    LoopsP.nil (e142 f65 f178)
/-! impl.ShiftRig -/
def p81 : List SP := [.one (.r .device), .t .place]
def r81 : List SP := [.one (.o 0 .device), .one (.bool)]
def q81_0 : List SP := pat 57 0 [(3, .boxt 5000001 .place), (6, .one (.o 5000002 .device)), (22, .one (.al 5000002 .device)), (23, .one (.int .i64)), (24, .one (.int .i64))]
noncomputable def s81_0 (f83 : List Device × Unit → Option (Bool × Unit)) (f65 : Place × Unit → Option (Bool × Unit)) (f141 : List Device × Unit → Option (List Device × Unit)) (f142 : Place × Place × Unit → Option (Place × Bool × Unit)) (f20 : Device × Unit → Option (Bool × Unit)) (t4 : Place × List Device × Unit × Int × Int × Unit) (rec K : Place × List Device × Unit × Int × Int × Unit → Option (List Device × Bool × Unit)) : Option (List Device × Bool × Unit) :=
  cond (decide (t4.2.2.2.2.1 < t4.2.2.2.1)) (rdL t4.2.1 t4.2.2.2.2.1 fun _ => (t4.2.1[(Int.toNat t4.2.2.2.2.1)]?).bind fun d5 => cond (decide (d5.Kind = 1)) (rec (t4.1, t4.2.1, (), t4.2.2.2.1, (w64 (t4.2.2.2.2.1 + 1)), ())) ((f142 (d5.At, t4.1, ())).bind fun x6 => rdL t4.2.1 t4.2.2.2.2.1 fun _ => (t4.2.1[(Int.toNat t4.2.2.2.2.1)]?).bind fun d7 => cond (!(!x6.2.1)) (rdL (List.set t4.2.1 (Int.toNat t4.2.2.2.2.1) (⟨d7.Name, d7.Kind, d7.Line, ⟨x6.1.X, x6.1.Y⟩, d7.Heading, d7.Tilt, d7.Most⟩ : Device)) t4.2.2.2.2.1 fun _ => ((List.set t4.2.1 (Int.toNat t4.2.2.2.2.1) (⟨d7.Name, d7.Kind, d7.Line, ⟨x6.1.X, x6.1.Y⟩, d7.Heading, d7.Tilt, d7.Most⟩ : Device))[(Int.toNat t4.2.2.2.2.1)]?).bind fun d8 => (f20 (d8, ())).bind fun x9 => cond (!x9.1) (some (([] : List Device), false, ())) (rec (t4.1, (List.set t4.2.1 (Int.toNat t4.2.2.2.2.1) (⟨d7.Name, d7.Kind, d7.Line, ⟨x6.1.X, x6.1.Y⟩, d7.Heading, d7.Tilt, d7.Most⟩ : Device)), (), t4.2.2.2.1, (w64 (t4.2.2.2.2.1 + 1)), ()))) (some (([] : List Device), false, ())))) (K (t4.1, t4.2.1, (), t4.2.2.2.1, t4.2.2.2.2.1, ()))
noncomputable def F81 (f83 : List Device × Unit → Option (Bool × Unit)) (f65 : Place × Unit → Option (Bool × Unit)) (f141 : List Device × Unit → Option (List Device × Unit)) (f142 : Place × Place × Unit → Option (Place × Bool × Unit)) (f20 : Device × Unit → Option (Bool × Unit)) (a : List Device × Place × Unit) : Option (List Device × Bool × Unit) :=
  (f83 (a.1, ())).bind fun x1 => cond (!(!x1.1)) ((f65 (a.2.1, ())).bind fun x2 => cond (!x2.1) (some (([] : List Device), false, ())) ((f141 (a.1, ())).bind fun x3 => iterF (s81_0 f83 f65 f141 f142 f20) fuel (a.2.1, x3.1, (), (Int.ofNat (List.length x3.1)), 0, ()) fun t10 => some (t10.2.1, true, ()))) (some (([] : List Device), false, ()))
def E81 (f83 : List Device × Unit → Option (Bool × Unit)) (f65 : Place × Unit → Option (Bool × Unit)) (f141 : List Device × Unit → Option (List Device × Unit)) (f142 : Place × Place × Unit → Option (Place × Bool × Unit)) (f20 : Device × Unit → Option (Bool × Unit)) : Env := envL [(83, mkE p83 r83 false f83), (65, mkE p65 r65 false f65), (141, mkE p141 r141 false f141), (142, mkE p142 r142 false f142), (20, mkE p20 r20 false f20)]
noncomputable def L81 (f83 : List Device × Unit → Option (Bool × Unit)) (f65 : Place × Unit → Option (Bool × Unit)) (f141 : List Device × Unit → Option (List Device × Unit)) (f142 : Place × Place × Unit → Option (Place × Bool × Unit)) (f20 : Device × Unit → Option (Bool × Unit)) : LEnv (densS (muts p81 ++ r81)) := lenv [(0, loopL (R := densS (muts p81 ++ r81)) q81_0 (s81_0 f83 f65 f141 f142 f20))]
theorem e81_0 (f83 : List Device × Unit → Option (Bool × Unit)) (f65 : Place × Unit → Option (Bool × Unit)) (f141 : List Device × Unit → Option (List Device × Unit)) (f142 : Place × Place × Unit → Option (Place × Bool × Unit)) (f20 : Device × Unit → Option (Bool × Unit)) (X : Nat → St → Option (densS (muts p81 ++ r81))) (rec K : densS q81_0 → Option (densS (muts p81 ++ r81))) (t : densS q81_0) :
    ev (E81 f83 f65 f141 f142 f20) tab3 (fun _ => false) (L81 f83 f65 f141 f142 f20) (retK tab3 p81 r81 Proofs.Try.f81.results.toList) (loopC Proofs.Try.f81 0) (fun i s => cond (Nat.beq i 0) (decK 100 q81_0 s K) (X i s)) (fun s => decK 100 q81_0 s rec) (enc q81_0 t) = s81_0 f83 f65 f141 f142 f20 t rec K := by kernel_rfl
theorem e81 (f83 : List Device × Unit → Option (Bool × Unit)) (f65 : Place × Unit → Option (Bool × Unit)) (f141 : List Device × Unit → Option (List Device × Unit)) (f142 : Place × Place × Unit → Option (Place × Bool × Unit)) (f20 : Device × Unit → Option (Bool × Unit)) (a : densS p81) : runF (E81 f83 f65 f141 f142 f20) tab3 (fun _ => false) p81 r81 Proofs.Try.f81 (L81 f83 f65 f141 f142 f20) a = F81 f83 f65 f141 f142 f20 a := by kernel_rfl
theorem ok81 {f83 : List Device × Unit → Option (Bool × Unit)} {f65 : Place × Unit → Option (Bool × Unit)} {f141 : List Device × Unit → Option (List Device × Unit)} {f142 : Place × Place × Unit → Option (Place × Bool × Unit)} {f20 : Device × Unit → Option (Bool × Unit)} (h83 : OK Proofs.Try.prog 83 (mkE p83 r83 false f83)) (h65 : OK Proofs.Try.prog 65 (mkE p65 r65 false f65)) (h141 : OK Proofs.Try.prog 141 (mkE p141 r141 false f141)) (h142 : OK Proofs.Try.prog 142 (mkE p142 r142 false f142)) (h20 : OK Proofs.Try.prog 20 (mkE p20 r20 false f20)) : OK Proofs.Try.prog 81 (mkE p81 r81 false (F81 f83 f65 f141 f142 f20)) :=
  fn_ok tab_ok3 (envL_ok (l := [(83, mkE p83 r83 false f83), (65, mkE p65 r65 false f65), (141, mkE p141 r141 false f141), (142, mkE p142 r142 false f142), (20, mkE p20 r20 false f20)]) (OKs.cons h83 (OKs.cons h65 (OKs.cons h141 (OKs.cons h142 (OKs.cons h20 OKs.nil)))))) mixed3 (ann := (fun _ => false)) (L := L81 f83 f65 f141 f142 f20) (fn := Proofs.Try.f81) (c := bodyC Proofs.Try.f81) (ls := [(0, loopC Proofs.Try.f81 0)]) Proofs.Try.func81 (by kernel_rfl) (by kernel_rfl) (by kernel_rfl) (by kernel_rfl)
    (LoopsP.cons q81_0 (s81_0 f83 f65 f141 f142 f20) rfl (e81_0 f83 f65 f141 f142 f20) LoopsP.nil) (e81 f83 f65 f141 f142 f20)
/-! slices.Clone[[]impl.Gust,impl.Gust] -/
def p143 : List SP := [.one (.r .gust)]
def r143 : List SP := [.one (.o 0 .gust)]
noncomputable def F143 (a : List Gust × Unit) : Option (List Gust × Unit) :=
  emptyK (List.isEmpty a.1) (some ([], ())) (capK (List.length ([] : List Gust) + List.length a.1) (some ((([] : List Gust) ++ a.1), ())))
def E143 : Env := envL []
noncomputable def L143 : LEnv (densS (muts p143 ++ r143)) := lenv []
theorem e143 (a : densS p143) : runF (E143) tab3 (fun _ => false) p143 r143 Proofs.Try.f143 (L143) a = F143 a := by kernel_rfl
theorem ok143 : OK Proofs.Try.prog 143 (mkE p143 r143 false (F143)) :=
  fn_ok tab_ok3 (envL_ok (l := []) OKs.nil) mixed3 (ann := (fun _ => false)) (L := L143) (fn := Proofs.Try.f143) (c := bodyC Proofs.Try.f143) (ls := []) Proofs.Try.func143 (by kernel_rfl) (by kernel_rfl) (by kernel_rfl) (by kernel_rfl)
    LoopsP.nil (e143)
/-! impl.cloneShow -/
def p82 : List SP := [.agg [.r .device, .r .cue, .r .gust, .int .i64]]
def r82 : List SP := [.agg [.o 0 .device, .o 1 .cue, .o 2 .gust, .int .i64]]
noncomputable def F82 (f141 : List Device × Unit → Option (List Device × Unit)) (f54 : List Cue × Unit → Option (List Cue × Unit)) (f143 : List Gust × Unit → Option (List Gust × Unit)) (a : (List Device × List Cue × List Gust × Int × Unit) × Unit) : Option ((List Device × List Cue × List Gust × Int × Unit) × Unit) :=
  (f141 (a.1.1, ())).bind fun x1 => (f54 (a.1.2.1, ())).bind fun x2 => (f143 (a.1.2.2.1, ())).bind fun x3 => some ((x1.1, x2.1, x3.1, a.1.2.2.2.1, ()), ())
def E82 (f141 : List Device × Unit → Option (List Device × Unit)) (f54 : List Cue × Unit → Option (List Cue × Unit)) (f143 : List Gust × Unit → Option (List Gust × Unit)) : Env := envL [(141, mkE p141 r141 false f141), (54, mkE p54 r54 false f54), (143, mkE p143 r143 false f143)]
noncomputable def L82 (f141 : List Device × Unit → Option (List Device × Unit)) (f54 : List Cue × Unit → Option (List Cue × Unit)) (f143 : List Gust × Unit → Option (List Gust × Unit)) : LEnv (densS (muts p82 ++ r82)) := lenv []
theorem e82 (f141 : List Device × Unit → Option (List Device × Unit)) (f54 : List Cue × Unit → Option (List Cue × Unit)) (f143 : List Gust × Unit → Option (List Gust × Unit)) (a : densS p82) : runF (E82 f141 f54 f143) tab3 (fun _ => false) p82 r82 Proofs.Try.f82 (L82 f141 f54 f143) a = F82 f141 f54 f143 a := by kernel_rfl
theorem ok82 {f141 : List Device × Unit → Option (List Device × Unit)} {f54 : List Cue × Unit → Option (List Cue × Unit)} {f143 : List Gust × Unit → Option (List Gust × Unit)} (h141 : OK Proofs.Try.prog 141 (mkE p141 r141 false f141)) (h54 : OK Proofs.Try.prog 54 (mkE p54 r54 false f54)) (h143 : OK Proofs.Try.prog 143 (mkE p143 r143 false f143)) : OK Proofs.Try.prog 82 (mkE p82 r82 false (F82 f141 f54 f143)) :=
  fn_ok tab_ok3 (envL_ok (l := [(141, mkE p141 r141 false f141), (54, mkE p54 r54 false f54), (143, mkE p143 r143 false f143)]) (OKs.cons h141 (OKs.cons h54 (OKs.cons h143 OKs.nil)))) mixed3 (ann := (fun _ => false)) (L := L82 f141 f54 f143) (fn := Proofs.Try.f82) (c := bodyC Proofs.Try.f82) (ls := []) Proofs.Try.func82 (by kernel_rfl) (by kernel_rfl) (by kernel_rfl) (by kernel_rfl)
    LoopsP.nil (e82 f141 f54 f143)
/-! impl.ShiftShow -/
def p30 : List SP := [.agg [.r .device, .r .cue, .r .gust, .int .i64], .t .place]
def r30 : List SP := [.agg [.o 0 .device, .o 1 .cue, .o 2 .gust, .int .i64], .one (.bool)]
noncomputable def F30 (f81 : List Device × Place × Unit → Option (List Device × Bool × Unit)) (f31 : (List Device × List Cue × List Gust × Int × Unit) × Unit → Option (Bool × Unit)) (f82 : (List Device × List Cue × List Gust × Int × Unit) × Unit → Option ((List Device × List Cue × List Gust × Int × Unit) × Unit)) (a : (List Device × List Cue × List Gust × Int × Unit) × Place × Unit) : Option ((List Device × List Cue × List Gust × Int × Unit) × Bool × Unit) :=
  (f81 (a.1.1, a.2.1, ())).bind fun x1 => (f31 ((a.1.1, a.1.2.1, a.1.2.2.1, a.1.2.2.2.1, ()), ())).bind fun x2 => cond (!(!x2.1)) (cond (!x1.2.1) (some (([], [], [], 0, ()), false, ())) ((f82 ((a.1.1, a.1.2.1, a.1.2.2.1, a.1.2.2.2.1, ()), ())).bind fun x3 => some ((x1.1, x3.1.2.1, x3.1.2.2.1, x3.1.2.2.2.1, ()), true, ()))) (some (([], [], [], 0, ()), false, ()))
def E30 (f81 : List Device × Place × Unit → Option (List Device × Bool × Unit)) (f31 : (List Device × List Cue × List Gust × Int × Unit) × Unit → Option (Bool × Unit)) (f82 : (List Device × List Cue × List Gust × Int × Unit) × Unit → Option ((List Device × List Cue × List Gust × Int × Unit) × Unit)) : Env := envL [(81, mkE p81 r81 false f81), (31, mkE p31 r31 false f31), (82, mkE p82 r82 false f82)]
noncomputable def L30 (f81 : List Device × Place × Unit → Option (List Device × Bool × Unit)) (f31 : (List Device × List Cue × List Gust × Int × Unit) × Unit → Option (Bool × Unit)) (f82 : (List Device × List Cue × List Gust × Int × Unit) × Unit → Option ((List Device × List Cue × List Gust × Int × Unit) × Unit)) : LEnv (densS (muts p30 ++ r30)) := lenv []
theorem e30 (f81 : List Device × Place × Unit → Option (List Device × Bool × Unit)) (f31 : (List Device × List Cue × List Gust × Int × Unit) × Unit → Option (Bool × Unit)) (f82 : (List Device × List Cue × List Gust × Int × Unit) × Unit → Option ((List Device × List Cue × List Gust × Int × Unit) × Unit)) (a : densS p30) : runF (E30 f81 f31 f82) tab3 (fun _ => false) p30 r30 Proofs.Try.f30 (L30 f81 f31 f82) a = F30 f81 f31 f82 a := by kernel_rfl
theorem ok30 {f81 : List Device × Place × Unit → Option (List Device × Bool × Unit)} {f31 : (List Device × List Cue × List Gust × Int × Unit) × Unit → Option (Bool × Unit)} {f82 : (List Device × List Cue × List Gust × Int × Unit) × Unit → Option ((List Device × List Cue × List Gust × Int × Unit) × Unit)} (h81 : OK Proofs.Try.prog 81 (mkE p81 r81 false f81)) (h31 : OK Proofs.Try.prog 31 (mkE p31 r31 false f31)) (h82 : OK Proofs.Try.prog 82 (mkE p82 r82 false f82)) : OK Proofs.Try.prog 30 (mkE p30 r30 false (F30 f81 f31 f82)) :=
  fn_ok tab_ok3 (envL_ok (l := [(81, mkE p81 r81 false f81), (31, mkE p31 r31 false f31), (82, mkE p82 r82 false f82)]) (OKs.cons h81 (OKs.cons h31 (OKs.cons h82 OKs.nil)))) mixed3 (ann := (fun _ => false)) (L := L30 f81 f31 f82) (fn := Proofs.Try.f30) (c := bodyC Proofs.Try.f30) (ls := []) Proofs.Try.func30 (by kernel_rfl) (by kernel_rfl) (by kernel_rfl) (by kernel_rfl)
    LoopsP.nil (e30 f81 f31 f82)
/-! impl.FlightOf -/
def p75 : List SP := [.t .jet]
def r75 : List SP := [.one (.int .i64)]
noncomputable def F75 (f64 : Jet × Unit → Option (Bool × Unit)) (a : Jet × Unit) : Option (Int × Unit) :=
  (f64 (a.1, ())).bind fun x1 => cond (!x1.1) (some (0, ())) (some ((w64 (a.1.Lift + 1)), ()))
def E75 (f64 : Jet × Unit → Option (Bool × Unit)) : Env := envL [(64, mkE p64 r64 false f64)]
noncomputable def L75 (f64 : Jet × Unit → Option (Bool × Unit)) : LEnv (densS (muts p75 ++ r75)) := lenv []
theorem e75 (f64 : Jet × Unit → Option (Bool × Unit)) (a : densS p75) : runF (E75 f64) tab3 (fun _ => false) p75 r75 Proofs.Try.f75 (L75 f64) a = F75 f64 a := by kernel_rfl
theorem ok75 {f64 : Jet × Unit → Option (Bool × Unit)} (h64 : OK Proofs.Try.prog 64 (mkE p64 r64 false f64)) : OK Proofs.Try.prog 75 (mkE p75 r75 false (F75 f64)) :=
  fn_ok tab_ok3 (envL_ok (l := [(64, mkE p64 r64 false f64)]) (OKs.cons h64 OKs.nil)) mixed3 (ann := (fun _ => false)) (L := L75 f64) (fn := Proofs.Try.f75) (c := bodyC Proofs.Try.f75) (ls := []) Proofs.Try.func75 (by kernel_rfl) (by kernel_rfl) (by kernel_rfl) (by kernel_rfl)
    LoopsP.nil (e75 f64)
/-! (impl.throw).lands -/
def p86 : List SP := [.t .throw]
def r86 : List SP := [.one (.int .i64)]
noncomputable def F86 (f75 : Jet × Unit → Option (Int × Unit)) (a : Throw × Unit) : Option (Int × Unit) :=
  (f75 (a.1.jet, ())).bind fun x1 => some ((w64 (a.1.born + x1.1)), ())
def E86 (f75 : Jet × Unit → Option (Int × Unit)) : Env := envL [(75, mkE p75 r75 false f75)]
noncomputable def L86 (f75 : Jet × Unit → Option (Int × Unit)) : LEnv (densS (muts p86 ++ r86)) := lenv []
theorem e86 (f75 : Jet × Unit → Option (Int × Unit)) (a : densS p86) : runF (E86 f75) tab3 (fun _ => false) p86 r86 Proofs.Try.f86 (L86 f75) a = F86 f75 a := by kernel_rfl
theorem ok86 {f75 : Jet × Unit → Option (Int × Unit)} (h75 : OK Proofs.Try.prog 75 (mkE p75 r75 false f75)) : OK Proofs.Try.prog 86 (mkE p86 r86 false (F86 f75)) :=
  fn_ok tab_ok3 (envL_ok (l := [(75, mkE p75 r75 false f75)]) (OKs.cons h75 OKs.nil)) mixed3 (ann := (fun _ => false)) (L := L86 f75) (fn := Proofs.Try.f86) (c := bodyC Proofs.Try.f86) (ls := []) Proofs.Try.func86 (by kernel_rfl) (by kernel_rfl) (by kernel_rfl) (by kernel_rfl)
    LoopsP.nil (e86 f75)
/-! impl.isInAir -/
def p175 : List SP := [.t .jet, .one (.int .i64)]
def r175 : List SP := [.one (.bool)]
noncomputable def F175 (f64 : Jet × Unit → Option (Bool × Unit)) (f75 : Jet × Unit → Option (Int × Unit)) (f52 : Int × Int × Int × Unit → Option (Bool × Unit)) (a : Jet × Int × Unit) : Option (Bool × Unit) :=
  (f64 (a.1, ())).bind fun x1 => cond x1.1 ((f75 (a.1, ())).bind fun x2 => (f52 (a.2.1, 0, x2.1, ())).bind fun x3 => some (x3.1, ())) (some (false, ()))
def E175 (f64 : Jet × Unit → Option (Bool × Unit)) (f75 : Jet × Unit → Option (Int × Unit)) (f52 : Int × Int × Int × Unit → Option (Bool × Unit)) : Env := envL [(64, mkE p64 r64 false f64), (75, mkE p75 r75 false f75), (52, mkE p52 r52 false f52)]
noncomputable def L175 (f64 : Jet × Unit → Option (Bool × Unit)) (f75 : Jet × Unit → Option (Int × Unit)) (f52 : Int × Int × Int × Unit → Option (Bool × Unit)) : LEnv (densS (muts p175 ++ r175)) := lenv []
theorem e175 (f64 : Jet × Unit → Option (Bool × Unit)) (f75 : Jet × Unit → Option (Int × Unit)) (f52 : Int × Int × Int × Unit → Option (Bool × Unit)) (a : densS p175) : runF (E175 f64 f75 f52) tab3 (fun _ => false) p175 r175 Proofs.Try.f175 (L175 f64 f75 f52) a = F175 f64 f75 f52 a := by kernel_rfl
theorem ok175 {f64 : Jet × Unit → Option (Bool × Unit)} {f75 : Jet × Unit → Option (Int × Unit)} {f52 : Int × Int × Int × Unit → Option (Bool × Unit)} (h64 : OK Proofs.Try.prog 64 (mkE p64 r64 false f64)) (h75 : OK Proofs.Try.prog 75 (mkE p75 r75 false f75)) (h52 : OK Proofs.Try.prog 52 (mkE p52 r52 false f52)) : OK Proofs.Try.prog 175 (mkE p175 r175 false (F175 f64 f75 f52)) :=
  fn_ok tab_ok3 (envL_ok (l := [(64, mkE p64 r64 false f64), (75, mkE p75 r75 false f75), (52, mkE p52 r52 false f52)]) (OKs.cons h64 (OKs.cons h75 (OKs.cons h52 OKs.nil)))) mixed3 (ann := (fun _ => false)) (L := L175 f64 f75 f52) (fn := Proofs.Try.f175) (c := bodyC Proofs.Try.f175) (ls := []) Proofs.Try.func175 (by kernel_rfl) (by kernel_rfl) (by kernel_rfl) (by kernel_rfl)
    LoopsP.nil (e175 f64 f75 f52)
/-! impl.turns -/
def p197 : List SP := [.one (.int .i64)]
def r197 : List SP := [.one (.int .i64)]
noncomputable def F197 (a : Int × Unit) : Option (Int × Unit) :=
  some ((Int.tmod (w64 ((Int.tmod a.1 4) + 4)) 4), ())
def E197 : Env := envL []
noncomputable def L197 : LEnv (densS (muts p197 ++ r197)) := lenv []
theorem e197 (a : densS p197) : runF (E197) tab3 (fun _ => false) p197 r197 Proofs.Try.f197 (L197) a = F197 a := by kernel_rfl
theorem ok197 : OK Proofs.Try.prog 197 (mkE p197 r197 false (F197)) :=
  fn_ok tab_ok3 (envL_ok (l := []) OKs.nil) mixed3 (ann := (fun _ => false)) (L := L197) (fn := Proofs.Try.f197) (c := bodyC Proofs.Try.f197) (ls := []) Proofs.Try.func197 (by kernel_rfl) (by kernel_rfl) (by kernel_rfl) (by kernel_rfl)
    LoopsP.nil (e197)
/-! impl.turned -/
def p194 : List SP := [.t .place, .one (.int .i64)]
def r194 : List SP := [.t .place]
def q194_0 : List SP := pat 17 0 [(2, .boxt 5000001 .place), (4, .boxt 5000002 .place), (6, .one (.int .i64)), (7, .one (.int .i64))]
noncomputable def s194_0 (f197 : Int × Unit → Option (Int × Unit)) (t2 : Place × Place × Int × Int × Unit) (rec K : Place × Place × Int × Int × Unit → Option (Place × Unit)) : Option (Place × Unit) :=
  cond (decide (t2.2.2.2.1 < t2.2.2.1)) (rec ((⟨(w64 (0 - t2.1.Y)), t2.1.X⟩ : Place), t2.2.1, t2.2.2.1, (w64 (t2.2.2.2.1 + 1)), ())) (K (t2.1, t2.2.1, t2.2.2.1, t2.2.2.2.1, ()))
noncomputable def F194 (f197 : Int × Unit → Option (Int × Unit)) (a : Place × Int × Unit) : Option (Place × Unit) :=
  (f197 (a.2.1, ())).bind fun x1 => iterF (s194_0 f197) fuel (a.1, (⟨0, 0⟩ : Place), x1.1, 0, ()) fun t3 => some (t3.1, ())
def E194 (f197 : Int × Unit → Option (Int × Unit)) : Env := envL [(197, mkE p197 r197 false f197)]
noncomputable def L194 (f197 : Int × Unit → Option (Int × Unit)) : LEnv (densS (muts p194 ++ r194)) := lenv [(0, loopL (R := densS (muts p194 ++ r194)) q194_0 (s194_0 f197))]
theorem e194_0 (f197 : Int × Unit → Option (Int × Unit)) (X : Nat → St → Option (densS (muts p194 ++ r194))) (rec K : densS q194_0 → Option (densS (muts p194 ++ r194))) (t : densS q194_0) :
    ev (E194 f197) tab3 (fun _ => false) (L194 f197) (retK tab3 p194 r194 Proofs.Try.f194.results.toList) (loopC Proofs.Try.f194 0) (fun i s => cond (Nat.beq i 0) (decK 100 q194_0 s K) (X i s)) (fun s => decK 100 q194_0 s rec) (enc q194_0 t) = s194_0 f197 t rec K := by kernel_rfl
theorem e194 (f197 : Int × Unit → Option (Int × Unit)) (a : densS p194) : runF (E194 f197) tab3 (fun _ => false) p194 r194 Proofs.Try.f194 (L194 f197) a = F194 f197 a := by kernel_rfl
theorem ok194 {f197 : Int × Unit → Option (Int × Unit)} (h197 : OK Proofs.Try.prog 197 (mkE p197 r197 false f197)) : OK Proofs.Try.prog 194 (mkE p194 r194 false (F194 f197)) :=
  fn_ok tab_ok3 (envL_ok (l := [(197, mkE p197 r197 false f197)]) (OKs.cons h197 OKs.nil)) mixed3 (ann := (fun _ => false)) (L := L194 f197) (fn := Proofs.Try.f194) (c := bodyC Proofs.Try.f194) (ls := [(0, loopC Proofs.Try.f194 0)]) Proofs.Try.func194 (by kernel_rfl) (by kernel_rfl) (by kernel_rfl) (by kernel_rfl)
    (LoopsP.cons q194_0 (s194_0 f197) rfl (e194_0 f197) LoopsP.nil) (e194 f197)
/-! impl.StepFrom -/
def p176 : List SP := [.t .place, .one (.int .i64), .one (.int .i64)]
def r176 : List SP := [.t .place, .one (.bool)]
noncomputable def F176 (f65 : Place × Unit → Option (Bool × Unit)) (f128 : Int × Unit → Option (Bool × Unit)) (f115 : Int × Unit → Option (Bool × Unit)) (f194 : Place × Int × Unit → Option (Place × Unit)) (f178 : Place × Unit → Option (Place × Bool × Unit)) (a : Place × Int × Int × Unit) : Option (Place × Bool × Unit) :=
  (f65 (a.1, ())).bind fun x1 => cond (!(!x1.1)) ((f128 (a.2.1, ())).bind fun x2 => cond (!(!x2.1)) ((f115 (a.2.2.1, ())).bind fun x3 => cond (!x3.1) (some ((⟨0, 0⟩ : Place), false, ())) ((f194 ((⟨a.2.2.1, 0⟩ : Place), a.2.1, ())).bind fun x4 => (f178 ((⟨(w64 (a.1.X + x4.1.X)), (w64 (a.1.Y + x4.1.Y))⟩ : Place), ())).bind fun x5 => some (x5.1, x5.2.1, ()))) (some ((⟨0, 0⟩ : Place), false, ()))) (some ((⟨0, 0⟩ : Place), false, ()))
def E176 (f65 : Place × Unit → Option (Bool × Unit)) (f128 : Int × Unit → Option (Bool × Unit)) (f115 : Int × Unit → Option (Bool × Unit)) (f194 : Place × Int × Unit → Option (Place × Unit)) (f178 : Place × Unit → Option (Place × Bool × Unit)) : Env := envL [(65, mkE p65 r65 false f65), (128, mkE p128 r128 false f128), (115, mkE p115 r115 false f115), (194, mkE p194 r194 false f194), (178, mkE p178 r178 false f178)]
noncomputable def L176 (f65 : Place × Unit → Option (Bool × Unit)) (f128 : Int × Unit → Option (Bool × Unit)) (f115 : Int × Unit → Option (Bool × Unit)) (f194 : Place × Int × Unit → Option (Place × Unit)) (f178 : Place × Unit → Option (Place × Bool × Unit)) : LEnv (densS (muts p176 ++ r176)) := lenv []
theorem e176 (f65 : Place × Unit → Option (Bool × Unit)) (f128 : Int × Unit → Option (Bool × Unit)) (f115 : Int × Unit → Option (Bool × Unit)) (f194 : Place × Int × Unit → Option (Place × Unit)) (f178 : Place × Unit → Option (Place × Bool × Unit)) (a : densS p176) : runF (E176 f65 f128 f115 f194 f178) tab3 (fun _ => false) p176 r176 Proofs.Try.f176 (L176 f65 f128 f115 f194 f178) a = F176 f65 f128 f115 f194 f178 a := by kernel_rfl
theorem ok176 {f65 : Place × Unit → Option (Bool × Unit)} {f128 : Int × Unit → Option (Bool × Unit)} {f115 : Int × Unit → Option (Bool × Unit)} {f194 : Place × Int × Unit → Option (Place × Unit)} {f178 : Place × Unit → Option (Place × Bool × Unit)} (h65 : OK Proofs.Try.prog 65 (mkE p65 r65 false f65)) (h128 : OK Proofs.Try.prog 128 (mkE p128 r128 false f128)) (h115 : OK Proofs.Try.prog 115 (mkE p115 r115 false f115)) (h194 : OK Proofs.Try.prog 194 (mkE p194 r194 false f194)) (h178 : OK Proofs.Try.prog 178 (mkE p178 r178 false f178)) : OK Proofs.Try.prog 176 (mkE p176 r176 false (F176 f65 f128 f115 f194 f178)) :=
  fn_ok tab_ok3 (envL_ok (l := [(65, mkE p65 r65 false f65), (128, mkE p128 r128 false f128), (115, mkE p115 r115 false f115), (194, mkE p194 r194 false f194), (178, mkE p178 r178 false f178)]) (OKs.cons h65 (OKs.cons h128 (OKs.cons h115 (OKs.cons h194 (OKs.cons h178 OKs.nil)))))) mixed3 (ann := (fun _ => false)) (L := L176 f65 f128 f115 f194 f178) (fn := Proofs.Try.f176) (c := bodyC Proofs.Try.f176) (ls := []) Proofs.Try.func176 (by kernel_rfl) (by kernel_rfl) (by kernel_rfl) (by kernel_rfl)
    LoopsP.nil (e176 f65 f128 f115 f194 f178)
/-! impl.PlaceAt -/
def p133 : List SP := [.t .jet, .one (.int .i64)]
def r133 : List SP := [.t .place, .one (.bool)]
noncomputable def F133 (f175 : Jet × Int × Unit → Option (Bool × Unit)) (f176 : Place × Int × Int × Unit → Option (Place × Bool × Unit)) (a : Jet × Int × Unit) : Option (Place × Bool × Unit) :=
  (f175 (a.1, a.2.1, ())).bind fun x1 => cond (!x1.1) (some ((⟨0, 0⟩ : Place), false, ())) ((f176 (a.1.At, a.1.Heading, (w64 (a.2.1 * a.1.Tilt)), ())).bind fun x2 => some (x2.1, x2.2.1, ()))
def E133 (f175 : Jet × Int × Unit → Option (Bool × Unit)) (f176 : Place × Int × Int × Unit → Option (Place × Bool × Unit)) : Env := envL [(175, mkE p175 r175 false f175), (176, mkE p176 r176 false f176)]
noncomputable def L133 (f175 : Jet × Int × Unit → Option (Bool × Unit)) (f176 : Place × Int × Int × Unit → Option (Place × Bool × Unit)) : LEnv (densS (muts p133 ++ r133)) := lenv []
theorem e133 (f175 : Jet × Int × Unit → Option (Bool × Unit)) (f176 : Place × Int × Int × Unit → Option (Place × Bool × Unit)) (a : densS p133) : runF (E133 f175 f176) tab3 (fun _ => false) p133 r133 Proofs.Try.f133 (L133 f175 f176) a = F133 f175 f176 a := by kernel_rfl
theorem ok133 {f175 : Jet × Int × Unit → Option (Bool × Unit)} {f176 : Place × Int × Int × Unit → Option (Place × Bool × Unit)} (h175 : OK Proofs.Try.prog 175 (mkE p175 r175 false f175)) (h176 : OK Proofs.Try.prog 176 (mkE p176 r176 false f176)) : OK Proofs.Try.prog 133 (mkE p133 r133 false (F133 f175 f176)) :=
  fn_ok tab_ok3 (envL_ok (l := [(175, mkE p175 r175 false f175), (176, mkE p176 r176 false f176)]) (OKs.cons h175 (OKs.cons h176 OKs.nil))) mixed3 (ann := (fun _ => false)) (L := L133 f175 f176) (fn := Proofs.Try.f133) (c := bodyC Proofs.Try.f133) (ls := []) Proofs.Try.func133 (by kernel_rfl) (by kernel_rfl) (by kernel_rfl) (by kernel_rfl)
    LoopsP.nil (e133 f175 f176)
/-! impl.DriftAt -/
def p179 : List SP := [.one (.r .gust), .one (.int .i64)]
def r179 : List SP := [.t .place]
def q179_0 : List SP := pat 27 0 [(1, .one (.int .i64)), (4, .boxt 5000001 .place), (5, .boxt 5000002 .place), (13, .one (.r .gust)), (14, .one (.int .i64)), (15, .one (.int .i64))]
noncomputable def s179_0 (f84 : List Gust × Unit → Option (Bool × Unit)) (t2 : Int × Place × Place × List Gust × Int × Int × Unit) (rec K : Int × Place × Place × List Gust × Int × Int × Unit → Option (Place × Unit)) : Option (Place × Unit) :=
  cond (decide (t2.2.2.2.2.2.1 < t2.2.2.2.2.1)) (rdL t2.2.2.2.1 t2.2.2.2.2.2.1 fun d3 => cond (decide (d3.From ≤ t2.1)) (rec (t2.1, t2.2.1, d3.Drift, t2.2.2.2.1, t2.2.2.2.2.1, (w64 (t2.2.2.2.2.2.1 + 1)), ())) (rec (t2.1, t2.2.1, t2.2.2.1, t2.2.2.2.1, t2.2.2.2.2.1, (w64 (t2.2.2.2.2.2.1 + 1)), ()))) (K (t2.1, t2.2.1, t2.2.2.1, t2.2.2.2.1, t2.2.2.2.2.1, t2.2.2.2.2.2.1, ()))
noncomputable def F179 (f84 : List Gust × Unit → Option (Bool × Unit)) (a : List Gust × Int × Unit) : Option (Place × Unit) :=
  (f84 (a.1, ())).bind fun x1 => cond (!x1.1) (some ((⟨0, 0⟩ : Place), ())) (iterF (s179_0 f84) fuel (a.2.1, (⟨0, 0⟩ : Place), (⟨0, 0⟩ : Place), a.1, (Int.ofNat (List.length a.1)), 0, ()) fun t4 => some (t4.2.2.1, ()))
def E179 (f84 : List Gust × Unit → Option (Bool × Unit)) : Env := envL [(84, mkE p84 r84 false f84)]
noncomputable def L179 (f84 : List Gust × Unit → Option (Bool × Unit)) : LEnv (densS (muts p179 ++ r179)) := lenv [(0, loopL (R := densS (muts p179 ++ r179)) q179_0 (s179_0 f84))]
theorem e179_0 (f84 : List Gust × Unit → Option (Bool × Unit)) (X : Nat → St → Option (densS (muts p179 ++ r179))) (rec K : densS q179_0 → Option (densS (muts p179 ++ r179))) (t : densS q179_0) :
    ev (E179 f84) tab3 (fun _ => false) (L179 f84) (retK tab3 p179 r179 Proofs.Try.f179.results.toList) (loopC Proofs.Try.f179 0) (fun i s => cond (Nat.beq i 0) (decK 100 q179_0 s K) (X i s)) (fun s => decK 100 q179_0 s rec) (enc q179_0 t) = s179_0 f84 t rec K := by kernel_rfl
theorem e179 (f84 : List Gust × Unit → Option (Bool × Unit)) (a : densS p179) : runF (E179 f84) tab3 (fun _ => false) p179 r179 Proofs.Try.f179 (L179 f84) a = F179 f84 a := by kernel_rfl
theorem ok179 {f84 : List Gust × Unit → Option (Bool × Unit)} (h84 : OK Proofs.Try.prog 84 (mkE p84 r84 false f84)) : OK Proofs.Try.prog 179 (mkE p179 r179 false (F179 f84)) :=
  fn_ok tab_ok3 (envL_ok (l := [(84, mkE p84 r84 false f84)]) (OKs.cons h84 OKs.nil)) mixed3 (ann := (fun _ => false)) (L := L179 f84) (fn := Proofs.Try.f179) (c := bodyC Proofs.Try.f179) (ls := [(0, loopC Proofs.Try.f179 0)]) Proofs.Try.func179 (by kernel_rfl) (by kernel_rfl) (by kernel_rfl) (by kernel_rfl)
    (LoopsP.cons q179_0 (s179_0 f84) rfl (e179_0 f84) LoopsP.nil) (e179 f84)
/-! impl.DriftOver -/
def p145 : List SP := [.one (.r .gust), .one (.int .i64), .one (.int .i64)]
def r145 : List SP := [.t .place, .one (.bool)]
def q145_0 : List SP := pat 50 0 [(0, .one (.r .gust)), (2, .one (.int .i64)), (6, .boxt 5000001 .place), (8, .boxt 5000002 .place), (9, .one (.int .i64))]
noncomputable def s145_0 (f84 : List Gust × Unit → Option (Bool × Unit)) (f179 : List Gust × Int × Unit → Option (Place × Unit)) (t2 : List Gust × Int × Place × Place × Int × Unit) (rec K : List Gust × Int × Place × Place × Int × Unit → Option (Place × Bool × Unit)) : Option (Place × Bool × Unit) :=
  cond (decide (t2.2.2.2.2.1 < t2.2.1)) ((f179 (t2.1, t2.2.2.2.2.1, ())).bind fun x3 => rec (t2.1, t2.2.1, t2.2.2.1, (⟨(w64 (t2.2.2.2.1.X + x3.1.X)), (w64 (t2.2.2.2.1.Y + x3.1.Y))⟩ : Place), (w64 (t2.2.2.2.2.1 + 1)), ())) (K (t2.1, t2.2.1, t2.2.2.1, t2.2.2.2.1, t2.2.2.2.2.1, ()))
noncomputable def F145 (f84 : List Gust × Unit → Option (Bool × Unit)) (f179 : List Gust × Int × Unit → Option (Place × Unit)) (a : List Gust × Int × Int × Unit) : Option (Place × Bool × Unit) :=
  (f84 (a.1, ())).bind fun x1 => cond (!(!x1.1)) (cond (!(decide (a.2.1 < 0))) (cond (!(decide (a.2.2.1 < a.2.1))) (cond (decide (a.2.2.1 > 128)) (some ((⟨0, 0⟩ : Place), false, ())) (iterF (s145_0 f84 f179) fuel (a.1, a.2.2.1, (⟨0, 0⟩ : Place), (⟨0, 0⟩ : Place), a.2.1, ()) fun t4 => some (t4.2.2.2.1, true, ()))) (some ((⟨0, 0⟩ : Place), false, ()))) (some ((⟨0, 0⟩ : Place), false, ()))) (some ((⟨0, 0⟩ : Place), false, ()))
def E145 (f84 : List Gust × Unit → Option (Bool × Unit)) (f179 : List Gust × Int × Unit → Option (Place × Unit)) : Env := envL [(84, mkE p84 r84 false f84), (179, mkE p179 r179 false f179)]
noncomputable def L145 (f84 : List Gust × Unit → Option (Bool × Unit)) (f179 : List Gust × Int × Unit → Option (Place × Unit)) : LEnv (densS (muts p145 ++ r145)) := lenv [(0, loopL (R := densS (muts p145 ++ r145)) q145_0 (s145_0 f84 f179))]
theorem e145_0 (f84 : List Gust × Unit → Option (Bool × Unit)) (f179 : List Gust × Int × Unit → Option (Place × Unit)) (X : Nat → St → Option (densS (muts p145 ++ r145))) (rec K : densS q145_0 → Option (densS (muts p145 ++ r145))) (t : densS q145_0) :
    ev (E145 f84 f179) tab3 (fun _ => false) (L145 f84 f179) (retK tab3 p145 r145 Proofs.Try.f145.results.toList) (loopC Proofs.Try.f145 0) (fun i s => cond (Nat.beq i 0) (decK 100 q145_0 s K) (X i s)) (fun s => decK 100 q145_0 s rec) (enc q145_0 t) = s145_0 f84 f179 t rec K := by kernel_rfl
theorem e145 (f84 : List Gust × Unit → Option (Bool × Unit)) (f179 : List Gust × Int × Unit → Option (Place × Unit)) (a : densS p145) : runF (E145 f84 f179) tab3 (fun _ => false) p145 r145 Proofs.Try.f145 (L145 f84 f179) a = F145 f84 f179 a := by kernel_rfl
theorem ok145 {f84 : List Gust × Unit → Option (Bool × Unit)} {f179 : List Gust × Int × Unit → Option (Place × Unit)} (h84 : OK Proofs.Try.prog 84 (mkE p84 r84 false f84)) (h179 : OK Proofs.Try.prog 179 (mkE p179 r179 false f179)) : OK Proofs.Try.prog 145 (mkE p145 r145 false (F145 f84 f179)) :=
  fn_ok tab_ok3 (envL_ok (l := [(84, mkE p84 r84 false f84), (179, mkE p179 r179 false f179)]) (OKs.cons h84 (OKs.cons h179 OKs.nil))) mixed3 (ann := (fun _ => false)) (L := L145 f84 f179) (fn := Proofs.Try.f145) (c := bodyC Proofs.Try.f145) (ls := [(0, loopC Proofs.Try.f145 0)]) Proofs.Try.func145 (by kernel_rfl) (by kernel_rfl) (by kernel_rfl) (by kernel_rfl)
    (LoopsP.cons q145_0 (s145_0 f84 f179) rfl (e145_0 f84 f179) LoopsP.nil) (e145 f84 f179)
/-! impl.HeightAt -/
def p146 : List SP := [.t .jet, .one (.int .i64)]
def r146 : List SP := [.one (.int .i64)]
noncomputable def F146 (f175 : Jet × Int × Unit → Option (Bool × Unit)) (a : Jet × Int × Unit) : Option (Int × Unit) :=
  (f175 (a.1, a.2.1, ())).bind fun x1 => cond (!x1.1) (some (0, ())) (some ((w64 (a.2.1 * (w64 ((w64 (a.1.Lift + 1)) - a.2.1)))), ()))
def E146 (f175 : Jet × Int × Unit → Option (Bool × Unit)) : Env := envL [(175, mkE p175 r175 false f175)]
noncomputable def L146 (f175 : Jet × Int × Unit → Option (Bool × Unit)) : LEnv (densS (muts p146 ++ r146)) := lenv []
theorem e146 (f175 : Jet × Int × Unit → Option (Bool × Unit)) (a : densS p146) : runF (E146 f175) tab3 (fun _ => false) p146 r146 Proofs.Try.f146 (L146 f175) a = F146 f175 a := by kernel_rfl
theorem ok146 {f175 : Jet × Int × Unit → Option (Bool × Unit)} (h175 : OK Proofs.Try.prog 175 (mkE p175 r175 false f175)) : OK Proofs.Try.prog 146 (mkE p146 r146 false (F146 f175)) :=
  fn_ok tab_ok3 (envL_ok (l := [(175, mkE p175 r175 false f175)]) (OKs.cons h175 OKs.nil)) mixed3 (ann := (fun _ => false)) (L := L146 f175) (fn := Proofs.Try.f146) (c := bodyC Proofs.Try.f146) (ls := []) Proofs.Try.func146 (by kernel_rfl) (by kernel_rfl) (by kernel_rfl) (by kernel_rfl)
    LoopsP.nil (e146 f175)
/-! (impl.throw).dropAt -/
def p87 : List SP := [.t .throw, .one (.r .gust), .one (.int .i64)]
def r87 : List SP := [.t .drop]
noncomputable def F87 (f133 : Jet × Int × Unit → Option (Place × Bool × Unit)) (f145 : List Gust × Int × Int × Unit → Option (Place × Bool × Unit)) (f146 : Jet × Int × Unit → Option (Int × Unit)) (a : Throw × List Gust × Int × Unit) : Option (Drop × Unit) :=
  (f133 (a.1.jet, (w64 (a.2.2.1 - a.1.born)), ())).bind fun x1 => (f145 (a.2.1, a.1.born, a.2.2.1, ())).bind fun x2 => (f146 (a.1.jet, (w64 (a.2.2.1 - a.1.born)), ())).bind fun x3 => some ((⟨a.1.name, a.1.born, ⟨(w64 (x1.1.X + x2.1.X)), (w64 (x1.1.Y + x2.1.Y))⟩, x3.1⟩ : Drop), ())
def E87 (f133 : Jet × Int × Unit → Option (Place × Bool × Unit)) (f145 : List Gust × Int × Int × Unit → Option (Place × Bool × Unit)) (f146 : Jet × Int × Unit → Option (Int × Unit)) : Env := envL [(133, mkE p133 r133 false f133), (145, mkE p145 r145 false f145), (146, mkE p146 r146 false f146)]
noncomputable def L87 (f133 : Jet × Int × Unit → Option (Place × Bool × Unit)) (f145 : List Gust × Int × Int × Unit → Option (Place × Bool × Unit)) (f146 : Jet × Int × Unit → Option (Int × Unit)) : LEnv (densS (muts p87 ++ r87)) := lenv []
theorem e87 (f133 : Jet × Int × Unit → Option (Place × Bool × Unit)) (f145 : List Gust × Int × Int × Unit → Option (Place × Bool × Unit)) (f146 : Jet × Int × Unit → Option (Int × Unit)) (a : densS p87) : runF (E87 f133 f145 f146) tab3 (fun _ => false) p87 r87 Proofs.Try.f87 (L87 f133 f145 f146) a = F87 f133 f145 f146 a := by kernel_rfl
theorem ok87 {f133 : Jet × Int × Unit → Option (Place × Bool × Unit)} {f145 : List Gust × Int × Int × Unit → Option (Place × Bool × Unit)} {f146 : Jet × Int × Unit → Option (Int × Unit)} (h133 : OK Proofs.Try.prog 133 (mkE p133 r133 false f133)) (h145 : OK Proofs.Try.prog 145 (mkE p145 r145 false f145)) (h146 : OK Proofs.Try.prog 146 (mkE p146 r146 false f146)) : OK Proofs.Try.prog 87 (mkE p87 r87 false (F87 f133 f145 f146)) :=
  fn_ok tab_ok3 (envL_ok (l := [(133, mkE p133 r133 false f133), (145, mkE p145 r145 false f145), (146, mkE p146 r146 false f146)]) (OKs.cons h133 (OKs.cons h145 (OKs.cons h146 OKs.nil)))) mixed3 (ann := (fun _ => false)) (L := L87 f133 f145 f146) (fn := Proofs.Try.f87) (c := bodyC Proofs.Try.f87) (ls := []) Proofs.Try.func87 (by kernel_rfl) (by kernel_rfl) (by kernel_rfl) (by kernel_rfl)
    LoopsP.nil (e87 f133 f145 f146)
/-! impl.DropsAt -/
def p32 : List SP := [.agg [.r .device, .r .cue, .r .gust, .int .i64], .one (.int .i64)]
def r32 : List SP := [.one (.o 0 .drop)]
def q32_0 : List SP := pat 36 0 [(1, .one (.int .i64)), (2, .box 5000001 [.r .device, .r .cue, .r .gust, .int .i64]), (5, .one (.o 5000002 .drop)), (10, .one (.o 5000003 .throw)), (11, .one (.int .i64)), (12, .one (.int .i64))]
noncomputable def s32_0 (f85 : (List Device × List Cue × List Gust × Int × Unit) × Unit → Option (List Throw × Unit)) (f86 : Throw × Unit → Option (Int × Unit)) (f87 : Throw × List Gust × Int × Unit → Option (Drop × Unit)) (t2 : Int × (List Device × List Cue × List Gust × Int × Unit) × List Drop × List Throw × Int × Int × Unit) (rec K : Int × (List Device × List Cue × List Gust × Int × Unit) × List Drop × List Throw × Int × Int × Unit → Option (List Drop × Unit)) : Option (List Drop × Unit) :=
  cond (decide (t2.2.2.2.2.2.1 < t2.2.2.2.2.1)) (rdL t2.2.2.2.1 t2.2.2.2.2.2.1 fun _ => (t2.2.2.2.1[(Int.toNat t2.2.2.2.2.2.1)]?).bind fun d3 => cond (decide (d3.born ≤ t2.1)) ((f86 (d3, ())).bind fun x4 => cond (decide (t2.1 < x4.1)) ((f87 (d3, t2.2.1.2.2.1, t2.1, ())).bind fun x5 => capK (List.length t2.2.2.1 + List.length ([x5.1] : List Drop)) (rec (t2.1, (t2.2.1.1, t2.2.1.2.1, t2.2.1.2.2.1, t2.2.1.2.2.2.1, ()), (t2.2.2.1 ++ ([x5.1] : List Drop)), t2.2.2.2.1, t2.2.2.2.2.1, (w64 (t2.2.2.2.2.2.1 + 1)), ()))) (rec (t2.1, (t2.2.1.1, t2.2.1.2.1, t2.2.1.2.2.1, t2.2.1.2.2.2.1, ()), t2.2.2.1, t2.2.2.2.1, t2.2.2.2.2.1, (w64 (t2.2.2.2.2.2.1 + 1)), ()))) (rec (t2.1, (t2.2.1.1, t2.2.1.2.1, t2.2.1.2.2.1, t2.2.1.2.2.2.1, ()), t2.2.2.1, t2.2.2.2.1, t2.2.2.2.2.1, (w64 (t2.2.2.2.2.2.1 + 1)), ()))) (K (t2.1, (t2.2.1.1, t2.2.1.2.1, t2.2.1.2.2.1, t2.2.1.2.2.2.1, ()), t2.2.2.1, t2.2.2.2.1, t2.2.2.2.2.1, t2.2.2.2.2.2.1, ()))
noncomputable def F32 (f85 : (List Device × List Cue × List Gust × Int × Unit) × Unit → Option (List Throw × Unit)) (f86 : Throw × Unit → Option (Int × Unit)) (f87 : Throw × List Gust × Int × Unit → Option (Drop × Unit)) (a : (List Device × List Cue × List Gust × Int × Unit) × Int × Unit) : Option (List Drop × Unit) :=
  (f85 ((a.1.1, a.1.2.1, a.1.2.2.1, a.1.2.2.2.1, ()), ())).bind fun x1 => iterF (s32_0 f85 f86 f87) fuel (a.2.1, (a.1.1, a.1.2.1, a.1.2.2.1, a.1.2.2.2.1, ()), ([] : List Drop), x1.1, (Int.ofNat (List.length x1.1)), 0, ()) fun t6 => some (t6.2.2.1, ())
def E32 (f85 : (List Device × List Cue × List Gust × Int × Unit) × Unit → Option (List Throw × Unit)) (f86 : Throw × Unit → Option (Int × Unit)) (f87 : Throw × List Gust × Int × Unit → Option (Drop × Unit)) : Env := envL [(85, mkE p85 r85 false f85), (86, mkE p86 r86 false f86), (87, mkE p87 r87 false f87)]
noncomputable def L32 (f85 : (List Device × List Cue × List Gust × Int × Unit) × Unit → Option (List Throw × Unit)) (f86 : Throw × Unit → Option (Int × Unit)) (f87 : Throw × List Gust × Int × Unit → Option (Drop × Unit)) : LEnv (densS (muts p32 ++ r32)) := lenv [(0, loopL (R := densS (muts p32 ++ r32)) q32_0 (s32_0 f85 f86 f87))]
theorem e32_0 (f85 : (List Device × List Cue × List Gust × Int × Unit) × Unit → Option (List Throw × Unit)) (f86 : Throw × Unit → Option (Int × Unit)) (f87 : Throw × List Gust × Int × Unit → Option (Drop × Unit)) (X : Nat → St → Option (densS (muts p32 ++ r32))) (rec K : densS q32_0 → Option (densS (muts p32 ++ r32))) (t : densS q32_0) :
    ev (E32 f85 f86 f87) tab3 (fun _ => false) (L32 f85 f86 f87) (retK tab3 p32 r32 Proofs.Try.f32.results.toList) (loopC Proofs.Try.f32 0) (fun i s => cond (Nat.beq i 0) (decK 100 q32_0 s K) (X i s)) (fun s => decK 100 q32_0 s rec) (enc q32_0 t) = s32_0 f85 f86 f87 t rec K := by kernel_rfl
theorem e32 (f85 : (List Device × List Cue × List Gust × Int × Unit) × Unit → Option (List Throw × Unit)) (f86 : Throw × Unit → Option (Int × Unit)) (f87 : Throw × List Gust × Int × Unit → Option (Drop × Unit)) (a : densS p32) : runF (E32 f85 f86 f87) tab3 (fun _ => false) p32 r32 Proofs.Try.f32 (L32 f85 f86 f87) a = F32 f85 f86 f87 a := by kernel_rfl
theorem ok32 {f85 : (List Device × List Cue × List Gust × Int × Unit) × Unit → Option (List Throw × Unit)} {f86 : Throw × Unit → Option (Int × Unit)} {f87 : Throw × List Gust × Int × Unit → Option (Drop × Unit)} (h85 : OK Proofs.Try.prog 85 (mkE p85 r85 false f85)) (h86 : OK Proofs.Try.prog 86 (mkE p86 r86 false f86)) (h87 : OK Proofs.Try.prog 87 (mkE p87 r87 false f87)) : OK Proofs.Try.prog 32 (mkE p32 r32 false (F32 f85 f86 f87)) :=
  fn_ok tab_ok3 (envL_ok (l := [(85, mkE p85 r85 false f85), (86, mkE p86 r86 false f86), (87, mkE p87 r87 false f87)]) (OKs.cons h85 (OKs.cons h86 (OKs.cons h87 OKs.nil)))) mixed3 (ann := (fun _ => false)) (L := L32 f85 f86 f87) (fn := Proofs.Try.f32) (c := bodyC Proofs.Try.f32) (ls := [(0, loopC Proofs.Try.f32 0)]) Proofs.Try.func32 (by kernel_rfl) (by kernel_rfl) (by kernel_rfl) (by kernel_rfl)
    (LoopsP.cons q32_0 (s32_0 f85 f86 f87) rfl (e32_0 f85 f86 f87) LoopsP.nil) (e32 f85 f86 f87)
/-! impl.LandingsOf -/
def p33 : List SP := [.agg [.r .device, .r .cue, .r .gust, .int .i64]]
def r33 : List SP := [.one (.o 0 .drop)]
def q33_0 : List SP := pat 25 0 [(1, .box 5000001 [.r .device, .r .cue, .r .gust, .int .i64]), (3, .one (.o 5000002 .drop)), (8, .one (.o 5000003 .throw)), (9, .one (.int .i64)), (10, .one (.int .i64))]
noncomputable def s33_0 (f85 : (List Device × List Cue × List Gust × Int × Unit) × Unit → Option (List Throw × Unit)) (f86 : Throw × Unit → Option (Int × Unit)) (f87 : Throw × List Gust × Int × Unit → Option (Drop × Unit)) (t2 : (List Device × List Cue × List Gust × Int × Unit) × List Drop × List Throw × Int × Int × Unit) (rec K : (List Device × List Cue × List Gust × Int × Unit) × List Drop × List Throw × Int × Int × Unit → Option (List Drop × Unit)) : Option (List Drop × Unit) :=
  cond (decide (t2.2.2.2.2.1 < t2.2.2.2.1)) (rdL t2.2.2.1 t2.2.2.2.2.1 fun _ => (t2.2.2.1[(Int.toNat t2.2.2.2.2.1)]?).bind fun d3 => (f86 (d3, ())).bind fun x4 => (f87 (d3, t2.1.2.2.1, x4.1, ())).bind fun x5 => capK (List.length t2.2.1 + List.length ([x5.1] : List Drop)) (rec ((t2.1.1, t2.1.2.1, t2.1.2.2.1, t2.1.2.2.2.1, ()), (t2.2.1 ++ ([x5.1] : List Drop)), t2.2.2.1, t2.2.2.2.1, (w64 (t2.2.2.2.2.1 + 1)), ()))) (K ((t2.1.1, t2.1.2.1, t2.1.2.2.1, t2.1.2.2.2.1, ()), t2.2.1, t2.2.2.1, t2.2.2.2.1, t2.2.2.2.2.1, ()))
noncomputable def F33 (f85 : (List Device × List Cue × List Gust × Int × Unit) × Unit → Option (List Throw × Unit)) (f86 : Throw × Unit → Option (Int × Unit)) (f87 : Throw × List Gust × Int × Unit → Option (Drop × Unit)) (a : (List Device × List Cue × List Gust × Int × Unit) × Unit) : Option (List Drop × Unit) :=
  (f85 ((a.1.1, a.1.2.1, a.1.2.2.1, a.1.2.2.2.1, ()), ())).bind fun x1 => iterF (s33_0 f85 f86 f87) fuel ((a.1.1, a.1.2.1, a.1.2.2.1, a.1.2.2.2.1, ()), ([] : List Drop), x1.1, (Int.ofNat (List.length x1.1)), 0, ()) fun t6 => some (t6.2.1, ())
def E33 (f85 : (List Device × List Cue × List Gust × Int × Unit) × Unit → Option (List Throw × Unit)) (f86 : Throw × Unit → Option (Int × Unit)) (f87 : Throw × List Gust × Int × Unit → Option (Drop × Unit)) : Env := envL [(85, mkE p85 r85 false f85), (86, mkE p86 r86 false f86), (87, mkE p87 r87 false f87)]
noncomputable def L33 (f85 : (List Device × List Cue × List Gust × Int × Unit) × Unit → Option (List Throw × Unit)) (f86 : Throw × Unit → Option (Int × Unit)) (f87 : Throw × List Gust × Int × Unit → Option (Drop × Unit)) : LEnv (densS (muts p33 ++ r33)) := lenv [(0, loopL (R := densS (muts p33 ++ r33)) q33_0 (s33_0 f85 f86 f87))]
theorem e33_0 (f85 : (List Device × List Cue × List Gust × Int × Unit) × Unit → Option (List Throw × Unit)) (f86 : Throw × Unit → Option (Int × Unit)) (f87 : Throw × List Gust × Int × Unit → Option (Drop × Unit)) (X : Nat → St → Option (densS (muts p33 ++ r33))) (rec K : densS q33_0 → Option (densS (muts p33 ++ r33))) (t : densS q33_0) :
    ev (E33 f85 f86 f87) tab3 (fun _ => false) (L33 f85 f86 f87) (retK tab3 p33 r33 Proofs.Try.f33.results.toList) (loopC Proofs.Try.f33 0) (fun i s => cond (Nat.beq i 0) (decK 100 q33_0 s K) (X i s)) (fun s => decK 100 q33_0 s rec) (enc q33_0 t) = s33_0 f85 f86 f87 t rec K := by kernel_rfl
theorem e33 (f85 : (List Device × List Cue × List Gust × Int × Unit) × Unit → Option (List Throw × Unit)) (f86 : Throw × Unit → Option (Int × Unit)) (f87 : Throw × List Gust × Int × Unit → Option (Drop × Unit)) (a : densS p33) : runF (E33 f85 f86 f87) tab3 (fun _ => false) p33 r33 Proofs.Try.f33 (L33 f85 f86 f87) a = F33 f85 f86 f87 a := by kernel_rfl
theorem ok33 {f85 : (List Device × List Cue × List Gust × Int × Unit) × Unit → Option (List Throw × Unit)} {f86 : Throw × Unit → Option (Int × Unit)} {f87 : Throw × List Gust × Int × Unit → Option (Drop × Unit)} (h85 : OK Proofs.Try.prog 85 (mkE p85 r85 false f85)) (h86 : OK Proofs.Try.prog 86 (mkE p86 r86 false f86)) (h87 : OK Proofs.Try.prog 87 (mkE p87 r87 false f87)) : OK Proofs.Try.prog 33 (mkE p33 r33 false (F33 f85 f86 f87)) :=
  fn_ok tab_ok3 (envL_ok (l := [(85, mkE p85 r85 false f85), (86, mkE p86 r86 false f86), (87, mkE p87 r87 false f87)]) (OKs.cons h85 (OKs.cons h86 (OKs.cons h87 OKs.nil)))) mixed3 (ann := (fun _ => false)) (L := L33 f85 f86 f87) (fn := Proofs.Try.f33) (c := bodyC Proofs.Try.f33) (ls := [(0, loopC Proofs.Try.f33 0)]) Proofs.Try.func33 (by kernel_rfl) (by kernel_rfl) (by kernel_rfl) (by kernel_rfl)
    (LoopsP.cons q33_0 (s33_0 f85 f86 f87) rfl (e33_0 f85 f86 f87) LoopsP.nil) (e33 f85 f86 f87)
/-! laws.plus -/
def p34 : List SP := [.t .place, .t .place]
def r34 : List SP := [.t .place]
noncomputable def F34 (a : Place × Place × Unit) : Option (Place × Unit) :=
  some ((⟨(w64 (a.1.X + a.2.1.X)), (w64 (a.1.Y + a.2.1.Y))⟩ : Place), ())
def E34 : Env := envL []
noncomputable def L34 : LEnv (densS (muts p34 ++ r34)) := lenv []
theorem e34 (a : densS p34) : runF (E34) tab3 (fun _ => false) p34 r34 Proofs.Try.f34 (L34) a = F34 a := by kernel_rfl
theorem ok34 : OK Proofs.Try.prog 34 (mkE p34 r34 false (F34)) :=
  fn_ok tab_ok3 (envL_ok (l := []) OKs.nil) mixed3 (ann := (fun _ => false)) (L := L34) (fn := Proofs.Try.f34) (c := bodyC Proofs.Try.f34) (ls := []) Proofs.Try.func34 (by kernel_rfl) (by kernel_rfl) (by kernel_rfl) (by kernel_rfl)
    LoopsP.nil (e34)
/-! laws.FnShiftedShow -/
def p6 : List SP := [.one (.r .u8)]
def r6 : List SP := [.one (.bool)]
def q6_0 : List SP := pat 77 0 [(5, .boxt 5000001 .place), (8, .one (.o 5000002 .drop)), (9, .one (.o 5000003 .drop)), (10, .one (.int .i64))]
noncomputable def s6_0 (f10 : List Int × Unit → Option (Bool × Unit)) (f26 : List Int × Unit → Option ((List Device × List Cue × List Gust × Int × Unit) × Int × Unit)) (f30 : (List Device × List Cue × List Gust × Int × Unit) × Place × Unit → Option ((List Device × List Cue × List Gust × Int × Unit) × Bool × Unit)) (f31 : (List Device × List Cue × List Gust × Int × Unit) × Unit → Option (Bool × Unit)) (f32 : (List Device × List Cue × List Gust × Int × Unit) × Int × Unit → Option (List Drop × Unit)) (f33 : (List Device × List Cue × List Gust × Int × Unit) × Unit → Option (List Drop × Unit)) (f34 : Place × Place × Unit → Option (Place × Unit)) (t9 : Place × List Drop × List Drop × Int × Unit) (rec K : Place × List Drop × List Drop × Int × Unit → Option (Bool × Unit)) : Option (Bool × Unit) :=
  cond (decide (t9.2.2.2.1 < (Int.ofNat (List.length t9.2.1)))) (rdL t9.2.1 t9.2.2.2.1 fun _ => (t9.2.1[(Int.toNat t9.2.2.2.1)]?).bind fun d10 => rdL t9.2.1 t9.2.2.2.1 fun _ => (t9.2.1[(Int.toNat t9.2.2.2.1)]?).bind fun d11 => (f34 (d11.At, t9.1, ())).bind fun x12 => rdL t9.2.2.1 t9.2.2.2.1 fun _ => (t9.2.2.1[(Int.toNat t9.2.2.2.1)]?).bind fun d13 => cond (!(decide (d13.From = d10.From) && (decide (d13.Born = d10.Born) && (decide (d13.At.X = x12.1.X) && (decide (d13.At.Y = x12.1.Y) && (decide (d13.Height = d10.Height) && true)))))) (some (false, ())) (rec (t9.1, t9.2.1, t9.2.2.1, (w64 (t9.2.2.2.1 + 1)), ()))) (K (t9.1, t9.2.1, t9.2.2.1, t9.2.2.2.1, ()))
noncomputable def F6 (f10 : List Int × Unit → Option (Bool × Unit)) (f26 : List Int × Unit → Option ((List Device × List Cue × List Gust × Int × Unit) × Int × Unit)) (f30 : (List Device × List Cue × List Gust × Int × Unit) × Place × Unit → Option ((List Device × List Cue × List Gust × Int × Unit) × Bool × Unit)) (f31 : (List Device × List Cue × List Gust × Int × Unit) × Unit → Option (Bool × Unit)) (f32 : (List Device × List Cue × List Gust × Int × Unit) × Int × Unit → Option (List Drop × Unit)) (f33 : (List Device × List Cue × List Gust × Int × Unit) × Unit → Option (List Drop × Unit)) (f34 : Place × Place × Unit → Option (Place × Unit)) (a : List Int × Unit) : Option (Bool × Unit) :=
  (f10 (a.1, ())).bind fun x1 => cond x1.1 (some (true, ())) ((f26 (a.1, ())).bind fun x2 => (f30 ((x2.1.1, x2.1.2.1, x2.1.2.2.1, x2.1.2.2.2.1, ()), (⟨(Int.tmod (Int.ofNat (List.length a.1)) 90), (-40)⟩ : Place), ())).bind fun x3 => cond (!(!x3.2.1)) ((f31 ((x3.1.1, x3.1.2.1, x3.1.2.2.1, x3.1.2.2.2.1, ()), ())).bind fun x4 => cond (!x4.1) (some (false, ())) ((f32 ((x2.1.1, x2.1.2.1, x2.1.2.2.1, x2.1.2.2.2.1, ()), x2.2.1, ())).bind fun x5 => (f33 ((x2.1.1, x2.1.2.1, x2.1.2.2.1, x2.1.2.2.2.1, ()), ())).bind fun x6 => capK (List.length x5.1 + List.length x6.1) ((f32 ((x3.1.1, x3.1.2.1, x3.1.2.2.1, x3.1.2.2.2.1, ()), x2.2.1, ())).bind fun x7 => (f33 ((x3.1.1, x3.1.2.1, x3.1.2.2.1, x3.1.2.2.2.1, ()), ())).bind fun x8 => capK (List.length x7.1 + List.length x8.1) (cond (!(decide ((Int.ofNat (List.length (x5.1 ++ x6.1))) = (Int.ofNat (List.length (x7.1 ++ x8.1)))))) (some (false, ())) (iterF (s6_0 f10 f26 f30 f31 f32 f33 f34) fuel ((⟨(Int.tmod (Int.ofNat (List.length a.1)) 90), (-40)⟩ : Place), (x5.1 ++ x6.1), (x7.1 ++ x8.1), 0, ()) fun t14 => some (true, ())))))) (some (false, ())))
def E6 (f10 : List Int × Unit → Option (Bool × Unit)) (f26 : List Int × Unit → Option ((List Device × List Cue × List Gust × Int × Unit) × Int × Unit)) (f30 : (List Device × List Cue × List Gust × Int × Unit) × Place × Unit → Option ((List Device × List Cue × List Gust × Int × Unit) × Bool × Unit)) (f31 : (List Device × List Cue × List Gust × Int × Unit) × Unit → Option (Bool × Unit)) (f32 : (List Device × List Cue × List Gust × Int × Unit) × Int × Unit → Option (List Drop × Unit)) (f33 : (List Device × List Cue × List Gust × Int × Unit) × Unit → Option (List Drop × Unit)) (f34 : Place × Place × Unit → Option (Place × Unit)) : Env := envL [(10, mkE p10 r10 false f10), (26, mkE p26 r26 false f26), (30, mkE p30 r30 false f30), (31, mkE p31 r31 false f31), (32, mkE p32 r32 false f32), (33, mkE p33 r33 false f33), (34, mkE p34 r34 false f34)]
noncomputable def L6 (f10 : List Int × Unit → Option (Bool × Unit)) (f26 : List Int × Unit → Option ((List Device × List Cue × List Gust × Int × Unit) × Int × Unit)) (f30 : (List Device × List Cue × List Gust × Int × Unit) × Place × Unit → Option ((List Device × List Cue × List Gust × Int × Unit) × Bool × Unit)) (f31 : (List Device × List Cue × List Gust × Int × Unit) × Unit → Option (Bool × Unit)) (f32 : (List Device × List Cue × List Gust × Int × Unit) × Int × Unit → Option (List Drop × Unit)) (f33 : (List Device × List Cue × List Gust × Int × Unit) × Unit → Option (List Drop × Unit)) (f34 : Place × Place × Unit → Option (Place × Unit)) : LEnv (densS (muts p6 ++ r6)) := lenv [(0, loopL (R := densS (muts p6 ++ r6)) q6_0 (s6_0 f10 f26 f30 f31 f32 f33 f34))]
theorem e6_0 (f10 : List Int × Unit → Option (Bool × Unit)) (f26 : List Int × Unit → Option ((List Device × List Cue × List Gust × Int × Unit) × Int × Unit)) (f30 : (List Device × List Cue × List Gust × Int × Unit) × Place × Unit → Option ((List Device × List Cue × List Gust × Int × Unit) × Bool × Unit)) (f31 : (List Device × List Cue × List Gust × Int × Unit) × Unit → Option (Bool × Unit)) (f32 : (List Device × List Cue × List Gust × Int × Unit) × Int × Unit → Option (List Drop × Unit)) (f33 : (List Device × List Cue × List Gust × Int × Unit) × Unit → Option (List Drop × Unit)) (f34 : Place × Place × Unit → Option (Place × Unit)) (X : Nat → St → Option (densS (muts p6 ++ r6))) (rec K : densS q6_0 → Option (densS (muts p6 ++ r6))) (t : densS q6_0) :
    ev (E6 f10 f26 f30 f31 f32 f33 f34) tab3 (fun _ => false) (L6 f10 f26 f30 f31 f32 f33 f34) (retK tab3 p6 r6 Proofs.Try.f6.results.toList) (loopC Proofs.Try.f6 0) (fun i s => cond (Nat.beq i 0) (decK 100 q6_0 s K) (X i s)) (fun s => decK 100 q6_0 s rec) (enc q6_0 t) = s6_0 f10 f26 f30 f31 f32 f33 f34 t rec K := by kernel_rfl
theorem e6 (f10 : List Int × Unit → Option (Bool × Unit)) (f26 : List Int × Unit → Option ((List Device × List Cue × List Gust × Int × Unit) × Int × Unit)) (f30 : (List Device × List Cue × List Gust × Int × Unit) × Place × Unit → Option ((List Device × List Cue × List Gust × Int × Unit) × Bool × Unit)) (f31 : (List Device × List Cue × List Gust × Int × Unit) × Unit → Option (Bool × Unit)) (f32 : (List Device × List Cue × List Gust × Int × Unit) × Int × Unit → Option (List Drop × Unit)) (f33 : (List Device × List Cue × List Gust × Int × Unit) × Unit → Option (List Drop × Unit)) (f34 : Place × Place × Unit → Option (Place × Unit)) (a : densS p6) : runF (E6 f10 f26 f30 f31 f32 f33 f34) tab3 (fun _ => false) p6 r6 Proofs.Try.f6 (L6 f10 f26 f30 f31 f32 f33 f34) a = F6 f10 f26 f30 f31 f32 f33 f34 a := by kernel_rfl
theorem ok6 {f10 : List Int × Unit → Option (Bool × Unit)} {f26 : List Int × Unit → Option ((List Device × List Cue × List Gust × Int × Unit) × Int × Unit)} {f30 : (List Device × List Cue × List Gust × Int × Unit) × Place × Unit → Option ((List Device × List Cue × List Gust × Int × Unit) × Bool × Unit)} {f31 : (List Device × List Cue × List Gust × Int × Unit) × Unit → Option (Bool × Unit)} {f32 : (List Device × List Cue × List Gust × Int × Unit) × Int × Unit → Option (List Drop × Unit)} {f33 : (List Device × List Cue × List Gust × Int × Unit) × Unit → Option (List Drop × Unit)} {f34 : Place × Place × Unit → Option (Place × Unit)} (h10 : OK Proofs.Try.prog 10 (mkE p10 r10 false f10)) (h26 : OK Proofs.Try.prog 26 (mkE p26 r26 false f26)) (h30 : OK Proofs.Try.prog 30 (mkE p30 r30 false f30)) (h31 : OK Proofs.Try.prog 31 (mkE p31 r31 false f31)) (h32 : OK Proofs.Try.prog 32 (mkE p32 r32 false f32)) (h33 : OK Proofs.Try.prog 33 (mkE p33 r33 false f33)) (h34 : OK Proofs.Try.prog 34 (mkE p34 r34 false f34)) : OK Proofs.Try.prog 6 (mkE p6 r6 false (F6 f10 f26 f30 f31 f32 f33 f34)) :=
  fn_ok tab_ok3 (envL_ok (l := [(10, mkE p10 r10 false f10), (26, mkE p26 r26 false f26), (30, mkE p30 r30 false f30), (31, mkE p31 r31 false f31), (32, mkE p32 r32 false f32), (33, mkE p33 r33 false f33), (34, mkE p34 r34 false f34)]) (OKs.cons h10 (OKs.cons h26 (OKs.cons h30 (OKs.cons h31 (OKs.cons h32 (OKs.cons h33 (OKs.cons h34 OKs.nil)))))))) mixed3 (ann := (fun _ => false)) (L := L6 f10 f26 f30 f31 f32 f33 f34) (fn := Proofs.Try.f6) (c := bodyC Proofs.Try.f6) (ls := [(0, loopC Proofs.Try.f6 0)]) Proofs.Try.func6 (by kernel_rfl) (by kernel_rfl) (by kernel_rfl) (by kernel_rfl)
    (LoopsP.cons q6_0 (s6_0 f10 f26 f30 f31 f32 f33 f34) rfl (e6_0 f10 f26 f30 f31 f32 f33 f34) LoopsP.nil) (e6 f10 f26 f30 f31 f32 f33 f34)
end Ev
