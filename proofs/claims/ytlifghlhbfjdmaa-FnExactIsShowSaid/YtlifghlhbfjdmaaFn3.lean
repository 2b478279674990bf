/- Functions of the program, as the evaluator sees them. -/
import Derived.Test.YtlifghlhbfjdmaaFn2
set_option linter.unusedVariables false
set_option maxRecDepth 100000
namespace Ev
open Go
def tab3 : Tab := [(3, ⟨1, false, 8, [.int .i64 0], [], .int .i64, false⟩),
  (5, ⟨1, false, 1, [.int .u8 0], [], .int .u8, false⟩),
  (9, ⟨1, false, 16, [.str []], [], .str, false⟩),
  (22, ⟨1, false, 24, [.nils], [], .sl .u8, false⟩),
  (24, ⟨1, false, 24, [.nils], [], .sl .int, false⟩),
  (44, ⟨1, false, 24, [.nils], [], .sl .cue, false⟩),
  (70, ⟨1, false, 24, [.nils], [], .sl .cue, false⟩),
  (127, ⟨4, true, 40, [.int .i64 0, .str [], .int .i64 0, .int .i64 0], [(0, 1, false), (1, 1, false), (2, 1, false), (3, 1, false)], .struct, false⟩),
  (138, ⟨4, true, 40, [.int .i64 0, .str [], .int .i64 0, .int .i64 0], [(0, 1, false), (1, 1, false), (2, 1, false), (3, 1, false)], .struct, false⟩)]
theorem tab_ok3 : TabOK Proofs.Try.prog tab3 := tab_of2 (by kernel_rfl) (by kernel_rfl)
theorem mixed3 : Proofs.Try.prog.follows .mixedOrders = true := by kernel_rfl
/-! laws.szCue -/
def p97 : List SP := [.t .cue, .one (.int .i64)]
def r97 : List SP := [.one (.int .i64)]
noncomputable def F97 (a : Cue × Int × Unit) : Option (Int × Unit) :=
  cond (decide ((w64 (a.2.1 - (Int.ofNat (List.length a.1.Name)))) < 0)) (some ((-1), ())) (some ((w64 (a.2.1 - (Int.ofNat (List.length a.1.Name)))), ()))
def E97 : Env := envL []
noncomputable def L97 : LEnv (densS (muts p97 ++ r97)) := lenv []
theorem e97 (a : densS p97) : runF (E97) tab3 (fun _ => false) p97 r97 Proofs.Try.f97 (L97) a = F97 a := by kernel_rfl
theorem ok97 : OK Proofs.Try.prog 97 (mkE p97 r97 false (F97)) :=
  fn_ok tab_ok3 (envL_ok (l := []) OKs.nil) mixed3 (ann := (fun _ => false)) (L := L97) (fn := Proofs.Try.f97) (c := bodyC Proofs.Try.f97) (ls := []) Proofs.Try.func97 (by kernel_rfl) (by kernel_rfl) (by kernel_rfl) (by kernel_rfl)
    LoopsP.nil (e97)
/-! laws.szCueS -/
def p41 : List SP := [.one (.r .cue), .one (.int .i64)]
def r41 : List SP := [.one (.int .i64)]
def q41_0 : List SP := pat 27 0 [(0, .one (.r .cue)), (1, .one (.int .i64)), (5, .one (.int .i64))]
noncomputable def s41_0 (f97 : Cue × Int × Unit → Option (Int × Unit)) (t1 : List Cue × Int × Int × Unit) (rec K : List Cue × Int × Int × Unit → Option (Int × Unit)) : Option (Int × Unit) :=
  cond (decide (t1.2.2.1 < (Int.ofNat (List.length t1.1)))) (rdL t1.1 t1.2.2.1 fun d2 => (f97 (d2, t1.2.1, ())).bind fun x3 => cond (decide (x3.1 < 0)) (some ((-1), ())) (rec (t1.1, x3.1, (w64 (t1.2.2.1 + 1)), ()))) (K (t1.1, t1.2.1, t1.2.2.1, ()))
noncomputable def F41 (f97 : Cue × Int × Unit → Option (Int × Unit)) (a : List Cue × Int × Unit) : Option (Int × Unit) :=
  cond (decide ((w64 (a.2.1 - (Int.ofNat (List.length a.1)))) < 0)) (some ((-1), ())) (iterF (s41_0 f97) fuel (a.1, (w64 (a.2.1 - (Int.ofNat (List.length a.1)))), 0, ()) fun t4 => some (t4.2.1, ()))
def E41 (f97 : Cue × Int × Unit → Option (Int × Unit)) : Env := envL [(97, mkE p97 r97 false f97)]
noncomputable def L41 (f97 : Cue × Int × Unit → Option (Int × Unit)) : LEnv (densS (muts p41 ++ r41)) := lenv [(0, loopL (R := densS (muts p41 ++ r41)) q41_0 (s41_0 f97))]
theorem e41_0 (f97 : Cue × Int × Unit → Option (Int × Unit)) (X : Nat → St → Option (densS (muts p41 ++ r41))) (rec K : densS q41_0 → Option (densS (muts p41 ++ r41))) (t : densS q41_0) :
    ev (E41 f97) tab3 (fun _ => false) (L41 f97) (retK tab3 p41 r41 Proofs.Try.f41.results.toList) (loopC Proofs.Try.f41 0) (fun i s => cond (Nat.beq i 0) (decK 100 q41_0 s K) (X i s)) (fun s => decK 100 q41_0 s rec) (enc q41_0 t) = s41_0 f97 t rec K := by kernel_rfl
theorem e41 (f97 : Cue × Int × Unit → Option (Int × Unit)) (a : densS p41) : runF (E41 f97) tab3 (fun _ => false) p41 r41 Proofs.Try.f41 (L41 f97) a = F41 f97 a := by kernel_rfl
theorem ok41 {f97 : Cue × Int × Unit → Option (Int × Unit)} (h97 : OK Proofs.Try.prog 97 (mkE p97 r97 false f97)) : OK Proofs.Try.prog 41 (mkE p41 r41 false (F41 f97)) :=
  fn_ok tab_ok3 (envL_ok (l := [(97, mkE p97 r97 false f97)]) (OKs.cons h97 OKs.nil)) mixed3 (ann := (fun _ => false)) (L := L41 f97) (fn := Proofs.Try.f41) (c := bodyC Proofs.Try.f41) (ls := [(0, loopC Proofs.Try.f41 0)]) Proofs.Try.func41 (by kernel_rfl) (by kernel_rfl) (by kernel_rfl) (by kernel_rfl)
    (LoopsP.cons q41_0 (s41_0 f97) rfl (e41_0 f97) LoopsP.nil) (e41 f97)
/-! laws.toCue -/
def p100 : List SP := [.t .cue]
def r100 : List SP := [.t .cue]
noncomputable def F100 (a : Cue × Unit) : Option (Cue × Unit) :=
  some (a.1, ())
def E100 : Env := envL []
noncomputable def L100 : LEnv (densS (muts p100 ++ r100)) := lenv []
theorem e100 (a : densS p100) : runF (E100) tab3 (fun _ => false) p100 r100 Proofs.Try.f100 (L100) a = F100 a := by kernel_rfl
theorem ok100 : OK Proofs.Try.prog 100 (mkE p100 r100 false (F100)) :=
  fn_ok tab_ok3 (envL_ok (l := []) OKs.nil) mixed3 (ann := (fun _ => false)) (L := L100) (fn := Proofs.Try.f100) (c := bodyC Proofs.Try.f100) (ls := []) Proofs.Try.func100 (by kernel_rfl) (by kernel_rfl) (by kernel_rfl) (by kernel_rfl)
    LoopsP.nil (e100)
/-! laws.toCueS -/
def p43 : List SP := [.one (.r .cue)]
def r43 : List SP := [.one (.o 0 .cue)]
def q43_0 : List SP := pat 23 0 [(0, .one (.r .cue)), (3, .one (.o 5000001 .cue)), (4, .one (.int .i64))]
noncomputable def s43_0 (f100 : Cue × Unit → Option (Cue × Unit)) (t1 : List Cue × List Cue × Int × Unit) (rec K : List Cue × List Cue × Int × Unit → Option (List Cue × Unit)) : Option (List Cue × Unit) :=
  cond (decide (t1.2.2.1 < (Int.ofNat (List.length t1.1)))) (rdL t1.1 t1.2.2.1 fun d2 => (f100 (d2, ())).bind fun x3 => rdL t1.2.1 t1.2.2.1 fun _ => (t1.2.1[(Int.toNat t1.2.2.1)]?).bind fun d4 => rec (t1.1, (List.set t1.2.1 (Int.toNat t1.2.2.1) x3.1), (w64 (t1.2.2.1 + 1)), ())) (K (t1.1, t1.2.1, t1.2.2.1, ()))
noncomputable def F43 (f100 : Cue × Unit → Option (Cue × Unit)) (a : List Cue × Unit) : Option (List Cue × Unit) :=
  okIf (0 ≤ (Int.ofNat (List.length a.1))) (capK (Int.toNat (Int.ofNat (List.length a.1))) (iterF (s43_0 f100) fuel (a.1, (List.replicate (Int.toNat (Int.ofNat (List.length a.1))) (Ty.zero .cue)), 0, ()) fun t5 => some (t5.2.1, ())))
def E43 (f100 : Cue × Unit → Option (Cue × Unit)) : Env := envL [(100, mkE p100 r100 false f100)]
noncomputable def L43 (f100 : Cue × Unit → Option (Cue × Unit)) : LEnv (densS (muts p43 ++ r43)) := lenv [(0, loopL (R := densS (muts p43 ++ r43)) q43_0 (s43_0 f100))]
theorem e43_0 (f100 : Cue × Unit → Option (Cue × Unit)) (X : Nat → St → Option (densS (muts p43 ++ r43))) (rec K : densS q43_0 → Option (densS (muts p43 ++ r43))) (t : densS q43_0) :
    ev (E43 f100) tab3 (fun _ => false) (L43 f100) (retK tab3 p43 r43 Proofs.Try.f43.results.toList) (loopC Proofs.Try.f43 0) (fun i s => cond (Nat.beq i 0) (decK 100 q43_0 s K) (X i s)) (fun s => decK 100 q43_0 s rec) (enc q43_0 t) = s43_0 f100 t rec K := by kernel_rfl
theorem e43 (f100 : Cue × Unit → Option (Cue × Unit)) (a : densS p43) : runF (E43 f100) tab3 (fun _ => false) p43 r43 Proofs.Try.f43 (L43 f100) a = F43 f100 a := by kernel_rfl
theorem ok43 {f100 : Cue × Unit → Option (Cue × Unit)} (h100 : OK Proofs.Try.prog 100 (mkE p100 r100 false f100)) : OK Proofs.Try.prog 43 (mkE p43 r43 false (F43 f100)) :=
  fn_ok tab_ok3 (envL_ok (l := [(100, mkE p100 r100 false f100)]) (OKs.cons h100 OKs.nil)) mixed3 (ann := (fun _ => false)) (L := L43 f100) (fn := Proofs.Try.f43) (c := bodyC Proofs.Try.f43) (ls := [(0, loopC Proofs.Try.f43 0)]) Proofs.Try.func43 (by kernel_rfl) (by kernel_rfl) (by kernel_rfl) (by kernel_rfl)
    (LoopsP.cons q43_0 (s43_0 f100) rfl (e43_0 f100) LoopsP.nil) (e43 f100)
/-! spec.IsCue -/
def p152 : List SP := [.t .cue]
def r152 : List SP := [.one (.bool)]
noncomputable def F152 (f119 : Int × Int × Int × Unit → Option (Bool × Unit)) (f116 : Str × Unit → Option (Bool × Unit)) (a : Cue × Unit) : Option (Bool × Unit) :=
  (f119 (a.1.Tick, 0, 64, ())).bind fun x1 => cond x1.1 ((f116 (a.1.Name, ())).bind fun x2 => cond x2.1 ((f119 (a.1.Level, 0, 32, ())).bind fun x3 => cond x3.1 ((f119 (a.1.Ramp, 0, 16, ())).bind fun x4 => some (x4.1, ())) (some (false, ()))) (some (false, ()))) (some (false, ()))
def E152 (f119 : Int × Int × Int × Unit → Option (Bool × Unit)) (f116 : Str × Unit → Option (Bool × Unit)) : Env := envL [(119, mkE p119 r119 false f119), (116, mkE p116 r116 false f116)]
noncomputable def L152 (f119 : Int × Int × Int × Unit → Option (Bool × Unit)) (f116 : Str × Unit → Option (Bool × Unit)) : LEnv (densS (muts p152 ++ r152)) := lenv []
theorem e152 (f119 : Int × Int × Int × Unit → Option (Bool × Unit)) (f116 : Str × Unit → Option (Bool × Unit)) (a : densS p152) : runF (E152 f119 f116) tab3 (fun _ => false) p152 r152 Proofs.Try.f152 (L152 f119 f116) a = F152 f119 f116 a := by kernel_rfl
theorem ok152 {f119 : Int × Int × Int × Unit → Option (Bool × Unit)} {f116 : Str × Unit → Option (Bool × Unit)} (h119 : OK Proofs.Try.prog 119 (mkE p119 r119 false f119)) (h116 : OK Proofs.Try.prog 116 (mkE p116 r116 false f116)) : OK Proofs.Try.prog 152 (mkE p152 r152 false (F152 f119 f116)) :=
  fn_ok tab_ok3 (envL_ok (l := [(119, mkE p119 r119 false f119), (116, mkE p116 r116 false f116)]) (OKs.cons h119 (OKs.cons h116 OKs.nil))) mixed3 (ann := (fun _ => false)) (L := L152 f119 f116) (fn := Proofs.Try.f152) (c := bodyC Proofs.Try.f152) (ls := []) Proofs.Try.func152 (by kernel_rfl) (by kernel_rfl) (by kernel_rfl) (by kernel_rfl)
    LoopsP.nil (e152 f119 f116)
/-! spec.CompareCues -/
def p153 : List SP := [.t .cue, .t .cue]
def r153 : List SP := [.one (.int .i64)]
noncomputable def F153 (a : Cue × Cue × Unit) : Option (Int × Unit) :=
  cond (decide (a.1.Tick < a.2.1.Tick)) (cond (decide (a.1.Tick < a.2.1.Tick)) (some ((-1), ())) (cond (decide (a.1.Tick = a.2.1.Tick)) (cond (decide (a.1.Name = a.2.1.Name)) (some (0, ())) (some (1, ()))) (some (1, ())))) (cond (decide (a.1.Tick = a.2.1.Tick)) (cond (Op.bytesLess a.1.Name a.2.1.Name) (some ((-1), ())) (cond (decide (a.1.Tick = a.2.1.Tick)) (cond (decide (a.1.Name = a.2.1.Name)) (some (0, ())) (some (1, ()))) (some (1, ())))) (cond (decide (a.1.Tick = a.2.1.Tick)) (cond (decide (a.1.Name = a.2.1.Name)) (some (0, ())) (some (1, ()))) (some (1, ()))))
def E153 : Env := envL []
noncomputable def L153 : LEnv (densS (muts p153 ++ r153)) := lenv []
theorem e153 (a : densS p153) : runF (E153) tab3 (fun _ => false) p153 r153 Proofs.Try.f153 (L153) a = F153 a := by kernel_rfl
theorem ok153 : OK Proofs.Try.prog 153 (mkE p153 r153 false (F153)) :=
  fn_ok tab_ok3 (envL_ok (l := []) OKs.nil) mixed3 (ann := (fun _ => false)) (L := L153) (fn := Proofs.Try.f153) (c := bodyC Proofs.Try.f153) (ls := []) Proofs.Try.func153 (by kernel_rfl) (by kernel_rfl) (by kernel_rfl) (by kernel_rfl)
    LoopsP.nil (e153)
/-! spec.IsScore -/
def p98 : List SP := [.one (.r .cue)]
def r98 : List SP := [.one (.bool)]
def q98_0 : List SP := pat 33 0 [(0, .one (.r .cue)), (5, .one (.r .cue)), (6, .one (.int .i64)), (7, .one (.int .i64))]
noncomputable def s98_0 (f152 : Cue × Unit → Option (Bool × Unit)) (f153 : Cue × Cue × Unit → Option (Int × Unit)) (t1 : List Cue × List Cue × Int × Int × Unit) (rec K : List Cue × List Cue × Int × Int × Unit → Option (Bool × Unit)) : Option (Bool × Unit) :=
  cond (decide (t1.2.2.2.1 < t1.2.2.1)) (rdL t1.2.1 t1.2.2.2.1 fun d2 => (f152 (d2, ())).bind fun x3 => cond (!(!x3.1)) (cond (decide (t1.2.2.2.1 > 0)) (rdL t1.1 (w64 (t1.2.2.2.1 - 1)) fun d4 => (f153 (d4, d2, ())).bind fun x5 => cond (decide (x5.1 ≥ 0)) (some (false, ())) (rec (t1.1, t1.2.1, t1.2.2.1, (w64 (t1.2.2.2.1 + 1)), ()))) (rec (t1.1, t1.2.1, t1.2.2.1, (w64 (t1.2.2.2.1 + 1)), ()))) (some (false, ()))) (K (t1.1, t1.2.1, t1.2.2.1, t1.2.2.2.1, ()))
noncomputable def F98 (f152 : Cue × Unit → Option (Bool × Unit)) (f153 : Cue × Cue × Unit → Option (Int × Unit)) (a : List Cue × Unit) : Option (Bool × Unit) :=
  iterF (s98_0 f152 f153) fuel (a.1, a.1, (Int.ofNat (List.length a.1)), 0, ()) fun t6 => some ((decide ((Int.ofNat (List.length t6.1)) ≤ 12)), ())
def E98 (f152 : Cue × Unit → Option (Bool × Unit)) (f153 : Cue × Cue × Unit → Option (Int × Unit)) : Env := envL [(152, mkE p152 r152 false f152), (153, mkE p153 r153 false f153)]
noncomputable def L98 (f152 : Cue × Unit → Option (Bool × Unit)) (f153 : Cue × Cue × Unit → Option (Int × Unit)) : LEnv (densS (muts p98 ++ r98)) := lenv [(0, loopL (R := densS (muts p98 ++ r98)) q98_0 (s98_0 f152 f153))]
theorem e98_0 (f152 : Cue × Unit → Option (Bool × Unit)) (f153 : Cue × Cue × Unit → Option (Int × Unit)) (X : Nat → St → Option (densS (muts p98 ++ r98))) (rec K : densS q98_0 → Option (densS (muts p98 ++ r98))) (t : densS q98_0) :
    ev (E98 f152 f153) tab3 (fun _ => false) (L98 f152 f153) (retK tab3 p98 r98 Proofs.Try.f98.results.toList) (loopC Proofs.Try.f98 0) (fun i s => cond (Nat.beq i 0) (decK 100 q98_0 s K) (X i s)) (fun s => decK 100 q98_0 s rec) (enc q98_0 t) = s98_0 f152 f153 t rec K := by kernel_rfl
theorem e98 (f152 : Cue × Unit → Option (Bool × Unit)) (f153 : Cue × Cue × Unit → Option (Int × Unit)) (a : densS p98) : runF (E98 f152 f153) tab3 (fun _ => false) p98 r98 Proofs.Try.f98 (L98 f152 f153) a = F98 f152 f153 a := by kernel_rfl
theorem ok98 {f152 : Cue × Unit → Option (Bool × Unit)} {f153 : Cue × Cue × Unit → Option (Int × Unit)} (h152 : OK Proofs.Try.prog 152 (mkE p152 r152 false f152)) (h153 : OK Proofs.Try.prog 153 (mkE p153 r153 false f153)) : OK Proofs.Try.prog 98 (mkE p98 r98 false (F98 f152 f153)) :=
  fn_ok tab_ok3 (envL_ok (l := [(152, mkE p152 r152 false f152), (153, mkE p153 r153 false f153)]) (OKs.cons h152 (OKs.cons h153 OKs.nil))) mixed3 (ann := (fun _ => false)) (L := L98 f152 f153) (fn := Proofs.Try.f98) (c := bodyC Proofs.Try.f98) (ls := [(0, loopC Proofs.Try.f98 0)]) Proofs.Try.func98 (by kernel_rfl) (by kernel_rfl) (by kernel_rfl) (by kernel_rfl)
    (LoopsP.cons q98_0 (s98_0 f152 f153) rfl (e98_0 f152 f153) LoopsP.nil) (e98 f152 f153)
/-! spec.l1Floor -/
def p199 : List SP := [.one (.int .i64), .one (.int .i64)]
def r199 : List SP := [.one (.int .i64)]
noncomputable def F199 (a : Int × Int × Unit) : Option (Int × Unit) :=
  cond (decide (a.2.1 = 0)) none (cond (decide (a.2.1 = 0)) none (cond (decide ((Int.tmod a.1 a.2.1) < 0)) (some ((w64 ((w64 (Int.tdiv a.1 a.2.1)) - 1)), ())) (some ((w64 (Int.tdiv a.1 a.2.1)), ()))))
def E199 : Env := envL []
noncomputable def L199 : LEnv (densS (muts p199 ++ r199)) := lenv []
theorem e199 (a : densS p199) : runF (E199) tab3 (fun _ => false) p199 r199 Proofs.Try.f199 (L199) a = F199 a := by kernel_rfl
theorem ok199 : OK Proofs.Try.prog 199 (mkE p199 r199 false (F199)) :=
  fn_ok tab_ok3 (envL_ok (l := []) OKs.nil) mixed3 (ann := (fun _ => false)) (L := L199) (fn := Proofs.Try.f199) (c := bodyC Proofs.Try.f199) (ls := []) Proofs.Try.func199 (by kernel_rfl) (by kernel_rfl) (by kernel_rfl) (by kernel_rfl)
    LoopsP.nil (e199)
/-! spec.RampAt -/
def p189 : List SP := [.one (.int .i64), .one (.int .i64), .one (.int .i64), .one (.int .i64)]
def r189 : List SP := [.one (.int .i64)]
noncomputable def F189 (f170 : Int × Unit → Option (Bool × Unit)) (f199 : Int × Int × Unit → Option (Int × Unit)) (a : Int × Int × Int × Int × Unit) : Option (Int × Unit) :=
  (f170 (a.1, ())).bind fun x1 => cond (!(!x1.1)) ((f170 (a.2.1, ())).bind fun x2 => cond (!x2.1) (some (0, ())) (cond (decide (a.2.2.1 ≥ a.2.2.2.1)) (some (a.2.1, ())) (cond (!(decide (a.2.2.1 ≤ 0))) (cond (decide (a.2.2.2.1 > 999)) (some (a.1, ())) ((f199 ((w64 ((w64 (a.2.1 - a.1)) * a.2.2.1)), a.2.2.2.1, ())).bind fun x3 => some ((w64 (a.1 + x3.1)), ()))) (some (a.1, ()))))) (some (0, ()))
def E189 (f170 : Int × Unit → Option (Bool × Unit)) (f199 : Int × Int × Unit → Option (Int × Unit)) : Env := envL [(170, mkE p170 r170 false f170), (199, mkE p199 r199 false f199)]
noncomputable def L189 (f170 : Int × Unit → Option (Bool × Unit)) (f199 : Int × Int × Unit → Option (Int × Unit)) : LEnv (densS (muts p189 ++ r189)) := lenv []
theorem e189 (f170 : Int × Unit → Option (Bool × Unit)) (f199 : Int × Int × Unit → Option (Int × Unit)) (a : densS p189) : runF (E189 f170 f199) tab3 (fun _ => false) p189 r189 Proofs.Try.f189 (L189 f170 f199) a = F189 f170 f199 a := by kernel_rfl
theorem ok189 {f170 : Int × Unit → Option (Bool × Unit)} {f199 : Int × Int × Unit → Option (Int × Unit)} (h170 : OK Proofs.Try.prog 170 (mkE p170 r170 false f170)) (h199 : OK Proofs.Try.prog 199 (mkE p199 r199 false f199)) : OK Proofs.Try.prog 189 (mkE p189 r189 false (F189 f170 f199)) :=
  fn_ok tab_ok3 (envL_ok (l := [(170, mkE p170 r170 false f170), (199, mkE p199 r199 false f199)]) (OKs.cons h170 (OKs.cons h199 OKs.nil))) mixed3 (ann := (fun _ => false)) (L := L189 f170 f199) (fn := Proofs.Try.f189) (c := bodyC Proofs.Try.f189) (ls := []) Proofs.Try.func189 (by kernel_rfl) (by kernel_rfl) (by kernel_rfl) (by kernel_rfl)
    LoopsP.nil (e189 f170 f199)
/-! spec.l7Level -/
def p154 : List SP := [.one (.r .cue), .one (.str), .one (.int .i64)]
def r154 : List SP := [.one (.int .i64)]
def q154_0 : List SP := pat 51 0 [(1, .one (.str)), (2, .one (.int .i64)), (7, .one (.int .i64)), (8, .boxt 5000001 .cue), (12, .one (.r .cue)), (13, .one (.int .i64)), (14, .one (.int .i64))]
noncomputable def s154_0 (f189 : Int × Int × Int × Int × Unit → Option (Int × Unit)) (t1 : Str × Int × Int × Cue × List Cue × Int × Int × Unit) (rec K : Str × Int × Int × Cue × List Cue × Int × Int × Unit → Option (Int × Unit)) : Option (Int × Unit) :=
  cond (decide (t1.2.2.2.2.2.2.1 < t1.2.2.2.2.2.1)) (rdL t1.2.2.2.2.1 t1.2.2.2.2.2.2.1 fun d2 => cond (decide (d2.Name = t1.1)) (cond (decide (d2.Tick ≤ t1.2.1)) ((f189 (t1.2.2.1, t1.2.2.2.1.Level, (w64 (d2.Tick - t1.2.2.2.1.Tick)), t1.2.2.2.1.Ramp, ())).bind fun x3 => rec (t1.1, t1.2.1, x3.1, d2, t1.2.2.2.2.1, t1.2.2.2.2.2.1, (w64 (t1.2.2.2.2.2.2.1 + 1)), ())) (rec (t1.1, t1.2.1, t1.2.2.1, t1.2.2.2.1, t1.2.2.2.2.1, t1.2.2.2.2.2.1, (w64 (t1.2.2.2.2.2.2.1 + 1)), ()))) (rec (t1.1, t1.2.1, t1.2.2.1, t1.2.2.2.1, t1.2.2.2.2.1, t1.2.2.2.2.2.1, (w64 (t1.2.2.2.2.2.2.1 + 1)), ()))) (K (t1.1, t1.2.1, t1.2.2.1, t1.2.2.2.1, t1.2.2.2.2.1, t1.2.2.2.2.2.1, t1.2.2.2.2.2.2.1, ()))
noncomputable def F154 (f189 : Int × Int × Int × Int × Unit → Option (Int × Unit)) (a : List Cue × Str × Int × Unit) : Option (Int × Unit) :=
  iterF (s154_0 f189) fuel (a.2.1, a.2.2.1, 0, (⟨0, [], 0, 0⟩ : Cue), a.1, (Int.ofNat (List.length a.1)), 0, ()) fun t4 => (f189 (t4.2.2.1, t4.2.2.2.1.Level, (w64 (t4.2.1 - t4.2.2.2.1.Tick)), t4.2.2.2.1.Ramp, ())).bind fun x5 => some (x5.1, ())
def E154 (f189 : Int × Int × Int × Int × Unit → Option (Int × Unit)) : Env := envL [(189, mkE p189 r189 false f189)]
noncomputable def L154 (f189 : Int × Int × Int × Int × Unit → Option (Int × Unit)) : LEnv (densS (muts p154 ++ r154)) := lenv [(0, loopL (R := densS (muts p154 ++ r154)) q154_0 (s154_0 f189))]
theorem e154_0 (f189 : Int × Int × Int × Int × Unit → Option (Int × Unit)) (X : Nat → St → Option (densS (muts p154 ++ r154))) (rec K : densS q154_0 → Option (densS (muts p154 ++ r154))) (t : densS q154_0) :
    ev (E154 f189) tab3 (fun _ => false) (L154 f189) (retK tab3 p154 r154 Proofs.Try.f154.results.toList) (loopC Proofs.Try.f154 0) (fun i s => cond (Nat.beq i 0) (decK 100 q154_0 s K) (X i s)) (fun s => decK 100 q154_0 s rec) (enc q154_0 t) = s154_0 f189 t rec K := by kernel_rfl
theorem e154 (f189 : Int × Int × Int × Int × Unit → Option (Int × Unit)) (a : densS p154) : runF (E154 f189) tab3 (fun _ => false) p154 r154 Proofs.Try.f154 (L154 f189) a = F154 f189 a := by kernel_rfl
theorem ok154 {f189 : Int × Int × Int × Int × Unit → Option (Int × Unit)} (h189 : OK Proofs.Try.prog 189 (mkE p189 r189 false f189)) : OK Proofs.Try.prog 154 (mkE p154 r154 false (F154 f189)) :=
  fn_ok tab_ok3 (envL_ok (l := [(189, mkE p189 r189 false f189)]) (OKs.cons h189 OKs.nil)) mixed3 (ann := (fun _ => false)) (L := L154 f189) (fn := Proofs.Try.f154) (c := bodyC Proofs.Try.f154) (ls := [(0, loopC Proofs.Try.f154 0)]) Proofs.Try.func154 (by kernel_rfl) (by kernel_rfl) (by kernel_rfl) (by kernel_rfl)
    (LoopsP.cons q154_0 (s154_0 f189) rfl (e154_0 f189) LoopsP.nil) (e154 f189)
/-! spec.LevelAt -/
def p99 : List SP := [.one (.r .cue), .one (.str), .one (.int .i64)]
def r99 : List SP := [.one (.int .i64)]
noncomputable def F99 (f98 : List Cue × Unit → Option (Bool × Unit)) (f154 : List Cue × Str × Int × Unit → Option (Int × Unit)) (a : List Cue × Str × Int × Unit) : Option (Int × Unit) :=
  (f98 (a.1, ())).bind fun x1 => cond (!(!x1.1)) (cond (decide (a.2.2.1 < 0)) (some (0, ())) ((f154 (a.1, a.2.1, a.2.2.1, ())).bind fun x2 => some (x2.1, ()))) (some (0, ()))
def E99 (f98 : List Cue × Unit → Option (Bool × Unit)) (f154 : List Cue × Str × Int × Unit → Option (Int × Unit)) : Env := envL [(98, mkE p98 r98 false f98), (154, mkE p154 r154 false f154)]
noncomputable def L99 (f98 : List Cue × Unit → Option (Bool × Unit)) (f154 : List Cue × Str × Int × Unit → Option (Int × Unit)) : LEnv (densS (muts p99 ++ r99)) := lenv []
theorem e99 (f98 : List Cue × Unit → Option (Bool × Unit)) (f154 : List Cue × Str × Int × Unit → Option (Int × Unit)) (a : densS p99) : runF (E99 f98 f154) tab3 (fun _ => false) p99 r99 Proofs.Try.f99 (L99 f98 f154) a = F99 f98 f154 a := by kernel_rfl
theorem ok99 {f98 : List Cue × Unit → Option (Bool × Unit)} {f154 : List Cue × Str × Int × Unit → Option (Int × Unit)} (h98 : OK Proofs.Try.prog 98 (mkE p98 r98 false f98)) (h154 : OK Proofs.Try.prog 154 (mkE p154 r154 false f154)) : OK Proofs.Try.prog 99 (mkE p99 r99 false (F99 f98 f154)) :=
  fn_ok tab_ok3 (envL_ok (l := [(98, mkE p98 r98 false f98), (154, mkE p154 r154 false f154)]) (OKs.cons h98 (OKs.cons h154 OKs.nil))) mixed3 (ann := (fun _ => false)) (L := L99 f98 f154) (fn := Proofs.Try.f99) (c := bodyC Proofs.Try.f99) (ls := []) Proofs.Try.func99 (by kernel_rfl) (by kernel_rfl) (by kernel_rfl) (by kernel_rfl)
    LoopsP.nil (e99 f98 f154)
/-! spec.TrackOf -/
def p42 : List SP := [.one (.r .cue), .one (.str), .one (.int .i64)]
def r42 : List SP := [.one (.o 0 .int)]
def q42_0 : List SP := pat 31 0 [(0, .one (.r .cue)), (1, .one (.str)), (2, .one (.int .i64)), (7, .one (.o 5000001 .int)), (8, .one (.int .i64))]
noncomputable def s42_0 (f98 : List Cue × Unit → Option (Bool × Unit)) (f99 : List Cue × Str × Int × Unit → Option (Int × Unit)) (t1 : List Cue × Str × Int × List Int × Int × Unit) (rec K : List Cue × Str × Int × List Int × Int × Unit → Option (List Int × Unit)) : Option (List Int × Unit) :=
  cond (decide (t1.2.2.2.2.1 < t1.2.2.1)) (cond (decide (t1.2.2.1 ≤ 64)) ((f98 (t1.1, ())).bind fun x2 => cond x2.1 ((f99 (t1.1, t1.2.1, t1.2.2.2.2.1, ())).bind fun x3 => capK (List.length t1.2.2.2.1 + List.length ([x3.1] : List Int)) (rec (t1.1, t1.2.1, t1.2.2.1, (t1.2.2.2.1 ++ ([x3.1] : List Int)), (w64 (t1.2.2.2.2.1 + 1)), ()))) (K (t1.1, t1.2.1, t1.2.2.1, t1.2.2.2.1, t1.2.2.2.2.1, ()))) (K (t1.1, t1.2.1, t1.2.2.1, t1.2.2.2.1, t1.2.2.2.2.1, ()))) (K (t1.1, t1.2.1, t1.2.2.1, t1.2.2.2.1, t1.2.2.2.2.1, ()))
noncomputable def F42 (f98 : List Cue × Unit → Option (Bool × Unit)) (f99 : List Cue × Str × Int × Unit → Option (Int × Unit)) (a : List Cue × Str × Int × Unit) : Option (List Int × Unit) :=
  iterF (s42_0 f98 f99) fuel (a.1, a.2.1, a.2.2.1, ([] : List Int), 0, ()) fun t4 => some (t4.2.2.2.1, ())
def E42 (f98 : List Cue × Unit → Option (Bool × Unit)) (f99 : List Cue × Str × Int × Unit → Option (Int × Unit)) : Env := envL [(98, mkE p98 r98 false f98), (99, mkE p99 r99 false f99)]
noncomputable def L42 (f98 : List Cue × Unit → Option (Bool × Unit)) (f99 : List Cue × Str × Int × Unit → Option (Int × Unit)) : LEnv (densS (muts p42 ++ r42)) := lenv [(0, loopL (R := densS (muts p42 ++ r42)) q42_0 (s42_0 f98 f99))]
theorem e42_0 (f98 : List Cue × Unit → Option (Bool × Unit)) (f99 : List Cue × Str × Int × Unit → Option (Int × Unit)) (X : Nat → St → Option (densS (muts p42 ++ r42))) (rec K : densS q42_0 → Option (densS (muts p42 ++ r42))) (t : densS q42_0) :
    ev (E42 f98 f99) tab3 (fun _ => false) (L42 f98 f99) (retK tab3 p42 r42 Proofs.Try.f42.results.toList) (loopC Proofs.Try.f42 0) (fun i s => cond (Nat.beq i 0) (decK 100 q42_0 s K) (X i s)) (fun s => decK 100 q42_0 s rec) (enc q42_0 t) = s42_0 f98 f99 t rec K := by kernel_rfl
theorem e42 (f98 : List Cue × Unit → Option (Bool × Unit)) (f99 : List Cue × Str × Int × Unit → Option (Int × Unit)) (a : densS p42) : runF (E42 f98 f99) tab3 (fun _ => false) p42 r42 Proofs.Try.f42 (L42 f98 f99) a = F42 f98 f99 a := by kernel_rfl
theorem ok42 {f98 : List Cue × Unit → Option (Bool × Unit)} {f99 : List Cue × Str × Int × Unit → Option (Int × Unit)} (h98 : OK Proofs.Try.prog 98 (mkE p98 r98 false f98)) (h99 : OK Proofs.Try.prog 99 (mkE p99 r99 false f99)) : OK Proofs.Try.prog 42 (mkE p42 r42 false (F42 f98 f99)) :=
  fn_ok tab_ok3 (envL_ok (l := [(98, mkE p98 r98 false f98), (99, mkE p99 r99 false f99)]) (OKs.cons h98 (OKs.cons h99 OKs.nil))) mixed3 (ann := (fun _ => false)) (L := L42 f98 f99) (fn := Proofs.Try.f42) (c := bodyC Proofs.Try.f42) (ls := [(0, loopC Proofs.Try.f42 0)]) Proofs.Try.func42 (by kernel_rfl) (by kernel_rfl) (by kernel_rfl) (by kernel_rfl)
    (LoopsP.cons q42_0 (s42_0 f98 f99) rfl (e42_0 f98 f99) LoopsP.nil) (e42 f98 f99)
/-! impl.IsCue -/
def p142 : List SP := [.t .cue]
def r142 : List SP := [.one (.bool)]
noncomputable def F142 (f72 : Int × Int × Int × Unit → Option (Bool × Unit)) (f112 : Str × Unit → Option (Bool × Unit)) (a : Cue × Unit) : Option (Bool × Unit) :=
  (f72 (a.1.Tick, 0, 64, ())).bind fun x1 => cond x1.1 ((f112 (a.1.Name, ())).bind fun x2 => cond x2.1 ((f72 (a.1.Level, 0, 32, ())).bind fun x3 => cond x3.1 ((f72 (a.1.Ramp, 0, 16, ())).bind fun x4 => some (x4.1, ())) (some (false, ()))) (some (false, ()))) (some (false, ()))
def E142 (f72 : Int × Int × Int × Unit → Option (Bool × Unit)) (f112 : Str × Unit → Option (Bool × Unit)) : Env := envL [(72, mkE p72 r72 false f72), (112, mkE p112 r112 false f112)]
noncomputable def L142 (f72 : Int × Int × Int × Unit → Option (Bool × Unit)) (f112 : Str × Unit → Option (Bool × Unit)) : LEnv (densS (muts p142 ++ r142)) := lenv []
theorem e142 (f72 : Int × Int × Int × Unit → Option (Bool × Unit)) (f112 : Str × Unit → Option (Bool × Unit)) (a : densS p142) : runF (E142 f72 f112) tab3 (fun _ => false) p142 r142 Proofs.Try.f142 (L142 f72 f112) a = F142 f72 f112 a := by kernel_rfl
theorem ok142 {f72 : Int × Int × Int × Unit → Option (Bool × Unit)} {f112 : Str × Unit → Option (Bool × Unit)} (h72 : OK Proofs.Try.prog 72 (mkE p72 r72 false f72)) (h112 : OK Proofs.Try.prog 112 (mkE p112 r112 false f112)) : OK Proofs.Try.prog 142 (mkE p142 r142 false (F142 f72 f112)) :=
  fn_ok tab_ok3 (envL_ok (l := [(72, mkE p72 r72 false f72), (112, mkE p112 r112 false f112)]) (OKs.cons h72 (OKs.cons h112 OKs.nil))) mixed3 (ann := (fun _ => false)) (L := L142 f72 f112) (fn := Proofs.Try.f142) (c := bodyC Proofs.Try.f142) (ls := []) Proofs.Try.func142 (by kernel_rfl) (by kernel_rfl) (by kernel_rfl) (by kernel_rfl)
    LoopsP.nil (e142 f72 f112)
/-! cmp.isNaN[string] -/
def p195 : List SP := [.one (.str)]
def r195 : List SP := [.one (.bool)]
noncomputable def F195 (a : Str × Unit) : Option (Bool × Unit) :=
  some ((!decide (a.1 = a.1)), ())
def E195 : Env := envL []
noncomputable def L195 : LEnv (densS (muts p195 ++ r195)) := lenv []
theorem e195 (a : densS p195) : runF (E195) tab3 (fun _ => false) p195 r195 Proofs.Try.f195 (L195) a = F195 a := by kernel_rfl
theorem ok195 : OK Proofs.Try.prog 195 (mkE p195 r195 false (F195)) :=
  fn_ok tab_ok3 (envL_ok (l := []) OKs.nil) mixed3 (ann := (fun _ => false)) (L := L195) (fn := Proofs.Try.f195) (c := bodyC Proofs.Try.f195) (ls := []) Proofs.Try.func195 (by kernel_rfl) (by kernel_rfl) (by kernel_rfl) (by kernel_rfl)
    LoopsP.nil (e195)
/-! cmp.Compare[string] -/
def p182 : List SP := [.one (.str), .one (.str)]
def r182 : List SP := [.one (.int .i64)]
noncomputable def F182 (f195 : Str × Unit → Option (Bool × Unit)) (a : Str × Str × Unit) : Option (Int × Unit) :=
  (f195 (a.1, ())).bind fun x1 => (f195 (a.2.1, ())).bind fun x2 => cond x1.1 (cond x2.1 (some (0, ())) (some ((-1), ()))) (cond x2.1 (some (1, ())) (cond (Op.bytesLess a.1 a.2.1) (some ((-1), ())) (cond (!(Op.bytesLess a.1 a.2.1 || decide (a.1 = a.2.1))) (some (1, ())) (some (0, ())))))
def E182 (f195 : Str × Unit → Option (Bool × Unit)) : Env := envL [(195, mkE p195 r195 false f195)]
noncomputable def L182 (f195 : Str × Unit → Option (Bool × Unit)) : LEnv (densS (muts p182 ++ r182)) := lenv []
theorem e182 (f195 : Str × Unit → Option (Bool × Unit)) (a : densS p182) : runF (E182 f195) tab3 (fun _ => false) p182 r182 Proofs.Try.f182 (L182 f195) a = F182 f195 a := by kernel_rfl
theorem ok182 {f195 : Str × Unit → Option (Bool × Unit)} (h195 : OK Proofs.Try.prog 195 (mkE p195 r195 false f195)) : OK Proofs.Try.prog 182 (mkE p182 r182 false (F182 f195)) :=
  fn_ok tab_ok3 (envL_ok (l := [(195, mkE p195 r195 false f195)]) (OKs.cons h195 OKs.nil)) mixed3 (ann := (fun _ => false)) (L := L182 f195) (fn := Proofs.Try.f182) (c := bodyC Proofs.Try.f182) (ls := []) Proofs.Try.func182 (by kernel_rfl) (by kernel_rfl) (by kernel_rfl) (by kernel_rfl)
    LoopsP.nil (e182 f195)
/-! impl.CompareCues -/
def p143 : List SP := [.t .cue, .t .cue]
def r143 : List SP := [.one (.int .i64)]
noncomputable def F143 (f172 : Int × Int × Unit → Option (Int × Unit)) (f182 : Str × Str × Unit → Option (Int × Unit)) (f171 : List Int × Unit → Option (Int × Unit)) (a : Cue × Cue × Unit) : Option (Int × Unit) :=
  (f172 (a.1.Tick, a.2.1.Tick, ())).bind fun x1 => (f182 (a.1.Name, a.2.1.Name, ())).bind fun x2 => (f171 (([x1.1, x2.1] : List Int), ())).bind fun x3 => some (x3.1, ())
def E143 (f172 : Int × Int × Unit → Option (Int × Unit)) (f182 : Str × Str × Unit → Option (Int × Unit)) (f171 : List Int × Unit → Option (Int × Unit)) : Env := envL [(172, mkE p172 r172 false f172), (182, mkE p182 r182 false f182), (171, mkE p171 r171 false f171)]
noncomputable def L143 (f172 : Int × Int × Unit → Option (Int × Unit)) (f182 : Str × Str × Unit → Option (Int × Unit)) (f171 : List Int × Unit → Option (Int × Unit)) : LEnv (densS (muts p143 ++ r143)) := lenv []
theorem e143 (f172 : Int × Int × Unit → Option (Int × Unit)) (f182 : Str × Str × Unit → Option (Int × Unit)) (f171 : List Int × Unit → Option (Int × Unit)) (a : densS p143) : runF (E143 f172 f182 f171) tab3 (fun _ => false) p143 r143 Proofs.Try.f143 (L143 f172 f182 f171) a = F143 f172 f182 f171 a := by kernel_rfl
theorem ok143 {f172 : Int × Int × Unit → Option (Int × Unit)} {f182 : Str × Str × Unit → Option (Int × Unit)} {f171 : List Int × Unit → Option (Int × Unit)} (h172 : OK Proofs.Try.prog 172 (mkE p172 r172 false f172)) (h182 : OK Proofs.Try.prog 182 (mkE p182 r182 false f182)) (h171 : OK Proofs.Try.prog 171 (mkE p171 r171 false f171)) : OK Proofs.Try.prog 143 (mkE p143 r143 false (F143 f172 f182 f171)) :=
  fn_ok tab_ok3 (envL_ok (l := [(172, mkE p172 r172 false f172), (182, mkE p182 r182 false f182), (171, mkE p171 r171 false f171)]) (OKs.cons h172 (OKs.cons h182 (OKs.cons h171 OKs.nil)))) mixed3 (ann := (fun _ => false)) (L := L143 f172 f182 f171) (fn := Proofs.Try.f143) (c := bodyC Proofs.Try.f143) (ls := []) Proofs.Try.func143 (by kernel_rfl) (by kernel_rfl) (by kernel_rfl) (by kernel_rfl)
    LoopsP.nil (e143 f172 f182 f171)
/-! impl.IsScore -/
def p85 : List SP := [.one (.r .cue)]
def r85 : List SP := [.one (.bool)]
def q85_0 : List SP := pat 33 0 [(0, .one (.r .cue)), (5, .one (.r .cue)), (6, .one (.int .i64)), (7, .one (.int .i64))]
noncomputable def s85_0 (f142 : Cue × Unit → Option (Bool × Unit)) (f143 : Cue × Cue × Unit → Option (Int × Unit)) (t1 : List Cue × List Cue × Int × Int × Unit) (rec K : List Cue × List Cue × Int × Int × Unit → Option (Bool × Unit)) : Option (Bool × Unit) :=
  cond (decide (t1.2.2.2.1 < t1.2.2.1)) (rdL t1.2.1 t1.2.2.2.1 fun d2 => (f142 (d2, ())).bind fun x3 => cond (!(!x3.1)) (cond (decide (t1.2.2.2.1 > 0)) (rdL t1.1 (w64 (t1.2.2.2.1 - 1)) fun d4 => (f143 (d4, d2, ())).bind fun x5 => cond (decide (x5.1 ≥ 0)) (some (false, ())) (rec (t1.1, t1.2.1, t1.2.2.1, (w64 (t1.2.2.2.1 + 1)), ()))) (rec (t1.1, t1.2.1, t1.2.2.1, (w64 (t1.2.2.2.1 + 1)), ()))) (some (false, ()))) (K (t1.1, t1.2.1, t1.2.2.1, t1.2.2.2.1, ()))
noncomputable def F85 (f142 : Cue × Unit → Option (Bool × Unit)) (f143 : Cue × Cue × Unit → Option (Int × Unit)) (a : List Cue × Unit) : Option (Bool × Unit) :=
  iterF (s85_0 f142 f143) fuel (a.1, a.1, (Int.ofNat (List.length a.1)), 0, ()) fun t6 => some ((decide ((Int.ofNat (List.length t6.1)) ≤ 12)), ())
def E85 (f142 : Cue × Unit → Option (Bool × Unit)) (f143 : Cue × Cue × Unit → Option (Int × Unit)) : Env := envL [(142, mkE p142 r142 false f142), (143, mkE p143 r143 false f143)]
noncomputable def L85 (f142 : Cue × Unit → Option (Bool × Unit)) (f143 : Cue × Cue × Unit → Option (Int × Unit)) : LEnv (densS (muts p85 ++ r85)) := lenv [(0, loopL (R := densS (muts p85 ++ r85)) q85_0 (s85_0 f142 f143))]
theorem e85_0 (f142 : Cue × Unit → Option (Bool × Unit)) (f143 : Cue × Cue × Unit → Option (Int × Unit)) (X : Nat → St → Option (densS (muts p85 ++ r85))) (rec K : densS q85_0 → Option (densS (muts p85 ++ r85))) (t : densS q85_0) :
    ev (E85 f142 f143) tab3 (fun _ => false) (L85 f142 f143) (retK tab3 p85 r85 Proofs.Try.f85.results.toList) (loopC Proofs.Try.f85 0) (fun i s => cond (Nat.beq i 0) (decK 100 q85_0 s K) (X i s)) (fun s => decK 100 q85_0 s rec) (enc q85_0 t) = s85_0 f142 f143 t rec K := by kernel_rfl
theorem e85 (f142 : Cue × Unit → Option (Bool × Unit)) (f143 : Cue × Cue × Unit → Option (Int × Unit)) (a : densS p85) : runF (E85 f142 f143) tab3 (fun _ => false) p85 r85 Proofs.Try.f85 (L85 f142 f143) a = F85 f142 f143 a := by kernel_rfl
theorem ok85 {f142 : Cue × Unit → Option (Bool × Unit)} {f143 : Cue × Cue × Unit → Option (Int × Unit)} (h142 : OK Proofs.Try.prog 142 (mkE p142 r142 false f142)) (h143 : OK Proofs.Try.prog 143 (mkE p143 r143 false f143)) : OK Proofs.Try.prog 85 (mkE p85 r85 false (F85 f142 f143)) :=
  fn_ok tab_ok3 (envL_ok (l := [(142, mkE p142 r142 false f142), (143, mkE p143 r143 false f143)]) (OKs.cons h142 (OKs.cons h143 OKs.nil))) mixed3 (ann := (fun _ => false)) (L := L85 f142 f143) (fn := Proofs.Try.f85) (c := bodyC Proofs.Try.f85) (ls := [(0, loopC Proofs.Try.f85 0)]) Proofs.Try.func85 (by kernel_rfl) (by kernel_rfl) (by kernel_rfl) (by kernel_rfl)
    (LoopsP.cons q85_0 (s85_0 f142 f143) rfl (e85_0 f142 f143) LoopsP.nil) (e85 f142 f143)
/-! impl.floorDiv -/
def p145 : List SP := [.one (.int .i64), .one (.int .i64)]
def r145 : List SP := [.one (.int .i64)]
noncomputable def F145 (a : Int × Int × Unit) : Option (Int × Unit) :=
  cond (decide (a.2.1 = 0)) none (cond (decide (a.2.1 = 0)) none (cond (decide ((Int.tmod a.1 a.2.1) < 0)) (some ((w64 ((w64 (Int.tdiv a.1 a.2.1)) - 1)), ())) (some ((w64 (Int.tdiv a.1 a.2.1)), ()))))
def E145 : Env := envL []
noncomputable def L145 : LEnv (densS (muts p145 ++ r145)) := lenv []
theorem e145 (a : densS p145) : runF (E145) tab3 (fun _ => false) p145 r145 Proofs.Try.f145 (L145) a = F145 a := by kernel_rfl
theorem ok145 : OK Proofs.Try.prog 145 (mkE p145 r145 false (F145)) :=
  fn_ok tab_ok3 (envL_ok (l := []) OKs.nil) mixed3 (ann := (fun _ => false)) (L := L145) (fn := Proofs.Try.f145) (c := bodyC Proofs.Try.f145) (ls := []) Proofs.Try.func145 (by kernel_rfl) (by kernel_rfl) (by kernel_rfl) (by kernel_rfl)
    LoopsP.nil (e145)
/-! impl.RampAt -/
def p86 : List SP := [.one (.int .i64), .one (.int .i64), .one (.int .i64), .one (.int .i64)]
def r86 : List SP := [.one (.int .i64)]
noncomputable def F86 (f144 : Int × Unit → Option (Bool × Unit)) (f145 : Int × Int × Unit → Option (Int × Unit)) (a : Int × Int × Int × Int × Unit) : Option (Int × Unit) :=
  (f144 (a.1, ())).bind fun x1 => cond (!(!x1.1)) ((f144 (a.2.1, ())).bind fun x2 => cond (!x2.1) (some (0, ())) (cond (decide (a.2.2.1 ≥ a.2.2.2.1)) (some (a.2.1, ())) (cond (!(decide (a.2.2.1 ≤ 0))) (cond (decide (a.2.2.2.1 > 999)) (some (a.1, ())) ((f145 ((w64 (a.2.2.1 * (w64 (a.2.1 - a.1)))), a.2.2.2.1, ())).bind fun x3 => some ((w64 (a.1 + x3.1)), ()))) (some (a.1, ()))))) (some (0, ()))
def E86 (f144 : Int × Unit → Option (Bool × Unit)) (f145 : Int × Int × Unit → Option (Int × Unit)) : Env := envL [(144, mkE p144 r144 false f144), (145, mkE p145 r145 false f145)]
noncomputable def L86 (f144 : Int × Unit → Option (Bool × Unit)) (f145 : Int × Int × Unit → Option (Int × Unit)) : LEnv (densS (muts p86 ++ r86)) := lenv []
theorem e86 (f144 : Int × Unit → Option (Bool × Unit)) (f145 : Int × Int × Unit → Option (Int × Unit)) (a : densS p86) : runF (E86 f144 f145) tab3 (fun _ => false) p86 r86 Proofs.Try.f86 (L86 f144 f145) a = F86 f144 f145 a := by kernel_rfl
theorem ok86 {f144 : Int × Unit → Option (Bool × Unit)} {f145 : Int × Int × Unit → Option (Int × Unit)} (h144 : OK Proofs.Try.prog 144 (mkE p144 r144 false f144)) (h145 : OK Proofs.Try.prog 145 (mkE p145 r145 false f145)) : OK Proofs.Try.prog 86 (mkE p86 r86 false (F86 f144 f145)) :=
  fn_ok tab_ok3 (envL_ok (l := [(144, mkE p144 r144 false f144), (145, mkE p145 r145 false f145)]) (OKs.cons h144 (OKs.cons h145 OKs.nil))) mixed3 (ann := (fun _ => false)) (L := L86 f144 f145) (fn := Proofs.Try.f86) (c := bodyC Proofs.Try.f86) (ls := []) Proofs.Try.func86 (by kernel_rfl) (by kernel_rfl) (by kernel_rfl) (by kernel_rfl)
    LoopsP.nil (e86 f144 f145)
/-! impl.LevelAt -/
def p32 : List SP := [.one (.r .cue), .one (.str), .one (.int .i64)]
def r32 : List SP := [.one (.int .i64)]
def q32_0 : List SP := pat 58 0 [(1, .one (.str)), (2, .one (.int .i64)), (7, .one (.int .i64)), (8, .boxt 5000001 .cue), (19, .one (.r .cue)), (20, .one (.int .i64)), (21, .one (.int .i64))]
noncomputable def s32_0 (f85 : List Cue × Unit → Option (Bool × Unit)) (f86 : Int × Int × Int × Int × Unit → Option (Int × Unit)) (t2 : Str × Int × Int × Cue × List Cue × Int × Int × Unit) (rec K : Str × Int × Int × Cue × List Cue × Int × Int × Unit → Option (Int × Unit)) : Option (Int × Unit) :=
  cond (decide (t2.2.2.2.2.2.2.1 < t2.2.2.2.2.2.1)) (rdL t2.2.2.2.2.1 t2.2.2.2.2.2.2.1 fun d3 => cond (decide (d3.Name = t2.1)) (cond (decide (d3.Tick ≤ t2.2.1)) ((f86 (t2.2.2.1, t2.2.2.2.1.Level, (w64 (d3.Tick - t2.2.2.2.1.Tick)), t2.2.2.2.1.Ramp, ())).bind fun x4 => rec (t2.1, t2.2.1, x4.1, d3, t2.2.2.2.2.1, t2.2.2.2.2.2.1, (w64 (t2.2.2.2.2.2.2.1 + 1)), ())) (rec (t2.1, t2.2.1, t2.2.2.1, t2.2.2.2.1, t2.2.2.2.2.1, t2.2.2.2.2.2.1, (w64 (t2.2.2.2.2.2.2.1 + 1)), ()))) (rec (t2.1, t2.2.1, t2.2.2.1, t2.2.2.2.1, t2.2.2.2.2.1, t2.2.2.2.2.2.1, (w64 (t2.2.2.2.2.2.2.1 + 1)), ()))) (K (t2.1, t2.2.1, t2.2.2.1, t2.2.2.2.1, t2.2.2.2.2.1, t2.2.2.2.2.2.1, t2.2.2.2.2.2.2.1, ()))
noncomputable def F32 (f85 : List Cue × Unit → Option (Bool × Unit)) (f86 : Int × Int × Int × Int × Unit → Option (Int × Unit)) (a : List Cue × Str × Int × Unit) : Option (Int × Unit) :=
  (f85 (a.1, ())).bind fun x1 => cond (!(!x1.1)) (cond (decide (a.2.2.1 < 0)) (some (0, ())) (iterF (s32_0 f85 f86) fuel (a.2.1, a.2.2.1, 0, (⟨0, [], 0, 0⟩ : Cue), a.1, (Int.ofNat (List.length a.1)), 0, ()) fun t5 => (f86 (t5.2.2.1, t5.2.2.2.1.Level, (w64 (t5.2.1 - t5.2.2.2.1.Tick)), t5.2.2.2.1.Ramp, ())).bind fun x6 => some (x6.1, ()))) (some (0, ()))
def E32 (f85 : List Cue × Unit → Option (Bool × Unit)) (f86 : Int × Int × Int × Int × Unit → Option (Int × Unit)) : Env := envL [(85, mkE p85 r85 false f85), (86, mkE p86 r86 false f86)]
noncomputable def L32 (f85 : List Cue × Unit → Option (Bool × Unit)) (f86 : Int × Int × Int × Int × Unit → Option (Int × Unit)) : LEnv (densS (muts p32 ++ r32)) := lenv [(0, loopL (R := densS (muts p32 ++ r32)) q32_0 (s32_0 f85 f86))]
theorem e32_0 (f85 : List Cue × Unit → Option (Bool × Unit)) (f86 : Int × Int × Int × Int × Unit → Option (Int × Unit)) (X : Nat → St → Option (densS (muts p32 ++ r32))) (rec K : densS q32_0 → Option (densS (muts p32 ++ r32))) (t : densS q32_0) :
    ev (E32 f85 f86) tab3 (fun _ => false) (L32 f85 f86) (retK tab3 p32 r32 Proofs.Try.f32.results.toList) (loopC Proofs.Try.f32 0) (fun i s => cond (Nat.beq i 0) (decK 100 q32_0 s K) (X i s)) (fun s => decK 100 q32_0 s rec) (enc q32_0 t) = s32_0 f85 f86 t rec K := by kernel_rfl
theorem e32 (f85 : List Cue × Unit → Option (Bool × Unit)) (f86 : Int × Int × Int × Int × Unit → Option (Int × Unit)) (a : densS p32) : runF (E32 f85 f86) tab3 (fun _ => false) p32 r32 Proofs.Try.f32 (L32 f85 f86) a = F32 f85 f86 a := by kernel_rfl
theorem ok32 {f85 : List Cue × Unit → Option (Bool × Unit)} {f86 : Int × Int × Int × Int × Unit → Option (Int × Unit)} (h85 : OK Proofs.Try.prog 85 (mkE p85 r85 false f85)) (h86 : OK Proofs.Try.prog 86 (mkE p86 r86 false f86)) : OK Proofs.Try.prog 32 (mkE p32 r32 false (F32 f85 f86)) :=
  fn_ok tab_ok3 (envL_ok (l := [(85, mkE p85 r85 false f85), (86, mkE p86 r86 false f86)]) (OKs.cons h85 (OKs.cons h86 OKs.nil))) mixed3 (ann := (fun _ => false)) (L := L32 f85 f86) (fn := Proofs.Try.f32) (c := bodyC Proofs.Try.f32) (ls := [(0, loopC Proofs.Try.f32 0)]) Proofs.Try.func32 (by kernel_rfl) (by kernel_rfl) (by kernel_rfl) (by kernel_rfl)
    (LoopsP.cons q32_0 (s32_0 f85 f86) rfl (e32_0 f85 f86) LoopsP.nil) (e32 f85 f86)
/-! impl.TrackOf -/
def p31 : List SP := [.one (.r .cue), .one (.str), .one (.int .i64)]
def r31 : List SP := [.one (.o 0 .int)]
def q31_0 : List SP := pat 32 0 [(0, .one (.r .cue)), (1, .one (.str)), (7, .one (.o 5000001 .int)), (19, .one (.int .i64)), (20, .one (.int .i64))]
noncomputable def s31_0 (f85 : List Cue × Unit → Option (Bool × Unit)) (f72 : Int × Int × Int × Unit → Option (Bool × Unit)) (f32 : List Cue × Str × Int × Unit → Option (Int × Unit)) (t3 : List Cue × Str × List Int × Int × Int × Unit) (rec K : List Cue × Str × List Int × Int × Int × Unit → Option (List Int × Unit)) : Option (List Int × Unit) :=
  cond (decide (t3.2.2.2.2.1 < t3.2.2.2.1)) ((f32 (t3.1, t3.2.1, t3.2.2.2.2.1, ())).bind fun x4 => capK (List.length t3.2.2.1 + List.length ([x4.1] : List Int)) (rec (t3.1, t3.2.1, (t3.2.2.1 ++ ([x4.1] : List Int)), t3.2.2.2.1, (w64 (t3.2.2.2.2.1 + 1)), ()))) (K (t3.1, t3.2.1, t3.2.2.1, t3.2.2.2.1, t3.2.2.2.2.1, ()))
noncomputable def F31 (f85 : List Cue × Unit → Option (Bool × Unit)) (f72 : Int × Int × Int × Unit → Option (Bool × Unit)) (f32 : List Cue × Str × Int × Unit → Option (Int × Unit)) (a : List Cue × Str × Int × Unit) : Option (List Int × Unit) :=
  (f85 (a.1, ())).bind fun x1 => cond (!(!x1.1)) ((f72 (a.2.2.1, 0, 64, ())).bind fun x2 => cond (!x2.1) (some (([] : List Int), ())) (iterF (s31_0 f85 f72 f32) fuel (a.1, a.2.1, ([] : List Int), a.2.2.1, 0, ()) fun t5 => some (t5.2.2.1, ()))) (some (([] : List Int), ()))
def E31 (f85 : List Cue × Unit → Option (Bool × Unit)) (f72 : Int × Int × Int × Unit → Option (Bool × Unit)) (f32 : List Cue × Str × Int × Unit → Option (Int × Unit)) : Env := envL [(85, mkE p85 r85 false f85), (72, mkE p72 r72 false f72), (32, mkE p32 r32 false f32)]
noncomputable def L31 (f85 : List Cue × Unit → Option (Bool × Unit)) (f72 : Int × Int × Int × Unit → Option (Bool × Unit)) (f32 : List Cue × Str × Int × Unit → Option (Int × Unit)) : LEnv (densS (muts p31 ++ r31)) := lenv [(0, loopL (R := densS (muts p31 ++ r31)) q31_0 (s31_0 f85 f72 f32))]
theorem e31_0 (f85 : List Cue × Unit → Option (Bool × Unit)) (f72 : Int × Int × Int × Unit → Option (Bool × Unit)) (f32 : List Cue × Str × Int × Unit → Option (Int × Unit)) (X : Nat → St → Option (densS (muts p31 ++ r31))) (rec K : densS q31_0 → Option (densS (muts p31 ++ r31))) (t : densS q31_0) :
    ev (E31 f85 f72 f32) tab3 (fun _ => false) (L31 f85 f72 f32) (retK tab3 p31 r31 Proofs.Try.f31.results.toList) (loopC Proofs.Try.f31 0) (fun i s => cond (Nat.beq i 0) (decK 100 q31_0 s K) (X i s)) (fun s => decK 100 q31_0 s rec) (enc q31_0 t) = s31_0 f85 f72 f32 t rec K := by kernel_rfl
theorem e31 (f85 : List Cue × Unit → Option (Bool × Unit)) (f72 : Int × Int × Int × Unit → Option (Bool × Unit)) (f32 : List Cue × Str × Int × Unit → Option (Int × Unit)) (a : densS p31) : runF (E31 f85 f72 f32) tab3 (fun _ => false) p31 r31 Proofs.Try.f31 (L31 f85 f72 f32) a = F31 f85 f72 f32 a := by kernel_rfl
theorem ok31 {f85 : List Cue × Unit → Option (Bool × Unit)} {f72 : Int × Int × Int × Unit → Option (Bool × Unit)} {f32 : List Cue × Str × Int × Unit → Option (Int × Unit)} (h85 : OK Proofs.Try.prog 85 (mkE p85 r85 false f85)) (h72 : OK Proofs.Try.prog 72 (mkE p72 r72 false f72)) (h32 : OK Proofs.Try.prog 32 (mkE p32 r32 false f32)) : OK Proofs.Try.prog 31 (mkE p31 r31 false (F31 f85 f72 f32)) :=
  fn_ok tab_ok3 (envL_ok (l := [(85, mkE p85 r85 false f85), (72, mkE p72 r72 false f72), (32, mkE p32 r32 false f32)]) (OKs.cons h85 (OKs.cons h72 (OKs.cons h32 OKs.nil)))) mixed3 (ann := (fun _ => false)) (L := L31 f85 f72 f32) (fn := Proofs.Try.f31) (c := bodyC Proofs.Try.f31) (ls := [(0, loopC Proofs.Try.f31 0)]) Proofs.Try.func31 (by kernel_rfl) (by kernel_rfl) (by kernel_rfl) (by kernel_rfl)
    (LoopsP.cons q31_0 (s31_0 f85 f72 f32) rfl (e31_0 f85 f72 f32) LoopsP.nil) (e31 f85 f72 f32)
/-! laws.eqIntS -/
def p44 : List SP := [.one (.r .int), .one (.r .int)]
def r44 : List SP := [.one (.bool)]
def q44_0 : List SP := pat 26 0 [(0, .one (.r .int)), (1, .one (.r .int)), (5, .one (.int .i64))]
noncomputable def s44_0 (t1 : List Int × List Int × Int × Unit) (rec K : List Int × List Int × Int × Unit → Option (Bool × Unit)) : Option (Bool × Unit) :=
  cond (decide (t1.2.2.1 < (Int.ofNat (List.length t1.1)))) (rdL t1.1 t1.2.2.1 fun d2 => rdL t1.2.1 t1.2.2.1 fun d3 => cond (!(decide (d2 = d3))) (some (false, ())) (rec (t1.1, t1.2.1, (w64 (t1.2.2.1 + 1)), ()))) (K (t1.1, t1.2.1, t1.2.2.1, ()))
noncomputable def F44 (a : List Int × List Int × Unit) : Option (Bool × Unit) :=
  cond (!(decide ((Int.ofNat (List.length a.1)) = (Int.ofNat (List.length a.2.1))))) (some (false, ())) (iterF (s44_0) fuel (a.1, a.2.1, 0, ()) fun t4 => some (true, ()))
def E44 : Env := envL []
noncomputable def L44 : LEnv (densS (muts p44 ++ r44)) := lenv [(0, loopL (R := densS (muts p44 ++ r44)) q44_0 (s44_0))]
theorem e44_0 (X : Nat → St → Option (densS (muts p44 ++ r44))) (rec K : densS q44_0 → Option (densS (muts p44 ++ r44))) (t : densS q44_0) :
    ev (E44) tab3 (fun _ => false) (L44) (retK tab3 p44 r44 Proofs.Try.f44.results.toList) (loopC Proofs.Try.f44 0) (fun i s => cond (Nat.beq i 0) (decK 100 q44_0 s K) (X i s)) (fun s => decK 100 q44_0 s rec) (enc q44_0 t) = s44_0 t rec K := by kernel_rfl
theorem e44 (a : densS p44) : runF (E44) tab3 (fun _ => false) p44 r44 Proofs.Try.f44 (L44) a = F44 a := by kernel_rfl
theorem ok44 : OK Proofs.Try.prog 44 (mkE p44 r44 false (F44)) :=
  fn_ok tab_ok3 (envL_ok (l := []) OKs.nil) mixed3 (ann := (fun _ => false)) (L := L44) (fn := Proofs.Try.f44) (c := bodyC Proofs.Try.f44) (ls := [(0, loopC Proofs.Try.f44 0)]) Proofs.Try.func44 (by kernel_rfl) (by kernel_rfl) (by kernel_rfl) (by kernel_rfl)
    (LoopsP.cons q44_0 (s44_0) rfl (e44_0) LoopsP.nil) (e44)
/-! laws.eqCue -/
def p101 : List SP := [.t .cue, .t .cue]
def r101 : List SP := [.one (.bool)]
noncomputable def F101 (a : Cue × Cue × Unit) : Option (Bool × Unit) :=
  cond (!(decide (a.1.Tick = a.2.1.Tick))) (some (false, ())) (cond (!decide (a.1.Name = a.2.1.Name)) (some (false, ())) (cond (!(decide (a.1.Level = a.2.1.Level))) (some (false, ())) (cond (!(decide (a.1.Ramp = a.2.1.Ramp))) (some (false, ())) (some (true, ())))))
def E101 : Env := envL []
noncomputable def L101 : LEnv (densS (muts p101 ++ r101)) := lenv []
theorem e101 (a : densS p101) : runF (E101) tab3 (fun _ => false) p101 r101 Proofs.Try.f101 (L101) a = F101 a := by kernel_rfl
theorem ok101 : OK Proofs.Try.prog 101 (mkE p101 r101 false (F101)) :=
  fn_ok tab_ok3 (envL_ok (l := []) OKs.nil) mixed3 (ann := (fun _ => false)) (L := L101) (fn := Proofs.Try.f101) (c := bodyC Proofs.Try.f101) (ls := []) Proofs.Try.func101 (by kernel_rfl) (by kernel_rfl) (by kernel_rfl) (by kernel_rfl)
    LoopsP.nil (e101)
/-! laws.eqCueS -/
def p45 : List SP := [.one (.r .cue), .one (.r .cue)]
def r45 : List SP := [.one (.bool)]
def q45_0 : List SP := pat 27 0 [(0, .one (.r .cue)), (1, .one (.r .cue)), (5, .one (.int .i64))]
noncomputable def s45_0 (f101 : Cue × Cue × Unit → Option (Bool × Unit)) (t1 : List Cue × List Cue × Int × Unit) (rec K : List Cue × List Cue × Int × Unit → Option (Bool × Unit)) : Option (Bool × Unit) :=
  cond (decide (t1.2.2.1 < (Int.ofNat (List.length t1.1)))) (rdL t1.1 t1.2.2.1 fun d2 => rdL t1.2.1 t1.2.2.1 fun d3 => (f101 (d2, d3, ())).bind fun x4 => cond (!x4.1) (some (false, ())) (rec (t1.1, t1.2.1, (w64 (t1.2.2.1 + 1)), ()))) (K (t1.1, t1.2.1, t1.2.2.1, ()))
noncomputable def F45 (f101 : Cue × Cue × Unit → Option (Bool × Unit)) (a : List Cue × List Cue × Unit) : Option (Bool × Unit) :=
  cond (!(decide ((Int.ofNat (List.length a.1)) = (Int.ofNat (List.length a.2.1))))) (some (false, ())) (iterF (s45_0 f101) fuel (a.1, a.2.1, 0, ()) fun t5 => some (true, ()))
def E45 (f101 : Cue × Cue × Unit → Option (Bool × Unit)) : Env := envL [(101, mkE p101 r101 false f101)]
noncomputable def L45 (f101 : Cue × Cue × Unit → Option (Bool × Unit)) : LEnv (densS (muts p45 ++ r45)) := lenv [(0, loopL (R := densS (muts p45 ++ r45)) q45_0 (s45_0 f101))]
theorem e45_0 (f101 : Cue × Cue × Unit → Option (Bool × Unit)) (X : Nat → St → Option (densS (muts p45 ++ r45))) (rec K : densS q45_0 → Option (densS (muts p45 ++ r45))) (t : densS q45_0) :
    ev (E45 f101) tab3 (fun _ => false) (L45 f101) (retK tab3 p45 r45 Proofs.Try.f45.results.toList) (loopC Proofs.Try.f45 0) (fun i s => cond (Nat.beq i 0) (decK 100 q45_0 s K) (X i s)) (fun s => decK 100 q45_0 s rec) (enc q45_0 t) = s45_0 f101 t rec K := by kernel_rfl
theorem e45 (f101 : Cue × Cue × Unit → Option (Bool × Unit)) (a : densS p45) : runF (E45 f101) tab3 (fun _ => false) p45 r45 Proofs.Try.f45 (L45 f101) a = F45 f101 a := by kernel_rfl
theorem ok45 {f101 : Cue × Cue × Unit → Option (Bool × Unit)} (h101 : OK Proofs.Try.prog 101 (mkE p101 r101 false f101)) : OK Proofs.Try.prog 45 (mkE p45 r45 false (F45 f101)) :=
  fn_ok tab_ok3 (envL_ok (l := [(101, mkE p101 r101 false f101)]) (OKs.cons h101 OKs.nil)) mixed3 (ann := (fun _ => false)) (L := L45 f101) (fn := Proofs.Try.f45) (c := bodyC Proofs.Try.f45) (ls := [(0, loopC Proofs.Try.f45 0)]) Proofs.Try.func45 (by kernel_rfl) (by kernel_rfl) (by kernel_rfl) (by kernel_rfl)
    (LoopsP.cons q45_0 (s45_0 f101) rfl (e45_0 f101) LoopsP.nil) (e45 f101)
/-! laws.markText -/
def p102 : List SP := [.one (.int .i64)]
def r102 : List SP := [.one (.str)]
def q102_0 : List SP := pat 20 0 [(0, .one (.int .i64)), (3, .one (.str))]
noncomputable def s102_0 (t1 : Int × Str × Unit) (rec K : Int × Str × Unit → Option (Str × Unit)) : Option (Str × Unit) :=
  cond (decide (t1.1 > 0)) (capK (List.length (List.map (fun n => UInt8.ofNat (Int.toNat n)) ([(IntKind.wrap .u8 (w64 (48 + (Int.tmod t1.1 10))))] : List Int)) + List.length t1.2.1) (rec ((w64 (Int.tdiv t1.1 10)), ((List.map (fun n => UInt8.ofNat (Int.toNat n)) ([(IntKind.wrap .u8 (w64 (48 + (Int.tmod t1.1 10))))] : List Int)) ++ t1.2.1), ()))) (K (t1.1, t1.2.1, ()))
noncomputable def F102 (a : Int × Unit) : Option (Str × Unit) :=
  cond (decide (a.1 ≤ 0)) (some ([109, 48], ())) (iterF (s102_0) fuel (a.1, [], ()) fun t2 => capK (List.length [109] + List.length t2.2.1) (some (([109] ++ t2.2.1), ())))
def E102 : Env := envL []
noncomputable def L102 : LEnv (densS (muts p102 ++ r102)) := lenv [(0, loopL (R := densS (muts p102 ++ r102)) q102_0 (s102_0))]
theorem e102_0 (X : Nat → St → Option (densS (muts p102 ++ r102))) (rec K : densS q102_0 → Option (densS (muts p102 ++ r102))) (t : densS q102_0) :
    ev (E102) tab3 (fun _ => false) (L102) (retK tab3 p102 r102 Proofs.Try.f102.results.toList) (loopC Proofs.Try.f102 0) (fun i s => cond (Nat.beq i 0) (decK 100 q102_0 s K) (X i s)) (fun s => decK 100 q102_0 s rec) (enc q102_0 t) = s102_0 t rec K := by kernel_rfl
theorem e102 (a : densS p102) : runF (E102) tab3 (fun _ => false) p102 r102 Proofs.Try.f102 (L102) a = F102 a := by kernel_rfl
theorem ok102 : OK Proofs.Try.prog 102 (mkE p102 r102 false (F102)) :=
  fn_ok tab_ok3 (envL_ok (l := []) OKs.nil) mixed3 (ann := (fun _ => false)) (L := L102) (fn := Proofs.Try.f102) (c := bodyC Proofs.Try.f102) (ls := [(0, loopC Proofs.Try.f102 0)]) Proofs.Try.func102 (by kernel_rfl) (by kernel_rfl) (by kernel_rfl) (by kernel_rfl)
    (LoopsP.cons q102_0 (s102_0) rfl (e102_0) LoopsP.nil) (e102)
/-! laws.markCueS -/
def p46 : List SP := [.one (.o 0 .cue), .one (.int .i64)]
def r46 : List SP := [.one (.int .i64)]
def q46_0 : List SP := pat 42 0 [(0, .one (.o 0 .cue)), (1, .one (.int .i64)), (5, .one (.int .i64))]
noncomputable def s46_0 (f102 : Int × Unit → Option (Str × Unit)) (t1 : List Cue × Int × Int × Unit) (rec K : List Cue × Int × Int × Unit → Option (List Cue × Int × Unit)) : Option (List Cue × Int × Unit) :=
  cond (decide (t1.2.2.1 < (Int.ofNat (List.length t1.1)))) (rdL t1.1 t1.2.2.1 fun _ => (t1.1[(Int.toNat t1.2.2.1)]?).bind fun d2 => (f102 ((w64 (t1.2.1 + 1)), ())).bind fun x3 => rdL (List.set t1.1 (Int.toNat t1.2.2.1) (⟨t1.2.1, d2.Name, d2.Level, d2.Ramp⟩ : Cue)) t1.2.2.1 fun _ => ((List.set t1.1 (Int.toNat t1.2.2.1) (⟨t1.2.1, d2.Name, d2.Level, d2.Ramp⟩ : Cue))[(Int.toNat t1.2.2.1)]?).bind fun d4 => rdL (List.set (List.set t1.1 (Int.toNat t1.2.2.1) (⟨t1.2.1, d2.Name, d2.Level, d2.Ramp⟩ : Cue)) (Int.toNat t1.2.2.1) (⟨d4.Tick, x3.1, d4.Level, d4.Ramp⟩ : Cue)) t1.2.2.1 fun _ => ((List.set (List.set t1.1 (Int.toNat t1.2.2.1) (⟨t1.2.1, d2.Name, d2.Level, d2.Ramp⟩ : Cue)) (Int.toNat t1.2.2.1) (⟨d4.Tick, x3.1, d4.Level, d4.Ramp⟩ : Cue))[(Int.toNat t1.2.2.1)]?).bind fun d5 => rdL (List.set (List.set (List.set t1.1 (Int.toNat t1.2.2.1) (⟨t1.2.1, d2.Name, d2.Level, d2.Ramp⟩ : Cue)) (Int.toNat t1.2.2.1) (⟨d4.Tick, x3.1, d4.Level, d4.Ramp⟩ : Cue)) (Int.toNat t1.2.2.1) (⟨d5.Tick, d5.Name, (w64 ((w64 (t1.2.1 + 1)) + 1)), d5.Ramp⟩ : Cue)) t1.2.2.1 fun _ => ((List.set (List.set (List.set t1.1 (Int.toNat t1.2.2.1) (⟨t1.2.1, d2.Name, d2.Level, d2.Ramp⟩ : Cue)) (Int.toNat t1.2.2.1) (⟨d4.Tick, x3.1, d4.Level, d4.Ramp⟩ : Cue)) (Int.toNat t1.2.2.1) (⟨d5.Tick, d5.Name, (w64 ((w64 (t1.2.1 + 1)) + 1)), d5.Ramp⟩ : Cue))[(Int.toNat t1.2.2.1)]?).bind fun d6 => rec ((List.set (List.set (List.set (List.set t1.1 (Int.toNat t1.2.2.1) (⟨t1.2.1, d2.Name, d2.Level, d2.Ramp⟩ : Cue)) (Int.toNat t1.2.2.1) (⟨d4.Tick, x3.1, d4.Level, d4.Ramp⟩ : Cue)) (Int.toNat t1.2.2.1) (⟨d5.Tick, d5.Name, (w64 ((w64 (t1.2.1 + 1)) + 1)), d5.Ramp⟩ : Cue)) (Int.toNat t1.2.2.1) (⟨d6.Tick, d6.Name, d6.Level, (w64 ((w64 ((w64 (t1.2.1 + 1)) + 1)) + 1))⟩ : Cue)), (w64 ((w64 ((w64 ((w64 (t1.2.1 + 1)) + 1)) + 1)) + 1)), (w64 (t1.2.2.1 + 1)), ())) (K (t1.1, t1.2.1, t1.2.2.1, ()))
noncomputable def F46 (f102 : Int × Unit → Option (Str × Unit)) (a : List Cue × Int × Unit) : Option (List Cue × Int × Unit) :=
  iterF (s46_0 f102) fuel (a.1, a.2.1, 0, ()) fun t7 => some (t7.1, t7.2.1, ())
def E46 (f102 : Int × Unit → Option (Str × Unit)) : Env := envL [(102, mkE p102 r102 false f102)]
noncomputable def L46 (f102 : Int × Unit → Option (Str × Unit)) : LEnv (densS (muts p46 ++ r46)) := lenv [(0, loopL (R := densS (muts p46 ++ r46)) q46_0 (s46_0 f102))]
theorem e46_0 (f102 : Int × Unit → Option (Str × Unit)) (X : Nat → St → Option (densS (muts p46 ++ r46))) (rec K : densS q46_0 → Option (densS (muts p46 ++ r46))) (t : densS q46_0) :
    ev (E46 f102) tab3 (fun _ => false) (L46 f102) (retK tab3 p46 r46 Proofs.Try.f46.results.toList) (loopC Proofs.Try.f46 0) (fun i s => cond (Nat.beq i 0) (decK 100 q46_0 s K) (X i s)) (fun s => decK 100 q46_0 s rec) (enc q46_0 t) = s46_0 f102 t rec K := by kernel_rfl
theorem e46 (f102 : Int × Unit → Option (Str × Unit)) (a : densS p46) : runF (E46 f102) tab3 (fun _ => false) p46 r46 Proofs.Try.f46 (L46 f102) a = F46 f102 a := by kernel_rfl
theorem ok46 {f102 : Int × Unit → Option (Str × Unit)} (h102 : OK Proofs.Try.prog 102 (mkE p102 r102 false f102)) : OK Proofs.Try.prog 46 (mkE p46 r46 false (F46 f102)) :=
  fn_ok tab_ok3 (envL_ok (l := [(102, mkE p102 r102 false f102)]) (OKs.cons h102 OKs.nil)) mixed3 (ann := (fun _ => false)) (L := L46 f102) (fn := Proofs.Try.f46) (c := bodyC Proofs.Try.f46) (ls := [(0, loopC Proofs.Try.f46 0)]) Proofs.Try.func46 (by kernel_rfl) (by kernel_rfl) (by kernel_rfl) (by kernel_rfl)
    (LoopsP.cons q46_0 (s46_0 f102) rfl (e46_0 f102) LoopsP.nil) (e46 f102)
/-! laws.markIntS -/
def p47 : List SP := [.one (.o 0 .int), .one (.int .i64)]
def r47 : List SP := [.one (.int .i64)]
def q47_0 : List SP := pat 19 0 [(0, .one (.o 0 .int)), (1, .one (.int .i64)), (5, .one (.int .i64))]
noncomputable def s47_0 (t1 : List Int × Int × Int × Unit) (rec K : List Int × Int × Int × Unit → Option (List Int × Int × Unit)) : Option (List Int × Int × Unit) :=
  cond (decide (t1.2.2.1 < (Int.ofNat (List.length t1.1)))) (rdL t1.1 t1.2.2.1 fun _ => (t1.1[(Int.toNat t1.2.2.1)]?).bind fun d2 => rec ((List.set t1.1 (Int.toNat t1.2.2.1) t1.2.1), (w64 (t1.2.1 + 1)), (w64 (t1.2.2.1 + 1)), ())) (K (t1.1, t1.2.1, t1.2.2.1, ()))
noncomputable def F47 (a : List Int × Int × Unit) : Option (List Int × Int × Unit) :=
  iterF (s47_0) fuel (a.1, a.2.1, 0, ()) fun t3 => some (t3.1, t3.2.1, ())
def E47 : Env := envL []
noncomputable def L47 : LEnv (densS (muts p47 ++ r47)) := lenv [(0, loopL (R := densS (muts p47 ++ r47)) q47_0 (s47_0))]
theorem e47_0 (X : Nat → St → Option (densS (muts p47 ++ r47))) (rec K : densS q47_0 → Option (densS (muts p47 ++ r47))) (t : densS q47_0) :
    ev (E47) tab3 (fun _ => false) (L47) (retK tab3 p47 r47 Proofs.Try.f47.results.toList) (loopC Proofs.Try.f47 0) (fun i s => cond (Nat.beq i 0) (decK 100 q47_0 s K) (X i s)) (fun s => decK 100 q47_0 s rec) (enc q47_0 t) = s47_0 t rec K := by kernel_rfl
theorem e47 (a : densS p47) : runF (E47) tab3 (fun _ => false) p47 r47 Proofs.Try.f47 (L47) a = F47 a := by kernel_rfl
theorem ok47 : OK Proofs.Try.prog 47 (mkE p47 r47 false (F47)) :=
  fn_ok tab_ok3 (envL_ok (l := []) OKs.nil) mixed3 (ann := (fun _ => false)) (L := L47) (fn := Proofs.Try.f47) (c := bodyC Proofs.Try.f47) (ls := [(0, loopC Proofs.Try.f47 0)]) Proofs.Try.func47 (by kernel_rfl) (by kernel_rfl) (by kernel_rfl) (by kernel_rfl)
    (LoopsP.cons q47_0 (s47_0) rfl (e47_0) LoopsP.nil) (e47)
/-! laws.heldIntS -/
def p48 : List SP := [.one (.r .int), .one (.int .i64)]
def r48 : List SP := [.one (.int .i64)]
def q48_0 : List SP := pat 21 0 [(0, .one (.r .int)), (1, .one (.int .i64)), (5, .one (.int .i64))]
noncomputable def s48_0 (t1 : List Int × Int × Int × Unit) (rec K : List Int × Int × Int × Unit → Option (Int × Unit)) : Option (Int × Unit) :=
  cond (decide (t1.2.2.1 < (Int.ofNat (List.length t1.1)))) (rdL t1.1 t1.2.2.1 fun d2 => cond (!(decide (d2 = t1.2.1))) (some ((-1), ())) (rec (t1.1, (w64 (t1.2.1 + 1)), (w64 (t1.2.2.1 + 1)), ()))) (K (t1.1, t1.2.1, t1.2.2.1, ()))
noncomputable def F48 (a : List Int × Int × Unit) : Option (Int × Unit) :=
  iterF (s48_0) fuel (a.1, a.2.1, 0, ()) fun t3 => some (t3.2.1, ())
def E48 : Env := envL []
noncomputable def L48 : LEnv (densS (muts p48 ++ r48)) := lenv [(0, loopL (R := densS (muts p48 ++ r48)) q48_0 (s48_0))]
theorem e48_0 (X : Nat → St → Option (densS (muts p48 ++ r48))) (rec K : densS q48_0 → Option (densS (muts p48 ++ r48))) (t : densS q48_0) :
    ev (E48) tab3 (fun _ => false) (L48) (retK tab3 p48 r48 Proofs.Try.f48.results.toList) (loopC Proofs.Try.f48 0) (fun i s => cond (Nat.beq i 0) (decK 100 q48_0 s K) (X i s)) (fun s => decK 100 q48_0 s rec) (enc q48_0 t) = s48_0 t rec K := by kernel_rfl
theorem e48 (a : densS p48) : runF (E48) tab3 (fun _ => false) p48 r48 Proofs.Try.f48 (L48) a = F48 a := by kernel_rfl
theorem ok48 : OK Proofs.Try.prog 48 (mkE p48 r48 false (F48)) :=
  fn_ok tab_ok3 (envL_ok (l := []) OKs.nil) mixed3 (ann := (fun _ => false)) (L := L48) (fn := Proofs.Try.f48) (c := bodyC Proofs.Try.f48) (ls := [(0, loopC Proofs.Try.f48 0)]) Proofs.Try.func48 (by kernel_rfl) (by kernel_rfl) (by kernel_rfl) (by kernel_rfl)
    (LoopsP.cons q48_0 (s48_0) rfl (e48_0) LoopsP.nil) (e48)
/-! laws.FnExactTrackOf -/
def p8 : List SP := [.one (.r .cue), .one (.str), .one (.int .i64)]
def r8 : List SP := [.one (.bool)]
noncomputable def F8 (f41 : List Cue × Int × Unit → Option (Int × Unit)) (f43 : List Cue × Unit → Option (List Cue × Unit)) (f42 : List Cue × Str × Int × Unit → Option (List Int × Unit)) (f31 : List Cue × Str × Int × Unit → Option (List Int × Unit)) (f44 : List Int × List Int × Unit → Option (Bool × Unit)) (f45 : List Cue × List Cue × Unit → Option (Bool × Unit)) (f46 : List Cue × Int × Unit → Option (List Cue × Int × Unit)) (f47 : List Int × Int × Unit → Option (List Int × Int × Unit)) (f48 : List Int × Int × Unit → Option (Int × Unit)) (a : List Cue × Str × Int × Unit) : Option (Bool × Unit) :=
  cond (decide ((Int.ofNat (List.length a.2.1)) > 1048576)) (some (true, ())) ((f41 (a.1, 1048576, ())).bind fun x1 => cond (decide (x1.1 < 0)) (some (true, ())) ((f43 (a.1, ())).bind fun x2 => (f42 (x2.1, a.2.1, a.2.2.1, ())).bind fun x3 => (f43 (a.1, ())).bind fun x4 => (f31 (x4.1, a.2.1, a.2.2.1, ())).bind fun x5 => (f44 (x5.1, x3.1, ())).bind fun x6 => cond (!x6.1) (some (false, ())) ((f43 (a.1, ())).bind fun x7 => (f45 (x4.1, x7.1, ())).bind fun x8 => cond (!x8.1) (some (false, ())) ((f46 (x4.1, 1, ())).bind fun x9 => cond (!(decide (x9.2.1 < 0))) ((f44 (x5.1, x3.1, ())).bind fun x10 => cond (!x10.1) (some (false, ())) ((f47 (x5.1, 1, ())).bind fun x11 => (f48 (x11.1, 1, ())).bind fun x12 => cond (decide (x12.1 < 0)) (some (false, ())) (cond (!(decide (x12.1 = x11.2.1))) (some (false, ())) ((f43 (a.1, ())).bind fun x13 => (f31 (x13.1, a.2.1, a.2.2.1, ())).bind fun x14 => (f44 (x14.1, x3.1, ())).bind fun x15 => cond (!x15.1) (some (false, ())) ((f48 (x11.1, 1, ())).bind fun x16 => cond (decide (x16.1 < 0)) (some (false, ())) (cond (!(decide (x16.1 = x11.2.1))) (some (false, ())) (some (true, ())))))))) (some (false, ()))))))
def E8 (f41 : List Cue × Int × Unit → Option (Int × Unit)) (f43 : List Cue × Unit → Option (List Cue × Unit)) (f42 : List Cue × Str × Int × Unit → Option (List Int × Unit)) (f31 : List Cue × Str × Int × Unit → Option (List Int × Unit)) (f44 : List Int × List Int × Unit → Option (Bool × Unit)) (f45 : List Cue × List Cue × Unit → Option (Bool × Unit)) (f46 : List Cue × Int × Unit → Option (List Cue × Int × Unit)) (f47 : List Int × Int × Unit → Option (List Int × Int × Unit)) (f48 : List Int × Int × Unit → Option (Int × Unit)) : Env := envL [(41, mkE p41 r41 false f41), (43, mkE p43 r43 false f43), (42, mkE p42 r42 false f42), (31, mkE p31 r31 false f31), (44, mkE p44 r44 false f44), (45, mkE p45 r45 false f45), (46, mkE p46 r46 false f46), (47, mkE p47 r47 false f47), (48, mkE p48 r48 false f48)]
noncomputable def L8 (f41 : List Cue × Int × Unit → Option (Int × Unit)) (f43 : List Cue × Unit → Option (List Cue × Unit)) (f42 : List Cue × Str × Int × Unit → Option (List Int × Unit)) (f31 : List Cue × Str × Int × Unit → Option (List Int × Unit)) (f44 : List Int × List Int × Unit → Option (Bool × Unit)) (f45 : List Cue × List Cue × Unit → Option (Bool × Unit)) (f46 : List Cue × Int × Unit → Option (List Cue × Int × Unit)) (f47 : List Int × Int × Unit → Option (List Int × Int × Unit)) (f48 : List Int × Int × Unit → Option (Int × Unit)) : LEnv (densS (muts p8 ++ r8)) := lenv []
theorem e8 (f41 : List Cue × Int × Unit → Option (Int × Unit)) (f43 : List Cue × Unit → Option (List Cue × Unit)) (f42 : List Cue × Str × Int × Unit → Option (List Int × Unit)) (f31 : List Cue × Str × Int × Unit → Option (List Int × Unit)) (f44 : List Int × List Int × Unit → Option (Bool × Unit)) (f45 : List Cue × List Cue × Unit → Option (Bool × Unit)) (f46 : List Cue × Int × Unit → Option (List Cue × Int × Unit)) (f47 : List Int × Int × Unit → Option (List Int × Int × Unit)) (f48 : List Int × Int × Unit → Option (Int × Unit)) (a : densS p8) : runF (E8 f41 f43 f42 f31 f44 f45 f46 f47 f48) tab3 (fun _ => false) p8 r8 Proofs.Try.f8 (L8 f41 f43 f42 f31 f44 f45 f46 f47 f48) a = F8 f41 f43 f42 f31 f44 f45 f46 f47 f48 a := by kernel_rfl
theorem ok8 {f41 : List Cue × Int × Unit → Option (Int × Unit)} {f43 : List Cue × Unit → Option (List Cue × Unit)} {f42 : List Cue × Str × Int × Unit → Option (List Int × Unit)} {f31 : List Cue × Str × Int × Unit → Option (List Int × Unit)} {f44 : List Int × List Int × Unit → Option (Bool × Unit)} {f45 : List Cue × List Cue × Unit → Option (Bool × Unit)} {f46 : List Cue × Int × Unit → Option (List Cue × Int × Unit)} {f47 : List Int × Int × Unit → Option (List Int × Int × Unit)} {f48 : List Int × Int × Unit → Option (Int × Unit)} (h41 : OK Proofs.Try.prog 41 (mkE p41 r41 false f41)) (h43 : OK Proofs.Try.prog 43 (mkE p43 r43 false f43)) (h42 : OK Proofs.Try.prog 42 (mkE p42 r42 false f42)) (h31 : OK Proofs.Try.prog 31 (mkE p31 r31 false f31)) (h44 : OK Proofs.Try.prog 44 (mkE p44 r44 false f44)) (h45 : OK Proofs.Try.prog 45 (mkE p45 r45 false f45)) (h46 : OK Proofs.Try.prog 46 (mkE p46 r46 false f46)) (h47 : OK Proofs.Try.prog 47 (mkE p47 r47 false f47)) (h48 : OK Proofs.Try.prog 48 (mkE p48 r48 false f48)) : OK Proofs.Try.prog 8 (mkE p8 r8 false (F8 f41 f43 f42 f31 f44 f45 f46 f47 f48)) :=
  fn_ok tab_ok3 (envL_ok (l := [(41, mkE p41 r41 false f41), (43, mkE p43 r43 false f43), (42, mkE p42 r42 false f42), (31, mkE p31 r31 false f31), (44, mkE p44 r44 false f44), (45, mkE p45 r45 false f45), (46, mkE p46 r46 false f46), (47, mkE p47 r47 false f47), (48, mkE p48 r48 false f48)]) (OKs.cons h41 (OKs.cons h43 (OKs.cons h42 (OKs.cons h31 (OKs.cons h44 (OKs.cons h45 (OKs.cons h46 (OKs.cons h47 (OKs.cons h48 OKs.nil)))))))))) mixed3 (ann := (fun _ => false)) (L := L8 f41 f43 f42 f31 f44 f45 f46 f47 f48) (fn := Proofs.Try.f8) (c := bodyC Proofs.Try.f8) (ls := []) Proofs.Try.func8 (by kernel_rfl) (by kernel_rfl) (by kernel_rfl) (by kernel_rfl)
    LoopsP.nil (e8 f41 f43 f42 f31 f44 f45 f46 f47 f48)
end Ev
