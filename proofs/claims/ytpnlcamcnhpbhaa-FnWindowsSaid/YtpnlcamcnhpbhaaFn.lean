/- Functions of the program, as the evaluator sees them. -/
import Derived.Test.YtpnlcamcnhpbhaaLib
set_option linter.unusedVariables false
set_option maxRecDepth 100000
namespace Ev
open Go
def tab : Tab := [(3, ⟨1, false, 8, [.int .i64 0], [], .int .i64, false⟩),
  (4, ⟨1, false, 1, [.bool false], [], .bool, false⟩),
  (5, ⟨1, false, 1, [.int .u8 0], [], .int .u8, false⟩),
  (22, ⟨1, false, 24, [.nils], [], .sl .int, false⟩),
  (28, ⟨1, false, 24, [.nils], [], .sl .u8, false⟩),
  (46, ⟨3, true, 40, [.nils, .int .i64 0, .int .i64 0], [(0, 1, false), (1, 1, false), (2, 1, false)], .struct, false⟩)]
theorem tab_ok : TabOK Proofs.Try.prog tab := tab_of2 (by kernel_rfl) (by kernel_rfl)
theorem mixed : Proofs.Try.prog.follows .mixedOrders = true := by kernel_rfl
/-! laws.toIntS -/
def p6 : List SP := [.one (.r .int)]
def r6 : List SP := [.one (.o 0 .int)]
abbrev T6 := List Int × Unit → Option (List Int × Unit)
abbrev N6 (f : T6) : Entry := mkE p6 r6 false f
def q6_0 : List SP := pat 22 0 [(0, .one (.r .int)), (3, .one (.o 5000001 .int)), (4, .one (.int .i64))]
noncomputable def s6_0 (t1 : List Int × List Int × Int × Unit) (rec K : List Int × List Int × Int × Unit → Option (List Int × Unit)) : Option (List Int × Unit) :=
  cond (decide (t1.2.2.1 < (Int.ofNat (List.length t1.1)))) (rdL t1.1 t1.2.2.1 fun d2 => rdL t1.2.1 t1.2.2.1 fun _ => (t1.2.1[(Int.toNat t1.2.2.1)]?).bind fun d3 => rec (t1.1, (List.set t1.2.1 (Int.toNat t1.2.2.1) d2), (w64 (t1.2.2.1 + 1)), ())) (K (t1.1, t1.2.1, t1.2.2.1, ()))
noncomputable def F6 (a : List Int × Unit) : Option (List Int × Unit) :=
  okIf ((0 : Int) ≤ (Int.ofNat (List.length a.1))) (capK (Int.toNat (Int.ofNat (List.length a.1))) (iterF (s6_0) fuel (a.1, (List.replicate (Int.toNat (Int.ofNat (List.length a.1))) (Ty.zero .int)), 0, ()) fun t4 => some (t4.2.1, ())))
def E6 : Env := envL []
noncomputable def L6 : LEnv (densS (muts p6 ++ r6)) := lenv [(0, loopL (R := densS (muts p6 ++ r6)) q6_0 (s6_0))]
theorem e6_0 (X : Nat → St → Option (densS (muts p6 ++ r6))) (rec K : densS q6_0 → Option (densS (muts p6 ++ r6))) (t : densS q6_0) :
    ev (E6) tab (fun _ => false) (L6) (retK tab p6 r6 Proofs.Try.f6.results.toList) (loopC Proofs.Try.f6 0) (fun i s => cond (Nat.beq i 0) (decK 100 q6_0 s K) (X i s)) (fun s => decK 100 q6_0 s rec) (enc q6_0 t) = s6_0 t rec K := by kernel_rfl
theorem e6 (a : densS p6) : runF (E6) tab (fun _ => false) p6 r6 Proofs.Try.f6 (L6) a = F6 a := by kernel_rfl
theorem ok6 : OK Proofs.Try.prog 6 (mkE p6 r6 false (F6)) :=
  fn_ok (E := E6) tab_ok (envL_ok OKs.nil) mixed (ann := (fun _ => false)) (L := L6) (fn := Proofs.Try.f6) (c := bodyC Proofs.Try.f6) (ls := [(0, loopC Proofs.Try.f6 0)]) Proofs.Try.func6 (by kernel_rfl) (by kernel_rfl) (by kernel_rfl) (by kernel_rfl)
    (LoopsP.cons q6_0 (s6_0) rfl (e6_0) LoopsP.nil) (e6)
/-! spec.l1In -/
def p29 : List SP := [.one (.int .i64), .one (.int .i64), .one (.int .i64)]
def r29 : List SP := [.one (.bool)]
abbrev T29 := Int × Int × Int × Unit → Option (Bool × Unit)
abbrev N29 (f : T29) : Entry := mkE p29 r29 false f
noncomputable def F29 (a : Int × Int × Int × Unit) : Option (Bool × Unit) :=
  cond (decide (a.1 ≥ a.2.1)) (some ((decide (a.1 ≤ a.2.2.1)), ())) (some (false, ()))
def E29 : Env := envL []
noncomputable def L29 : LEnv (densS (muts p29 ++ r29)) := lenv []
theorem e29 (a : densS p29) : runF (E29) tab (fun _ => false) p29 r29 Proofs.Try.f29 (L29) a = F29 a := by kernel_rfl
theorem ok29 : OK Proofs.Try.prog 29 (mkE p29 r29 false (F29)) :=
  fn_ok (E := E29) tab_ok (envL_ok OKs.nil) mixed (ann := (fun _ => false)) (L := L29) (fn := Proofs.Try.f29) (c := bodyC Proofs.Try.f29) (ls := []) Proofs.Try.func29 (by kernel_rfl) (by kernel_rfl) (by kernel_rfl) (by kernel_rfl)
    LoopsP.nil (e29)
/-! spec.IsTrack -/
def p19 : List SP := [.one (.r .int)]
def r19 : List SP := [.one (.bool)]
abbrev T19 := List Int × Unit → Option (Bool × Unit)
abbrev N19 (f : T19) : Entry := mkE p19 r19 false f
def q19_0 : List SP := pat 18 0 [(0, .one (.r .int)), (5, .one (.r .int)), (6, .one (.int .i64)), (7, .one (.int .i64))]
noncomputable def s19_0 (f29 : T29) (t1 : List Int × List Int × Int × Int × Unit) (rec K : List Int × List Int × Int × Int × Unit → Option (Bool × Unit)) : Option (Bool × Unit) :=
  cond (decide (t1.2.2.2.1 < t1.2.2.1)) (rdL t1.2.1 t1.2.2.2.1 fun d2 => (f29 (d2, 0, 32, ())).bind fun x3 => cond (!x3.1) (some (false, ())) (rec (t1.1, t1.2.1, t1.2.2.1, (w64 (t1.2.2.2.1 + 1)), ()))) (K (t1.1, t1.2.1, t1.2.2.1, t1.2.2.2.1, ()))
noncomputable def F19 (f29 : T29) (a : List Int × Unit) : Option (Bool × Unit) :=
  iterF (s19_0 f29) fuel (a.1, a.1, (Int.ofNat (List.length a.1)), 0, ()) fun t4 => some ((decide ((Int.ofNat (List.length t4.1)) ≤ 64)), ())
def E19 (f29 : T29) : Env := envL [(29, N29 f29)]
noncomputable def L19 (f29 : T29) : LEnv (densS (muts p19 ++ r19)) := lenv [(0, loopL (R := densS (muts p19 ++ r19)) q19_0 (s19_0 f29))]
theorem e19_0 (f29 : T29) (X : Nat → St → Option (densS (muts p19 ++ r19))) (rec K : densS q19_0 → Option (densS (muts p19 ++ r19))) (t : densS q19_0) :
    ev (E19 f29) tab (fun _ => false) (L19 f29) (retK tab p19 r19 Proofs.Try.f19.results.toList) (loopC Proofs.Try.f19 0) (fun i s => cond (Nat.beq i 0) (decK 100 q19_0 s K) (X i s)) (fun s => decK 100 q19_0 s rec) (enc q19_0 t) = s19_0 f29 t rec K := by kernel_rfl
theorem e19 (f29 : T29) (a : densS p19) : runF (E19 f29) tab (fun _ => false) p19 r19 Proofs.Try.f19 (L19 f29) a = F19 f29 a := by kernel_rfl
theorem ok19 {f29 : T29} (h29 : OK Proofs.Try.prog 29 (N29 f29)) : OK Proofs.Try.prog 19 (mkE p19 r19 false (F19 f29)) :=
  fn_ok (E := E19 f29) tab_ok (envL_ok (OKs.cons h29 OKs.nil)) mixed (ann := (fun _ => false)) (L := L19 f29) (fn := Proofs.Try.f19) (c := bodyC Proofs.Try.f19) (ls := [(0, loopC Proofs.Try.f19 0)]) Proofs.Try.func19 (by kernel_rfl) (by kernel_rfl) (by kernel_rfl) (by kernel_rfl)
    (LoopsP.cons q19_0 (s19_0 f29) rfl (e19_0 f29) LoopsP.nil) (e19 f29)
/-! spec.JoinTracks -/
def p5 : List SP := [.one (.r .int), .one (.r .int)]
def r5 : List SP := [.one (.o 0 .int), .one (.bool)]
abbrev T5 := List Int × List Int × Unit → Option (List Int × Bool × Unit)
abbrev N5 (f : T5) : Entry := mkE p5 r5 false f
noncomputable def F5 (f19 : T19) (a : List Int × List Int × Unit) : Option (List Int × Bool × Unit) :=
  capK (List.length ([] : List Int) + List.length a.1) (capK (List.length (([] : List Int) ++ a.1) + List.length a.2.1) ((f19 (a.1, ())).bind fun x1 => cond (!(!x1.1)) ((f19 (a.2.1, ())).bind fun x2 => cond (!(!x2.1)) ((f19 (((([] : List Int) ++ a.1) ++ a.2.1), ())).bind fun x3 => cond (!x3.1) (some (([] : List Int), false, ())) (some (((([] : List Int) ++ a.1) ++ a.2.1), true, ()))) (some (([] : List Int), false, ()))) (some (([] : List Int), false, ()))))
def E5 (f19 : T19) : Env := envL [(19, N19 f19)]
noncomputable def L5 (f19 : T19) : LEnv (densS (muts p5 ++ r5)) := lenv []
theorem e5 (f19 : T19) (a : densS p5) : runF (E5 f19) tab (fun _ => false) p5 r5 Proofs.Try.f5 (L5 f19) a = F5 f19 a := by kernel_rfl
theorem ok5 {f19 : T19} (h19 : OK Proofs.Try.prog 19 (N19 f19)) : OK Proofs.Try.prog 5 (mkE p5 r5 false (F5 f19)) :=
  fn_ok (E := E5 f19) tab_ok (envL_ok (OKs.cons h19 OKs.nil)) mixed (ann := (fun _ => false)) (L := L5 f19) (fn := Proofs.Try.f5) (c := bodyC Proofs.Try.f5) (ls := []) Proofs.Try.func5 (by kernel_rfl) (by kernel_rfl) (by kernel_rfl) (by kernel_rfl)
    LoopsP.nil (e5 f19)
/-! laws.eqIntS -/
def p8 : List SP := [.one (.r .int), .one (.r .int)]
def r8 : List SP := [.one (.bool)]
abbrev T8 := List Int × List Int × Unit → Option (Bool × Unit)
abbrev N8 (f : T8) : Entry := mkE p8 r8 false f
def q8_0 : List SP := pat 26 0 [(0, .one (.r .int)), (1, .one (.r .int)), (5, .one (.int .i64))]
noncomputable def s8_0 (t1 : List Int × List Int × Int × Unit) (rec K : List Int × List Int × Int × Unit → Option (Bool × Unit)) : Option (Bool × Unit) :=
  cond (decide (t1.2.2.1 < (Int.ofNat (List.length t1.1)))) (rdL t1.1 t1.2.2.1 fun d2 => rdL t1.2.1 t1.2.2.1 fun d3 => cond (!(decide (d2 = d3))) (some (false, ())) (rec (t1.1, t1.2.1, (w64 (t1.2.2.1 + 1)), ()))) (K (t1.1, t1.2.1, t1.2.2.1, ()))
noncomputable def F8 (a : List Int × List Int × Unit) : Option (Bool × Unit) :=
  cond (!(decide ((Int.ofNat (List.length a.1)) = (Int.ofNat (List.length a.2.1))))) (some (false, ())) (iterF (s8_0) fuel (a.1, a.2.1, 0, ()) fun t4 => some (true, ()))
def E8 : Env := envL []
noncomputable def L8 : LEnv (densS (muts p8 ++ r8)) := lenv [(0, loopL (R := densS (muts p8 ++ r8)) q8_0 (s8_0))]
theorem e8_0 (X : Nat → St → Option (densS (muts p8 ++ r8))) (rec K : densS q8_0 → Option (densS (muts p8 ++ r8))) (t : densS q8_0) :
    ev (E8) tab (fun _ => false) (L8) (retK tab p8 r8 Proofs.Try.f8.results.toList) (loopC Proofs.Try.f8 0) (fun i s => cond (Nat.beq i 0) (decK 100 q8_0 s K) (X i s)) (fun s => decK 100 q8_0 s rec) (enc q8_0 t) = s8_0 t rec K := by kernel_rfl
theorem e8 (a : densS p8) : runF (E8) tab (fun _ => false) p8 r8 Proofs.Try.f8 (L8) a = F8 a := by kernel_rfl
theorem ok8 : OK Proofs.Try.prog 8 (mkE p8 r8 false (F8)) :=
  fn_ok (E := E8) tab_ok (envL_ok OKs.nil) mixed (ann := (fun _ => false)) (L := L8) (fn := Proofs.Try.f8) (c := bodyC Proofs.Try.f8) (ls := [(0, loopC Proofs.Try.f8 0)]) Proofs.Try.func8 (by kernel_rfl) (by kernel_rfl) (by kernel_rfl) (by kernel_rfl)
    (LoopsP.cons q8_0 (s8_0) rfl (e8_0) LoopsP.nil) (e8)
/-! laws.markIntS -/
def p9 : List SP := [.one (.o 0 .int), .one (.int .i64)]
def r9 : List SP := [.one (.int .i64)]
abbrev T9 := List Int × Int × Unit → Option (List Int × Int × Unit)
abbrev N9 (f : T9) : Entry := mkE p9 r9 false f
def q9_0 : List SP := pat 19 0 [(0, .one (.o 0 .int)), (1, .one (.int .i64)), (5, .one (.int .i64))]
noncomputable def s9_0 (t1 : List Int × Int × Int × Unit) (rec K : List Int × Int × Int × Unit → Option (List Int × Int × Unit)) : Option (List Int × Int × Unit) :=
  cond (decide (t1.2.2.1 < (Int.ofNat (List.length t1.1)))) (rdL t1.1 t1.2.2.1 fun _ => (t1.1[(Int.toNat t1.2.2.1)]?).bind fun d2 => rec ((List.set t1.1 (Int.toNat t1.2.2.1) t1.2.1), (w64 (t1.2.1 + 1)), (w64 (t1.2.2.1 + 1)), ())) (K (t1.1, t1.2.1, t1.2.2.1, ()))
noncomputable def F9 (a : List Int × Int × Unit) : Option (List Int × Int × Unit) :=
  iterF (s9_0) fuel (a.1, a.2.1, 0, ()) fun t3 => some (t3.1, t3.2.1, ())
def E9 : Env := envL []
noncomputable def L9 : LEnv (densS (muts p9 ++ r9)) := lenv [(0, loopL (R := densS (muts p9 ++ r9)) q9_0 (s9_0))]
theorem e9_0 (X : Nat → St → Option (densS (muts p9 ++ r9))) (rec K : densS q9_0 → Option (densS (muts p9 ++ r9))) (t : densS q9_0) :
    ev (E9) tab (fun _ => false) (L9) (retK tab p9 r9 Proofs.Try.f9.results.toList) (loopC Proofs.Try.f9 0) (fun i s => cond (Nat.beq i 0) (decK 100 q9_0 s K) (X i s)) (fun s => decK 100 q9_0 s rec) (enc q9_0 t) = s9_0 t rec K := by kernel_rfl
theorem e9 (a : densS p9) : runF (E9) tab (fun _ => false) p9 r9 Proofs.Try.f9 (L9) a = F9 a := by kernel_rfl
theorem ok9 : OK Proofs.Try.prog 9 (mkE p9 r9 false (F9)) :=
  fn_ok (E := E9) tab_ok (envL_ok OKs.nil) mixed (ann := (fun _ => false)) (L := L9) (fn := Proofs.Try.f9) (c := bodyC Proofs.Try.f9) (ls := [(0, loopC Proofs.Try.f9 0)]) Proofs.Try.func9 (by kernel_rfl) (by kernel_rfl) (by kernel_rfl) (by kernel_rfl)
    (LoopsP.cons q9_0 (s9_0) rfl (e9_0) LoopsP.nil) (e9)
/-! laws.heldIntS -/
def p10 : List SP := [.one (.r .int), .one (.int .i64)]
def r10 : List SP := [.one (.int .i64)]
abbrev T10 := List Int × Int × Unit → Option (Int × Unit)
abbrev N10 (f : T10) : Entry := mkE p10 r10 false f
def q10_0 : List SP := pat 21 0 [(0, .one (.r .int)), (1, .one (.int .i64)), (5, .one (.int .i64))]
noncomputable def s10_0 (t1 : List Int × Int × Int × Unit) (rec K : List Int × Int × Int × Unit → Option (Int × Unit)) : Option (Int × Unit) :=
  cond (decide (t1.2.2.1 < (Int.ofNat (List.length t1.1)))) (rdL t1.1 t1.2.2.1 fun d2 => cond (!(decide (d2 = t1.2.1))) (some ((-1), ())) (rec (t1.1, (w64 (t1.2.1 + 1)), (w64 (t1.2.2.1 + 1)), ()))) (K (t1.1, t1.2.1, t1.2.2.1, ()))
noncomputable def F10 (a : List Int × Int × Unit) : Option (Int × Unit) :=
  iterF (s10_0) fuel (a.1, a.2.1, 0, ()) fun t3 => some (t3.2.1, ())
def E10 : Env := envL []
noncomputable def L10 : LEnv (densS (muts p10 ++ r10)) := lenv [(0, loopL (R := densS (muts p10 ++ r10)) q10_0 (s10_0))]
theorem e10_0 (X : Nat → St → Option (densS (muts p10 ++ r10))) (rec K : densS q10_0 → Option (densS (muts p10 ++ r10))) (t : densS q10_0) :
    ev (E10) tab (fun _ => false) (L10) (retK tab p10 r10 Proofs.Try.f10.results.toList) (loopC Proofs.Try.f10 0) (fun i s => cond (Nat.beq i 0) (decK 100 q10_0 s K) (X i s)) (fun s => decK 100 q10_0 s rec) (enc q10_0 t) = s10_0 t rec K := by kernel_rfl
theorem e10 (a : densS p10) : runF (E10) tab (fun _ => false) p10 r10 Proofs.Try.f10 (L10) a = F10 a := by kernel_rfl
theorem ok10 : OK Proofs.Try.prog 10 (mkE p10 r10 false (F10)) :=
  fn_ok (E := E10) tab_ok (envL_ok OKs.nil) mixed (ann := (fun _ => false)) (L := L10) (fn := Proofs.Try.f10) (c := bodyC Proofs.Try.f10) (ls := [(0, loopC Proofs.Try.f10 0)]) Proofs.Try.func10 (by kernel_rfl) (by kernel_rfl) (by kernel_rfl) (by kernel_rfl)
    (LoopsP.cons q10_0 (s10_0) rfl (e10_0) LoopsP.nil) (e10)
/-! laws.FnExactJoinTracks -/
def p3 : List SP := [.one (.r .int), .one (.r .int)]
def r3 : List SP := [.one (.bool)]
abbrev T3 := List Int × List Int × Unit → Option (Bool × Unit)
abbrev N3 (f : T3) : Entry := mkE p3 r3 false f
noncomputable def F3 (f6 : T6) (f5 : T5) (f7 : T7) (f8 : T8) (f9 : T9) (f10 : T10) (a : List Int × List Int × Unit) : Option (Bool × Unit) :=
  cond (decide ((Int.ofNat (List.length a.1)) > 1048576)) (some (true, ())) (cond (decide ((Int.ofNat (List.length a.2.1)) > 1048576)) (some (true, ())) ((f6 (a.1, ())).bind fun x1 => (f6 (a.2.1, ())).bind fun x2 => (f5 (x1.1, x2.1, ())).bind fun x3 => (f6 (a.1, ())).bind fun x4 => (f6 (a.2.1, ())).bind fun x5 => (f7 (x4.1, x5.1, ())).bind fun x6 => (f8 (x6.1, x3.1, ())).bind fun x7 => cond (!(!x7.1)) (cond (!(decide (x6.2.1 = x3.2.1))) (some (false, ())) ((f6 (a.1, ())).bind fun x8 => (f8 (x4.1, x8.1, ())).bind fun x9 => cond (!x9.1) (some (false, ())) ((f6 (a.2.1, ())).bind fun x10 => (f8 (x5.1, x10.1, ())).bind fun x11 => cond (!x11.1) (some (false, ())) ((f9 (x4.1, 1, ())).bind fun x12 => (f9 (x5.1, x12.2.1, ())).bind fun x13 => cond (!(decide (x13.2.1 < 0))) ((f8 (x6.1, x3.1, ())).bind fun x14 => cond (!(!x14.1)) (cond (!(decide (x6.2.1 = x3.2.1))) (some (false, ())) ((f9 (x6.1, 1, ())).bind fun x15 => (f10 (x15.1, 1, ())).bind fun x16 => cond (decide (x16.1 < 0)) (some (false, ())) (cond (!(decide (x16.1 = x15.2.1))) (some (false, ())) ((f6 (a.1, ())).bind fun x17 => (f6 (a.2.1, ())).bind fun x18 => (f7 (x17.1, x18.1, ())).bind fun x19 => (f8 (x19.1, x3.1, ())).bind fun x20 => cond (!(!x20.1)) (cond (!(decide (x19.2.1 = x3.2.1))) (some (false, ())) ((f10 (x15.1, 1, ())).bind fun x21 => cond (decide (x21.1 < 0)) (some (false, ())) (cond (!(decide (x21.1 = x15.2.1))) (some (false, ())) (some (true, ()))))) (some (false, ())))))) (some (false, ()))) (some (false, ())))))) (some (false, ()))))
def E3 (f6 : T6) (f5 : T5) (f7 : T7) (f8 : T8) (f9 : T9) (f10 : T10) : Env := envL [(6, N6 f6), (5, N5 f5), (7, N7 f7), (8, N8 f8), (9, N9 f9), (10, N10 f10)]
noncomputable def L3 (f6 : T6) (f5 : T5) (f7 : T7) (f8 : T8) (f9 : T9) (f10 : T10) : LEnv (densS (muts p3 ++ r3)) := lenv []
theorem e3 (f6 : T6) (f5 : T5) (f7 : T7) (f8 : T8) (f9 : T9) (f10 : T10) (a : densS p3) : runF (E3 f6 f5 f7 f8 f9 f10) tab (fun _ => false) p3 r3 Proofs.Try.f3 (L3 f6 f5 f7 f8 f9 f10) a = F3 f6 f5 f7 f8 f9 f10 a := by kernel_rfl
theorem ok3 {f6 : T6} {f5 : T5} {f7 : T7} {f8 : T8} {f9 : T9} {f10 : T10} (h6 : OK Proofs.Try.prog 6 (N6 f6)) (h5 : OK Proofs.Try.prog 5 (N5 f5)) (h7 : OK Proofs.Try.prog 7 (N7 f7)) (h8 : OK Proofs.Try.prog 8 (N8 f8)) (h9 : OK Proofs.Try.prog 9 (N9 f9)) (h10 : OK Proofs.Try.prog 10 (N10 f10)) : OK Proofs.Try.prog 3 (mkE p3 r3 false (F3 f6 f5 f7 f8 f9 f10)) :=
  fn_ok (E := E3 f6 f5 f7 f8 f9 f10) tab_ok (envL_ok (OKs.cons h6 (OKs.cons h5 (OKs.cons h7 (OKs.cons h8 (OKs.cons h9 (OKs.cons h10 OKs.nil))))))) mixed (ann := (fun _ => false)) (L := L3 f6 f5 f7 f8 f9 f10) (fn := Proofs.Try.f3) (c := bodyC Proofs.Try.f3) (ls := []) Proofs.Try.func3 (by kernel_rfl) (by kernel_rfl) (by kernel_rfl) (by kernel_rfl)
    LoopsP.nil (e3 f6 f5 f7 f8 f9 f10)
/-! laws.big -/
def p11 : List SP := [.one (.r .u8)]
def r11 : List SP := [.one (.bool)]
abbrev T11 := List Int × Unit → Option (Bool × Unit)
abbrev N11 (f : T11) : Entry := mkE p11 r11 false f
noncomputable def F11 (a : List Int × Unit) : Option (Bool × Unit) :=
  some ((decide ((Int.ofNat (List.length a.1)) > 4096)), ())
def E11 : Env := envL []
noncomputable def L11 : LEnv (densS (muts p11 ++ r11)) := lenv []
theorem e11 (a : densS p11) : runF (E11) tab (fun _ => false) p11 r11 Proofs.Try.f11 (L11) a = F11 a := by kernel_rfl
theorem ok11 : OK Proofs.Try.prog 11 (mkE p11 r11 false (F11)) :=
  fn_ok (E := E11) tab_ok (envL_ok OKs.nil) mixed (ann := (fun _ => false)) (L := L11) (fn := Proofs.Try.f11) (c := bodyC Proofs.Try.f11) (ls := []) Proofs.Try.func11 (by kernel_rfl) (by kernel_rfl) (by kernel_rfl) (by kernel_rfl)
    LoopsP.nil (e11)
/-! spec.l1New -/
def p21 : List SP := [.one (.r .u8)]
def r21 : List SP := [.box 0 [.r .u8, .int .i64, .int .i64]]
abbrev T21 := List Int × Unit → Option (CuD × Unit)
abbrev N21 (f : T21) : Entry := mkE p21 r21 true f
def q21_0 : List SP := pat 33 0 [(0, .one (.r .u8)), (3, .one (.int .i64)), (4, .one (.int .i64))]
noncomputable def s21_0 (t1 : List Int × Int × Int × Unit) (rec K : List Int × Int × Int × Unit → Option (CuD × Unit)) : Option (CuD × Unit) :=
  cond (decide (t1.2.2.1 < (Int.ofNat (List.length t1.1)))) (cond (decide (t1.2.2.1 < 4000)) (rdL t1.1 t1.2.2.1 fun d2 => rec (t1.1, (bitsOp .and .i64 (w64 ((w64 ((w64 (t1.2.1 * 167)) + (w64 d2))) + 29)) 1073741823), (w64 (t1.2.2.1 + 1)), ())) (K (t1.1, t1.2.1, t1.2.2.1, ()))) (K (t1.1, t1.2.1, t1.2.2.1, ()))
noncomputable def F21 (a : List Int × Unit) : Option (CuD × Unit) :=
  iterF (s21_0) fuel (a.1, (w64 (620033 + (w64 (3 * (Int.ofNat (List.length a.1)))))), 0, ()) fun t3 => some ((t3.1, 0, t3.2.1, ()), ())
def E21 : Env := envL []
noncomputable def L21 : LEnv (densS (muts p21 ++ r21)) := lenv [(0, loopL (R := densS (muts p21 ++ r21)) q21_0 (s21_0))]
theorem e21_0 (X : Nat → St → Option (densS (muts p21 ++ r21))) (rec K : densS q21_0 → Option (densS (muts p21 ++ r21))) (t : densS q21_0) :
    ev (E21) tab (fun _ => false) (L21) (retK tab p21 r21 Proofs.Try.f21.results.toList) (loopC Proofs.Try.f21 0) (fun i s => cond (Nat.beq i 0) (decK 100 q21_0 s K) (X i s)) (fun s => decK 100 q21_0 s rec) (enc q21_0 t) = s21_0 t rec K := by kernel_rfl
theorem e21 (a : densS p21) : runF (E21) tab (fun _ => false) p21 r21 Proofs.Try.f21 (L21) a = F21 a := by kernel_rfl
theorem ok21 : OK Proofs.Try.prog 21 (mkE p21 r21 true (F21)) :=
  fn_ok (E := E21) tab_ok (envL_ok OKs.nil) mixed (ann := (fun _ => false)) (L := L21) (fn := Proofs.Try.f21) (c := bodyC Proofs.Try.f21) (ls := [(0, loopC Proofs.Try.f21 0)]) Proofs.Try.func21 (by kernel_rfl) (by kernel_rfl) (by kernel_rfl) (by kernel_rfl)
    (LoopsP.cons q21_0 (s21_0) rfl (e21_0) LoopsP.nil) (e21)
/-! spec.l1Byte -/
def p33 : List SP := [.box 0 [.r .u8, .int .i64, .int .i64]]
def r33 : List SP := [.one (.int .i64)]
abbrev T33 := CuD × Unit → Option (CuD × Int × Unit)
abbrev N33 (f : T33) : Entry := mkE p33 r33 true f
noncomputable def F33 (a : CuD × Unit) : Option (CuD × Int × Unit) :=
  cond (decide (a.1.2.1 < (Int.ofNat (List.length a.1.1)))) (rdL a.1.1 a.1.2.1 fun d1 => some ((a.1.1, (w64 (a.1.2.1 + 1)), (w64 ((w64 (a.1.2.2.1 * 6364136223846793005)) + 1442695040888963407)), ()), (bitsOp .and .i64 (w64 ((bitsOp .and .i64 (bitsOp .xor .i64 (shrOp .i64 (w64 ((w64 (a.1.2.2.1 * 6364136223846793005)) + 1442695040888963407)) 35) (shrOp .i64 (w64 ((w64 (a.1.2.2.1 * 6364136223846793005)) + 1442695040888963407)) 45)) 255) + (w64 d1))) 255), ())) (some ((a.1.1, a.1.2.1, (w64 ((w64 (a.1.2.2.1 * 6364136223846793005)) + 1442695040888963407)), ()), (bitsOp .and .i64 (bitsOp .xor .i64 (shrOp .i64 (w64 ((w64 (a.1.2.2.1 * 6364136223846793005)) + 1442695040888963407)) 35) (shrOp .i64 (w64 ((w64 (a.1.2.2.1 * 6364136223846793005)) + 1442695040888963407)) 45)) 255), ()))
def E33 : Env := envL []
noncomputable def L33 : LEnv (densS (muts p33 ++ r33)) := lenv []
theorem e33 (a : densS p33) : runF (E33) tab (fun _ => false) p33 r33 Proofs.Try.f33 (L33) a = F33 a := by kernel_rfl
theorem ok33 : OK Proofs.Try.prog 33 (mkE p33 r33 true (F33)) :=
  fn_ok (E := E33) tab_ok (envL_ok OKs.nil) mixed (ann := (fun _ => false)) (L := L33) (fn := Proofs.Try.f33) (c := bodyC Proofs.Try.f33) (ls := []) Proofs.Try.func33 (by kernel_rfl) (by kernel_rfl) (by kernel_rfl) (by kernel_rfl)
    LoopsP.nil (e33)
/-! spec.l1Below -/
def p25 : List SP := [.box 0 [.r .u8, .int .i64, .int .i64], .one (.int .i64)]
def r25 : List SP := [.one (.int .i64)]
abbrev T25 := CuD × Int × Unit → Option (CuD × Int × Unit)
abbrev N25 (f : T25) : Entry := mkE p25 r25 true f
noncomputable def F25 (f33 : T33) (a : CuD × Int × Unit) : Option (CuD × Int × Unit) :=
  cond (decide (a.2.1 ≤ 0)) (some ((a.1.1, a.1.2.1, a.1.2.2.1, ()), 0, ())) (cond (decide (a.2.1 ≤ 256)) ((f33 ((a.1.1, a.1.2.1, a.1.2.2.1, ()), ())).bind fun x1 => cond (decide (a.2.1 = 0)) none (some ((x1.1.1, x1.1.2.1, x1.1.2.2.1, ()), (Int.tmod x1.2.1 a.2.1), ()))) ((f33 ((a.1.1, a.1.2.1, a.1.2.2.1, ()), ())).bind fun x2 => (f33 ((x2.1.1, x2.1.2.1, x2.1.2.2.1, ()), ())).bind fun x3 => (f33 ((x3.1.1, x3.1.2.1, x3.1.2.2.1, ()), ())).bind fun x4 => cond (decide (a.2.1 = 0)) none (some ((x4.1.1, x4.1.2.1, x4.1.2.2.1, ()), (Int.tmod (w64 ((w64 ((w64 (x2.2.1 * 65536)) + (w64 (x3.2.1 * 256)))) + x4.2.1)) a.2.1), ()))))
def E25 (f33 : T33) : Env := envL [(33, N33 f33)]
noncomputable def L25 (f33 : T33) : LEnv (densS (muts p25 ++ r25)) := lenv []
theorem e25 (f33 : T33) (a : densS p25) : runF (E25 f33) tab (fun _ => false) p25 r25 Proofs.Try.f25 (L25 f33) a = F25 f33 a := by kernel_rfl
theorem ok25 {f33 : T33} (h33 : OK Proofs.Try.prog 33 (N33 f33)) : OK Proofs.Try.prog 25 (mkE p25 r25 true (F25 f33)) :=
  fn_ok (E := E25 f33) tab_ok (envL_ok (OKs.cons h33 OKs.nil)) mixed (ann := (fun _ => false)) (L := L25 f33) (fn := Proofs.Try.f25) (c := bodyC Proofs.Try.f25) (ls := []) Proofs.Try.func25 (by kernel_rfl) (by kernel_rfl) (by kernel_rfl) (by kernel_rfl)
    LoopsP.nil (e25 f33)
/-! spec.l1Int -/
def p32 : List SP := [.box 0 [.r .u8, .int .i64, .int .i64], .one (.r .int)]
def r32 : List SP := [.one (.int .i64)]
abbrev T32 := CuD × List Int × Unit → Option (CuD × Int × Unit)
abbrev N32 (f : T32) : Entry := mkE p32 r32 true f
noncomputable def F32 (f25 : T25) (a : CuD × List Int × Unit) : Option (CuD × Int × Unit) :=
  (f25 ((a.1.1, a.1.2.1, a.1.2.2.1, ()), (Int.ofNat (List.length a.2.1)), ())).bind fun x1 => rdL a.2.1 x1.2.1 fun d2 => some ((x1.1.1, x1.1.2.1, x1.1.2.2.1, ()), d2, ())
def E32 (f25 : T25) : Env := envL [(25, N25 f25)]
noncomputable def L32 (f25 : T25) : LEnv (densS (muts p32 ++ r32)) := lenv []
theorem e32 (f25 : T25) (a : densS p32) : runF (E32 f25) tab (fun _ => false) p32 r32 Proofs.Try.f32 (L32 f25) a = F32 f25 a := by kernel_rfl
theorem ok32 {f25 : T25} (h25 : OK Proofs.Try.prog 25 (N25 f25)) : OK Proofs.Try.prog 32 (mkE p32 r32 true (F32 f25)) :=
  fn_ok (E := E32 f25) tab_ok (envL_ok (OKs.cons h25 OKs.nil)) mixed (ann := (fun _ => false)) (L := L32 f25) (fn := Proofs.Try.f32) (c := bodyC Proofs.Try.f32) (ls := []) Proofs.Try.func32 (by kernel_rfl) (by kernel_rfl) (by kernel_rfl) (by kernel_rfl)
    LoopsP.nil (e32 f25)
/-! spec.l1Once -/
def p23 : List SP := [.box 0 [.r .u8, .int .i64, .int .i64], .one (.int .i64)]
def r23 : List SP := [.one (.bool)]
abbrev T23 := CuD × Int × Unit → Option (CuD × Bool × Unit)
abbrev N23 (f : T23) : Entry := mkE p23 r23 true f
noncomputable def F23 (f25 : T25) (a : CuD × Int × Unit) : Option (CuD × Bool × Unit) :=
  (f25 ((a.1.1, a.1.2.1, a.1.2.2.1, ()), a.2.1, ())).bind fun x1 => some ((x1.1.1, x1.1.2.1, x1.1.2.2.1, ()), (decide (x1.2.1 = 0)), ())
def E23 (f25 : T25) : Env := envL [(25, N25 f25)]
noncomputable def L23 (f25 : T25) : LEnv (densS (muts p23 ++ r23)) := lenv []
theorem e23 (f25 : T25) (a : densS p23) : runF (E23 f25) tab (fun _ => false) p23 r23 Proofs.Try.f23 (L23 f25) a = F23 f25 a := by kernel_rfl
theorem ok23 {f25 : T25} (h25 : OK Proofs.Try.prog 25 (N25 f25)) : OK Proofs.Try.prog 23 (mkE p23 r23 true (F23 f25)) :=
  fn_ok (E := E23 f25) tab_ok (envL_ok (OKs.cons h25 OKs.nil)) mixed (ann := (fun _ => false)) (L := L23 f25) (fn := Proofs.Try.f23) (c := bodyC Proofs.Try.f23) (ls := []) Proofs.Try.func23 (by kernel_rfl) (by kernel_rfl) (by kernel_rfl) (by kernel_rfl)
    LoopsP.nil (e23 f25)
/-! spec.l8Draw -/
def p31 : List SP := [.box 0 [.r .u8, .int .i64, .int .i64]]
def r31 : List SP := [.one (.o 1 .int)]
abbrev T31 := CuD × Unit → Option (CuD × List Int × Unit)
abbrev N31 (f : T31) : Entry := mkE p31 r31 true f
def q31_0 : List SP := pat 25 0 [(0, .box 0 [.r .u8, .int .i64, .int .i64]), (3, .one (.o 5000001 .int)), (4, .one (.int .i64)), (5, .one (.int .i64))]
noncomputable def s31_0 (f25 : T25) (f32 : T32) (f23 : T23) (t3 : CuD × List Int × Int × Int × Unit) (rec K : CuD × List Int × Int × Int × Unit → Option (CuD × List Int × Unit)) : Option (CuD × List Int × Unit) :=
  cond (decide (t3.2.2.2.1 > 0)) ((f23 ((t3.1.1, t3.1.2.1, t3.1.2.2.1, ()), 3, ())).bind fun x4 => cond x4.2.1 ((f25 ((x4.1.1, x4.1.2.1, x4.1.2.2.1, ()), 33, ())).bind fun x5 => capK (List.length t3.2.1 + List.length ([x5.2.1] : List Int)) (rec ((x5.1.1, x5.1.2.1, x5.1.2.2.1, ()), (t3.2.1 ++ ([x5.2.1] : List Int)), x5.2.1, (w64 (t3.2.2.2.1 - 1)), ()))) (capK (List.length t3.2.1 + List.length ([t3.2.2.1] : List Int)) (rec ((x4.1.1, x4.1.2.1, x4.1.2.2.1, ()), (t3.2.1 ++ ([t3.2.2.1] : List Int)), t3.2.2.1, (w64 (t3.2.2.2.1 - 1)), ())))) (K ((t3.1.1, t3.1.2.1, t3.1.2.2.1, ()), t3.2.1, t3.2.2.1, t3.2.2.2.1, ()))
noncomputable def F31 (f25 : T25) (f32 : T32) (f23 : T23) (a : CuD × Unit) : Option (CuD × List Int × Unit) :=
  (f25 ((a.1.1, a.1.2.1, a.1.2.2.1, ()), 33, ())).bind fun x1 => (f32 ((x1.1.1, x1.1.2.1, x1.1.2.2.1, ()), ([0, 1, 7, 8, 9, 15, 16, 17, 20, 24] : List Int), ())).bind fun x2 => iterF (s31_0 f25 f32 f23) fuel ((x2.1.1, x2.1.2.1, x2.1.2.2.1, ()), ([] : List Int), x1.2.1, x2.2.1, ()) fun t6 => some ((t6.1.1, t6.1.2.1, t6.1.2.2.1, ()), t6.2.1, ())
def E31 (f25 : T25) (f32 : T32) (f23 : T23) : Env := envL [(25, N25 f25), (32, N32 f32), (23, N23 f23)]
noncomputable def L31 (f25 : T25) (f32 : T32) (f23 : T23) : LEnv (densS (muts p31 ++ r31)) := lenv [(0, loopL (R := densS (muts p31 ++ r31)) q31_0 (s31_0 f25 f32 f23))]
theorem e31_0 (f25 : T25) (f32 : T32) (f23 : T23) (X : Nat → St → Option (densS (muts p31 ++ r31))) (rec K : densS q31_0 → Option (densS (muts p31 ++ r31))) (t : densS q31_0) :
    ev (E31 f25 f32 f23) tab (fun _ => false) (L31 f25 f32 f23) (retK tab p31 r31 Proofs.Try.f31.results.toList) (loopC Proofs.Try.f31 0) (fun i s => cond (Nat.beq i 0) (decK 100 q31_0 s K) (X i s)) (fun s => decK 100 q31_0 s rec) (enc q31_0 t) = s31_0 f25 f32 f23 t rec K := by kernel_rfl
theorem e31 (f25 : T25) (f32 : T32) (f23 : T23) (a : densS p31) : runF (E31 f25 f32 f23) tab (fun _ => false) p31 r31 Proofs.Try.f31 (L31 f25 f32 f23) a = F31 f25 f32 f23 a := by kernel_rfl
theorem ok31 {f25 : T25} {f32 : T32} {f23 : T23} (h25 : OK Proofs.Try.prog 25 (N25 f25)) (h32 : OK Proofs.Try.prog 32 (N32 f32)) (h23 : OK Proofs.Try.prog 23 (N23 f23)) : OK Proofs.Try.prog 31 (mkE p31 r31 true (F31 f25 f32 f23)) :=
  fn_ok (E := E31 f25 f32 f23) tab_ok (envL_ok (OKs.cons h25 (OKs.cons h32 (OKs.cons h23 OKs.nil)))) mixed (ann := (fun _ => false)) (L := L31 f25 f32 f23) (fn := Proofs.Try.f31) (c := bodyC Proofs.Try.f31) (ls := [(0, loopC Proofs.Try.f31 0)]) Proofs.Try.func31 (by kernel_rfl) (by kernel_rfl) (by kernel_rfl) (by kernel_rfl)
    (LoopsP.cons q31_0 (s31_0 f25 f32 f23) rfl (e31_0 f25 f32 f23) LoopsP.nil) (e31 f25 f32 f23)
/-! spec.l1Odd -/
def p24 : List SP := [.box 0 [.r .u8, .int .i64, .int .i64]]
def r24 : List SP := [.one (.int .i64)]
abbrev T24 := CuD × Unit → Option (CuD × Int × Unit)
abbrev N24 (f : T24) : Entry := mkE p24 r24 true f
noncomputable def F24 (f32 : T32) (a : CuD × Unit) : Option (CuD × Int × Unit) :=
  (f32 ((a.1.1, a.1.2.1, a.1.2.2.1, ()), ([(-1), 0, 1, 2, 3, 7, 8, 9, 15, 16, 17, 63, 64, 65, 999, 1000, 4096, 4097, 9223372036854775807, (-9223372036854775808)] : List Int), ())).bind fun x1 => some ((x1.1.1, x1.1.2.1, x1.1.2.2.1, ()), x1.2.1, ())
def E24 (f32 : T32) : Env := envL [(32, N32 f32)]
noncomputable def L24 (f32 : T32) : LEnv (densS (muts p24 ++ r24)) := lenv []
theorem e24 (f32 : T32) (a : densS p24) : runF (E24 f32) tab (fun _ => false) p24 r24 Proofs.Try.f24 (L24 f32) a = F24 f32 a := by kernel_rfl
theorem ok24 {f32 : T32} (h32 : OK Proofs.Try.prog 32 (N32 f32)) : OK Proofs.Try.prog 24 (mkE p24 r24 true (F24 f32)) :=
  fn_ok (E := E24 f32) tab_ok (envL_ok (OKs.cons h32 OKs.nil)) mixed (ann := (fun _ => false)) (L := L24 f32) (fn := Proofs.Try.f24) (c := bodyC Proofs.Try.f24) (ls := []) Proofs.Try.func24 (by kernel_rfl) (by kernel_rfl) (by kernel_rfl) (by kernel_rfl)
    LoopsP.nil (e24 f32)
/-! spec.l8Any -/
def p22 : List SP := [.box 0 [.r .u8, .int .i64, .int .i64]]
def r22 : List SP := [.one (.o 1 .int)]
abbrev T22 := CuD × Unit → Option (CuD × List Int × Unit)
abbrev N22 (f : T22) : Entry := mkE p22 r22 true f
def q22_1 : List SP := pat 29 0 [(0, .box 0 [.r .u8, .int .i64, .int .i64]), (3, .one (.o 5001001 .int))]
noncomputable def s22_1 (f31 : T31) (f25 : T25) (f24 : T24) (f32 : T32) (t4 : CuD × List Int × Unit) (rec K : CuD × List Int × Unit → Option (CuD × List Int × Unit)) : Option (CuD × List Int × Unit) :=
  cond (decide ((Int.ofNat (List.length t4.2.1)) < 65)) (capK (List.length t4.2.1 + List.length ([3] : List Int)) (rec ((t4.1.1, t4.1.2.1, t4.1.2.2.1, ()), (t4.2.1 ++ ([3] : List Int)), ()))) (K ((t4.1.1, t4.1.2.1, t4.1.2.2.1, ()), t4.2.1, ()))
noncomputable def F22 (f31 : T31) (f25 : T25) (f24 : T24) (f32 : T32) (a : CuD × Unit) : Option (CuD × List Int × Unit) :=
  (f31 ((a.1.1, a.1.2.1, a.1.2.2.1, ()), ())).bind fun x1 => (f25 ((x1.1.1, x1.1.2.1, x1.1.2.2.1, ()), 14, ())).bind fun x2 => cond (decide (x2.2.1 = 0)) ((f24 ((x2.1.1, x2.1.2.1, x2.1.2.2.1, ()), ())).bind fun x3 => capK (List.length x1.2.1 + List.length ([x3.2.1] : List Int)) (some ((x3.1.1, x3.1.2.1, x3.1.2.2.1, ()), (x1.2.1 ++ ([x3.2.1] : List Int)), ()))) (cond (decide (x2.2.1 = 1)) (iterF (s22_1 f31 f25 f24 f32) fuel ((x2.1.1, x2.1.2.1, x2.1.2.2.1, ()), x1.2.1, ()) fun t5 => (f32 ((t5.1.1, t5.1.2.1, t5.1.2.2.1, ()), ([64, 65] : List Int), ())).bind fun x6 => okIf ((0 : Int) ≤ x6.2.1 ∧ (x6.2.1 : Int) ≤ List.length t5.2.1) (some ((x6.1.1, x6.1.2.1, x6.1.2.2.1, ()), (List.take (Int.toNat x6.2.1) t5.2.1), ()))) (some ((x2.1.1, x2.1.2.1, x2.1.2.2.1, ()), x1.2.1, ())))
def E22 (f31 : T31) (f25 : T25) (f24 : T24) (f32 : T32) : Env := envL [(31, N31 f31), (25, N25 f25), (24, N24 f24), (32, N32 f32)]
noncomputable def L22 (f31 : T31) (f25 : T25) (f24 : T24) (f32 : T32) : LEnv (densS (muts p22 ++ r22)) := lenv [(1, loopL (R := densS (muts p22 ++ r22)) q22_1 (s22_1 f31 f25 f24 f32))]
theorem e22_1 (f31 : T31) (f25 : T25) (f24 : T24) (f32 : T32) (X : Nat → St → Option (densS (muts p22 ++ r22))) (rec K : densS q22_1 → Option (densS (muts p22 ++ r22))) (t : densS q22_1) :
    ev (E22 f31 f25 f24 f32) tab (fun n => Nat.beq n 127) (L22 f31 f25 f24 f32) (retK tab p22 r22 Proofs.Try.f22.results.toList) (loopC Proofs.Try.f22 0) (fun i s => cond (Nat.beq i 1) (decK 100 q22_1 s K) (X i s)) (fun s => decK 100 q22_1 s rec) (enc q22_1 t) = s22_1 f31 f25 f24 f32 t rec K := by kernel_rfl
theorem e22 (f31 : T31) (f25 : T25) (f24 : T24) (f32 : T32) (a : densS p22) : runF (E22 f31 f25 f24 f32) tab (fun n => Nat.beq n 127) p22 r22 Proofs.Try.f22 (L22 f31 f25 f24 f32) a = F22 f31 f25 f24 f32 a := by kernel_rfl
theorem ok22 {f31 : T31} {f25 : T25} {f24 : T24} {f32 : T32} (h31 : OK Proofs.Try.prog 31 (N31 f31)) (h25 : OK Proofs.Try.prog 25 (N25 f25)) (h24 : OK Proofs.Try.prog 24 (N24 f24)) (h32 : OK Proofs.Try.prog 32 (N32 f32)) : OK Proofs.Try.prog 22 (mkE p22 r22 true (F22 f31 f25 f24 f32)) :=
  fn_ok (E := E22 f31 f25 f24 f32) tab_ok (envL_ok (OKs.cons h31 (OKs.cons h25 (OKs.cons h24 (OKs.cons h32 OKs.nil))))) mixed (ann := (fun n => Nat.beq n 127)) (L := L22 f31 f25 f24 f32) (fn := Proofs.Try.f22) (c := bodyC Proofs.Try.f22) (ls := [(1, loopC Proofs.Try.f22 0)]) Proofs.Try.func22 (by kernel_rfl) (by kernel_rfl) (by kernel_rfl) (by kernel_rfl)
    (LoopsP.cons q22_1 (s22_1 f31 f25 f24 f32) rfl (e22_1 f31 f25 f24 f32) LoopsP.nil) (e22 f31 f25 f24 f32)
/-! spec.DrawWindowOf -/
def p12 : List SP := [.one (.r .u8)]
def r12 : List SP := [.one (.o 0 .int), .one (.int .i64), .one (.int .i64)]
abbrev T12 := List Int × Unit → Option CuD
abbrev N12 (f : T12) : Entry := mkE p12 r12 false f
noncomputable def F12 (f21 : T21) (f22 : T22) (f23 : T23) (f24 : T24) (f25 : T25) (a : List Int × Unit) : Option CuD :=
  (f21 (a.1, ())).bind fun x1 => (f22 ((x1.1.1, x1.1.2.1, x1.1.2.2.1, ()), ())).bind fun x2 => (f23 ((x2.1.1, x2.1.2.1, x2.1.2.2.1, ()), 6, ())).bind fun x3 => cond x3.2.1 ((f24 ((x3.1.1, x3.1.2.1, x3.1.2.2.1, ()), ())).bind fun x4 => (f24 ((x4.1.1, x4.1.2.1, x4.1.2.2.1, ()), ())).bind fun x5 => some (x2.2.1, x4.2.1, x5.2.1, ())) ((f25 ((x3.1.1, x3.1.2.1, x3.1.2.2.1, ()), (w64 ((Int.ofNat (List.length x2.2.1)) + 1)), ())).bind fun x6 => (f25 ((x6.1.1, x6.1.2.1, x6.1.2.2.1, ()), (w64 ((w64 ((Int.ofNat (List.length x2.2.1)) - x6.2.1)) + 2)), ())).bind fun x7 => some (x2.2.1, x6.2.1, (w64 (x6.2.1 + x7.2.1)), ()))
def E12 (f21 : T21) (f22 : T22) (f23 : T23) (f24 : T24) (f25 : T25) : Env := envL [(21, N21 f21), (22, N22 f22), (23, N23 f23), (24, N24 f24), (25, N25 f25)]
noncomputable def L12 (f21 : T21) (f22 : T22) (f23 : T23) (f24 : T24) (f25 : T25) : LEnv (densS (muts p12 ++ r12)) := lenv []
theorem e12 (f21 : T21) (f22 : T22) (f23 : T23) (f24 : T24) (f25 : T25) (a : densS p12) : runF (E12 f21 f22 f23 f24 f25) tab (fun _ => false) p12 r12 Proofs.Try.f12 (L12 f21 f22 f23 f24 f25) a = F12 f21 f22 f23 f24 f25 a := by kernel_rfl
theorem ok12 {f21 : T21} {f22 : T22} {f23 : T23} {f24 : T24} {f25 : T25} (h21 : OK Proofs.Try.prog 21 (N21 f21)) (h22 : OK Proofs.Try.prog 22 (N22 f22)) (h23 : OK Proofs.Try.prog 23 (N23 f23)) (h24 : OK Proofs.Try.prog 24 (N24 f24)) (h25 : OK Proofs.Try.prog 25 (N25 f25)) : OK Proofs.Try.prog 12 (mkE p12 r12 false (F12 f21 f22 f23 f24 f25)) :=
  fn_ok (E := E12 f21 f22 f23 f24 f25) tab_ok (envL_ok (OKs.cons h21 (OKs.cons h22 (OKs.cons h23 (OKs.cons h24 (OKs.cons h25 OKs.nil)))))) mixed (ann := (fun _ => false)) (L := L12 f21 f22 f23 f24 f25) (fn := Proofs.Try.f12) (c := bodyC Proofs.Try.f12) (ls := []) Proofs.Try.func12 (by kernel_rfl) (by kernel_rfl) (by kernel_rfl) (by kernel_rfl)
    LoopsP.nil (e12 f21 f22 f23 f24 f25)
/-! impl.isWithin -/
def p27 : List SP := [.one (.int .i64), .one (.int .i64), .one (.int .i64)]
def r27 : List SP := [.one (.bool)]
abbrev T27 := Int × Int × Int × Unit → Option (Bool × Unit)
abbrev N27 (f : T27) : Entry := mkE p27 r27 false f
noncomputable def F27 (a : Int × Int × Int × Unit) : Option (Bool × Unit) :=
  cond (decide (a.2.1 ≤ a.1)) (some ((decide (a.1 ≤ a.2.2.1)), ())) (some (false, ()))
def E27 : Env := envL []
noncomputable def L27 : LEnv (densS (muts p27 ++ r27)) := lenv []
theorem e27 (a : densS p27) : runF (E27) tab (fun _ => false) p27 r27 Proofs.Try.f27 (L27) a = F27 a := by kernel_rfl
theorem ok27 : OK Proofs.Try.prog 27 (mkE p27 r27 false (F27)) :=
  fn_ok (E := E27) tab_ok (envL_ok OKs.nil) mixed (ann := (fun _ => false)) (L := L27) (fn := Proofs.Try.f27) (c := bodyC Proofs.Try.f27) (ls := []) Proofs.Try.func27 (by kernel_rfl) (by kernel_rfl) (by kernel_rfl) (by kernel_rfl)
    LoopsP.nil (e27)
/-! impl.IsTrack -/
def p15 : List SP := [.one (.r .int)]
def r15 : List SP := [.one (.bool)]
abbrev T15 := List Int × Unit → Option (Bool × Unit)
abbrev N15 (f : T15) : Entry := mkE p15 r15 false f
def q15_0 : List SP := pat 18 0 [(0, .one (.r .int)), (5, .one (.r .int)), (6, .one (.int .i64)), (7, .one (.int .i64))]
noncomputable def s15_0 (f27 : T27) (t1 : List Int × List Int × Int × Int × Unit) (rec K : List Int × List Int × Int × Int × Unit → Option (Bool × Unit)) : Option (Bool × Unit) :=
  cond (decide (t1.2.2.2.1 < t1.2.2.1)) (rdL t1.2.1 t1.2.2.2.1 fun d2 => (f27 (d2, 0, 32, ())).bind fun x3 => cond (!x3.1) (some (false, ())) (rec (t1.1, t1.2.1, t1.2.2.1, (w64 (t1.2.2.2.1 + 1)), ()))) (K (t1.1, t1.2.1, t1.2.2.1, t1.2.2.2.1, ()))
noncomputable def F15 (f27 : T27) (a : List Int × Unit) : Option (Bool × Unit) :=
  iterF (s15_0 f27) fuel (a.1, a.1, (Int.ofNat (List.length a.1)), 0, ()) fun t4 => some ((decide ((Int.ofNat (List.length t4.1)) ≤ 64)), ())
def E15 (f27 : T27) : Env := envL [(27, N27 f27)]
noncomputable def L15 (f27 : T27) : LEnv (densS (muts p15 ++ r15)) := lenv [(0, loopL (R := densS (muts p15 ++ r15)) q15_0 (s15_0 f27))]
theorem e15_0 (f27 : T27) (X : Nat → St → Option (densS (muts p15 ++ r15))) (rec K : densS q15_0 → Option (densS (muts p15 ++ r15))) (t : densS q15_0) :
    ev (E15 f27) tab (fun _ => false) (L15 f27) (retK tab p15 r15 Proofs.Try.f15.results.toList) (loopC Proofs.Try.f15 0) (fun i s => cond (Nat.beq i 0) (decK 100 q15_0 s K) (X i s)) (fun s => decK 100 q15_0 s rec) (enc q15_0 t) = s15_0 f27 t rec K := by kernel_rfl
theorem e15 (f27 : T27) (a : densS p15) : runF (E15 f27) tab (fun _ => false) p15 r15 Proofs.Try.f15 (L15 f27) a = F15 f27 a := by kernel_rfl
theorem ok15 {f27 : T27} (h27 : OK Proofs.Try.prog 27 (N27 f27)) : OK Proofs.Try.prog 15 (mkE p15 r15 false (F15 f27)) :=
  fn_ok (E := E15 f27) tab_ok (envL_ok (OKs.cons h27 OKs.nil)) mixed (ann := (fun _ => false)) (L := L15 f27) (fn := Proofs.Try.f15) (c := bodyC Proofs.Try.f15) (ls := [(0, loopC Proofs.Try.f15 0)]) Proofs.Try.func15 (by kernel_rfl) (by kernel_rfl) (by kernel_rfl) (by kernel_rfl)
    (LoopsP.cons q15_0 (s15_0 f27) rfl (e15_0 f27) LoopsP.nil) (e15 f27)
/-! slices.Clone[[]int,int] -/
def p26 : List SP := [.one (.r .int)]
def r26 : List SP := [.one (.o 0 .int)]
abbrev T26 := List Int × Unit → Option (List Int × Unit)
abbrev N26 (f : T26) : Entry := mkE p26 r26 false f
noncomputable def F26 (a : List Int × Unit) : Option (List Int × Unit) :=
  emptyK (List.isEmpty a.1) (some ([], ())) (capK (List.length ([] : List Int) + List.length a.1) (some ((([] : List Int) ++ a.1), ())))
def E26 : Env := envL []
noncomputable def L26 : LEnv (densS (muts p26 ++ r26)) := lenv []
theorem e26 (a : densS p26) : runF (E26) tab (fun _ => false) p26 r26 Proofs.Try.f26 (L26) a = F26 a := by kernel_rfl
theorem ok26 : OK Proofs.Try.prog 26 (mkE p26 r26 false (F26)) :=
  fn_ok (E := E26) tab_ok (envL_ok OKs.nil) mixed (ann := (fun _ => false)) (L := L26) (fn := Proofs.Try.f26) (c := bodyC Proofs.Try.f26) (ls := []) Proofs.Try.func26 (by kernel_rfl) (by kernel_rfl) (by kernel_rfl) (by kernel_rfl)
    LoopsP.nil (e26)
/-! impl.WindowOf -/
def p13 : List SP := [.one (.r .int), .one (.int .i64), .one (.int .i64)]
def r13 : List SP := [.one (.o 0 .int), .one (.bool)]
abbrev T13 := List Int × Int × Int × Unit → Option (List Int × Bool × Unit)
abbrev N13 (f : T13) : Entry := mkE p13 r13 false f
noncomputable def F13 (f15 : T15) (f26 : T26) (a : List Int × Int × Int × Unit) : Option (List Int × Bool × Unit) :=
  (f15 (a.1, ())).bind fun x1 => cond (!(!x1.1)) (cond (!(decide (a.2.1 < 0))) (cond (!(decide (a.2.2.1 < a.2.1))) (cond (decide (a.2.2.1 > (Int.ofNat (List.length a.1)))) (some (([] : List Int), false, ())) (okIf ((0 : Int) ≤ a.2.1 ∧ (a.2.1 : Int) ≤ a.2.2.1 ∧ (a.2.2.1 : Int) ≤ List.length a.1) ((f26 ((List.drop (Int.toNat a.2.1) (List.take (Int.toNat a.2.2.1) a.1)), ())).bind fun x2 => some (x2.1, true, ())))) (some (([] : List Int), false, ()))) (some (([] : List Int), false, ()))) (some (([] : List Int), false, ()))
def E13 (f15 : T15) (f26 : T26) : Env := envL [(15, N15 f15), (26, N26 f26)]
noncomputable def L13 (f15 : T15) (f26 : T26) : LEnv (densS (muts p13 ++ r13)) := lenv []
theorem e13 (f15 : T15) (f26 : T26) (a : densS p13) : runF (E13 f15 f26) tab (fun _ => false) p13 r13 Proofs.Try.f13 (L13 f15 f26) a = F13 f15 f26 a := by kernel_rfl
theorem ok13 {f15 : T15} {f26 : T26} (h15 : OK Proofs.Try.prog 15 (N15 f15)) (h26 : OK Proofs.Try.prog 26 (N26 f26)) : OK Proofs.Try.prog 13 (mkE p13 r13 false (F13 f15 f26)) :=
  fn_ok (E := E13 f15 f26) tab_ok (envL_ok (OKs.cons h15 (OKs.cons h26 OKs.nil))) mixed (ann := (fun _ => false)) (L := L13 f15 f26) (fn := Proofs.Try.f13) (c := bodyC Proofs.Try.f13) (ls := []) Proofs.Try.func13 (by kernel_rfl) (by kernel_rfl) (by kernel_rfl) (by kernel_rfl)
    LoopsP.nil (e13 f15 f26)
/-! spec.WindowOf -/
def p14 : List SP := [.one (.r .int), .one (.int .i64), .one (.int .i64)]
def r14 : List SP := [.one (.o 0 .int), .one (.bool)]
abbrev T14 := List Int × Int × Int × Unit → Option (List Int × Bool × Unit)
abbrev N14 (f : T14) : Entry := mkE p14 r14 false f
noncomputable def F14 (f19 : T19) (a : List Int × Int × Int × Unit) : Option (List Int × Bool × Unit) :=
  (f19 (a.1, ())).bind fun x1 => cond (!(!x1.1)) (cond (!(decide (a.2.1 < 0))) (cond (!(decide (a.2.2.1 < a.2.1))) (cond (decide (a.2.2.1 > (Int.ofNat (List.length a.1)))) (some (([] : List Int), false, ())) (okIf ((0 : Int) ≤ a.2.1 ∧ (a.2.1 : Int) ≤ a.2.2.1 ∧ (a.2.2.1 : Int) ≤ List.length a.1) (capK (List.length ([] : List Int) + List.length (List.drop (Int.toNat a.2.1) (List.take (Int.toNat a.2.2.1) a.1))) (some ((([] : List Int) ++ (List.drop (Int.toNat a.2.1) (List.take (Int.toNat a.2.2.1) a.1))), true, ()))))) (some (([] : List Int), false, ()))) (some (([] : List Int), false, ()))) (some (([] : List Int), false, ()))
def E14 (f19 : T19) : Env := envL [(19, N19 f19)]
noncomputable def L14 (f19 : T19) : LEnv (densS (muts p14 ++ r14)) := lenv []
theorem e14 (f19 : T19) (a : densS p14) : runF (E14 f19) tab (fun _ => false) p14 r14 Proofs.Try.f14 (L14 f19) a = F14 f19 a := by kernel_rfl
theorem ok14 {f19 : T19} (h19 : OK Proofs.Try.prog 19 (N19 f19)) : OK Proofs.Try.prog 14 (mkE p14 r14 false (F14 f19)) :=
  fn_ok (E := E14 f19) tab_ok (envL_ok (OKs.cons h19 OKs.nil)) mixed (ann := (fun _ => false)) (L := L14 f19) (fn := Proofs.Try.f14) (c := bodyC Proofs.Try.f14) (ls := []) Proofs.Try.func14 (by kernel_rfl) (by kernel_rfl) (by kernel_rfl) (by kernel_rfl)
    LoopsP.nil (e14 f19)
/-! laws.ints -/
def p16 : List SP := [.one (.r .int), .one (.r .int)]
def r16 : List SP := [.one (.bool)]
abbrev T16 := List Int × List Int × Unit → Option (Bool × Unit)
abbrev N16 (f : T16) : Entry := mkE p16 r16 false f
def q16_0 : List SP := pat 26 0 [(0, .one (.r .int)), (1, .one (.r .int)), (5, .one (.int .i64))]
noncomputable def s16_0 (t1 : List Int × List Int × Int × Unit) (rec K : List Int × List Int × Int × Unit → Option (Bool × Unit)) : Option (Bool × Unit) :=
  cond (decide (t1.2.2.1 < (Int.ofNat (List.length t1.1)))) (rdL t1.1 t1.2.2.1 fun d2 => rdL t1.2.1 t1.2.2.1 fun d3 => cond (!(decide (d2 = d3))) (some (false, ())) (rec (t1.1, t1.2.1, (w64 (t1.2.2.1 + 1)), ()))) (K (t1.1, t1.2.1, t1.2.2.1, ()))
noncomputable def F16 (a : List Int × List Int × Unit) : Option (Bool × Unit) :=
  cond (!(decide ((Int.ofNat (List.length a.1)) = (Int.ofNat (List.length a.2.1))))) (some (false, ())) (iterF (s16_0) fuel (a.1, a.2.1, 0, ()) fun t4 => some (true, ()))
def E16 : Env := envL []
noncomputable def L16 : LEnv (densS (muts p16 ++ r16)) := lenv [(0, loopL (R := densS (muts p16 ++ r16)) q16_0 (s16_0))]
theorem e16_0 (X : Nat → St → Option (densS (muts p16 ++ r16))) (rec K : densS q16_0 → Option (densS (muts p16 ++ r16))) (t : densS q16_0) :
    ev (E16) tab (fun _ => false) (L16) (retK tab p16 r16 Proofs.Try.f16.results.toList) (loopC Proofs.Try.f16 0) (fun i s => cond (Nat.beq i 0) (decK 100 q16_0 s K) (X i s)) (fun s => decK 100 q16_0 s rec) (enc q16_0 t) = s16_0 t rec K := by kernel_rfl
theorem e16 (a : densS p16) : runF (E16) tab (fun _ => false) p16 r16 Proofs.Try.f16 (L16) a = F16 a := by kernel_rfl
theorem ok16 : OK Proofs.Try.prog 16 (mkE p16 r16 false (F16)) :=
  fn_ok (E := E16) tab_ok (envL_ok OKs.nil) mixed (ann := (fun _ => false)) (L := L16) (fn := Proofs.Try.f16) (c := bodyC Proofs.Try.f16) (ls := [(0, loopC Proofs.Try.f16 0)]) Proofs.Try.func16 (by kernel_rfl) (by kernel_rfl) (by kernel_rfl) (by kernel_rfl)
    (LoopsP.cons q16_0 (s16_0) rfl (e16_0) LoopsP.nil) (e16)
/-! impl.sumOf -/
def p28 : List SP := [.one (.r .int)]
def r28 : List SP := [.one (.int .i64)]
abbrev T28 := List Int × Unit → Option (Int × Unit)
abbrev N28 (f : T28) : Entry := mkE p28 r28 false f
def q28_0 : List SP := pat 17 0 [(3, .one (.int .i64)), (6, .one (.r .int)), (7, .one (.int .i64)), (8, .one (.int .i64))]
noncomputable def s28_0 (t1 : Int × List Int × Int × Int × Unit) (rec K : Int × List Int × Int × Int × Unit → Option (Int × Unit)) : Option (Int × Unit) :=
  cond (decide (t1.2.2.2.1 < t1.2.2.1)) (rdL t1.2.1 t1.2.2.2.1 fun d2 => rec ((w64 (t1.1 + d2)), t1.2.1, t1.2.2.1, (w64 (t1.2.2.2.1 + 1)), ())) (K (t1.1, t1.2.1, t1.2.2.1, t1.2.2.2.1, ()))
noncomputable def F28 (a : List Int × Unit) : Option (Int × Unit) :=
  iterF (s28_0) fuel (0, a.1, (Int.ofNat (List.length a.1)), 0, ()) fun t3 => some (t3.1, ())
def E28 : Env := envL []
noncomputable def L28 : LEnv (densS (muts p28 ++ r28)) := lenv [(0, loopL (R := densS (muts p28 ++ r28)) q28_0 (s28_0))]
theorem e28_0 (X : Nat → St → Option (densS (muts p28 ++ r28))) (rec K : densS q28_0 → Option (densS (muts p28 ++ r28))) (t : densS q28_0) :
    ev (E28) tab (fun _ => false) (L28) (retK tab p28 r28 Proofs.Try.f28.results.toList) (loopC Proofs.Try.f28 0) (fun i s => cond (Nat.beq i 0) (decK 100 q28_0 s K) (X i s)) (fun s => decK 100 q28_0 s rec) (enc q28_0 t) = s28_0 t rec K := by kernel_rfl
theorem e28 (a : densS p28) : runF (E28) tab (fun _ => false) p28 r28 Proofs.Try.f28 (L28) a = F28 a := by kernel_rfl
theorem ok28 : OK Proofs.Try.prog 28 (mkE p28 r28 false (F28)) :=
  fn_ok (E := E28) tab_ok (envL_ok OKs.nil) mixed (ann := (fun _ => false)) (L := L28) (fn := Proofs.Try.f28) (c := bodyC Proofs.Try.f28) (ls := [(0, loopC Proofs.Try.f28 0)]) Proofs.Try.func28 (by kernel_rfl) (by kernel_rfl) (by kernel_rfl) (by kernel_rfl)
    (LoopsP.cons q28_0 (s28_0) rfl (e28_0) LoopsP.nil) (e28)
/-! impl.SumOfTrack -/
def p17 : List SP := [.one (.r .int)]
def r17 : List SP := [.one (.int .i64)]
abbrev T17 := List Int × Unit → Option (Int × Unit)
abbrev N17 (f : T17) : Entry := mkE p17 r17 false f
noncomputable def F17 (f15 : T15) (f28 : T28) (a : List Int × Unit) : Option (Int × Unit) :=
  (f15 (a.1, ())).bind fun x1 => cond (!x1.1) (some (0, ())) ((f28 (a.1, ())).bind fun x2 => some (x2.1, ()))
def E17 (f15 : T15) (f28 : T28) : Env := envL [(15, N15 f15), (28, N28 f28)]
noncomputable def L17 (f15 : T15) (f28 : T28) : LEnv (densS (muts p17 ++ r17)) := lenv []
theorem e17 (f15 : T15) (f28 : T28) (a : densS p17) : runF (E17 f15 f28) tab (fun _ => false) p17 r17 Proofs.Try.f17 (L17 f15 f28) a = F17 f15 f28 a := by kernel_rfl
theorem ok17 {f15 : T15} {f28 : T28} (h15 : OK Proofs.Try.prog 15 (N15 f15)) (h28 : OK Proofs.Try.prog 28 (N28 f28)) : OK Proofs.Try.prog 17 (mkE p17 r17 false (F17 f15 f28)) :=
  fn_ok (E := E17 f15 f28) tab_ok (envL_ok (OKs.cons h15 (OKs.cons h28 OKs.nil))) mixed (ann := (fun _ => false)) (L := L17 f15 f28) (fn := Proofs.Try.f17) (c := bodyC Proofs.Try.f17) (ls := []) Proofs.Try.func17 (by kernel_rfl) (by kernel_rfl) (by kernel_rfl) (by kernel_rfl)
    LoopsP.nil (e17 f15 f28)
/-! impl.StepOf -/
def p18 : List SP := [.one (.r .int)]
def r18 : List SP := [.one (.int .i64)]
abbrev T18 := List Int × Unit → Option (Int × Unit)
abbrev N18 (f : T18) : Entry := mkE p18 r18 false f
def q18_0 : List SP := pat 38 0 [(0, .one (.r .int)), (3, .one (.int .i64)), (4, .one (.int .i64))]
noncomputable def s18_0 (f15 : T15) (t2 : List Int × Int × Int × Unit) (rec K : List Int × Int × Int × Unit → Option (Int × Unit)) : Option (Int × Unit) :=
  cond (decide (t2.2.2.1 < (Int.ofNat (List.length t2.1)))) (rdL t2.1 t2.2.2.1 fun d3 => rdL t2.1 (w64 (t2.2.2.1 - 1)) fun d4 => rdL t2.1 (w64 (t2.2.2.1 - 1)) fun d5 => rdL t2.1 t2.2.2.1 fun d6 => rec (t2.1, (mx (mx t2.2.1 (w64 (d3 - d4))) (w64 (d5 - d6))), (w64 (t2.2.2.1 + 1)), ())) (K (t2.1, t2.2.1, t2.2.2.1, ()))
noncomputable def F18 (f15 : T15) (a : List Int × Unit) : Option (Int × Unit) :=
  (f15 (a.1, ())).bind fun x1 => cond (!x1.1) (some (0, ())) (iterF (s18_0 f15) fuel (a.1, 0, 1, ()) fun t7 => some (t7.2.1, ()))
def E18 (f15 : T15) : Env := envL [(15, N15 f15)]
noncomputable def L18 (f15 : T15) : LEnv (densS (muts p18 ++ r18)) := lenv [(0, loopL (R := densS (muts p18 ++ r18)) q18_0 (s18_0 f15))]
theorem e18_0 (f15 : T15) (X : Nat → St → Option (densS (muts p18 ++ r18))) (rec K : densS q18_0 → Option (densS (muts p18 ++ r18))) (t : densS q18_0) :
    ev (E18 f15) tab (fun _ => false) (L18 f15) (retK tab p18 r18 Proofs.Try.f18.results.toList) (loopC Proofs.Try.f18 0) (fun i s => cond (Nat.beq i 0) (decK 100 q18_0 s K) (X i s)) (fun s => decK 100 q18_0 s rec) (enc q18_0 t) = s18_0 f15 t rec K := by kernel_rfl
theorem e18 (f15 : T15) (a : densS p18) : runF (E18 f15) tab (fun _ => false) p18 r18 Proofs.Try.f18 (L18 f15) a = F18 f15 a := by kernel_rfl
theorem ok18 {f15 : T15} (h15 : OK Proofs.Try.prog 15 (N15 f15)) : OK Proofs.Try.prog 18 (mkE p18 r18 false (F18 f15)) :=
  fn_ok (E := E18 f15) tab_ok (envL_ok (OKs.cons h15 OKs.nil)) mixed (ann := (fun _ => false)) (L := L18 f15) (fn := Proofs.Try.f18) (c := bodyC Proofs.Try.f18) (ls := [(0, loopC Proofs.Try.f18 0)]) Proofs.Try.func18 (by kernel_rfl) (by kernel_rfl) (by kernel_rfl) (by kernel_rfl)
    (LoopsP.cons q18_0 (s18_0 f15) rfl (e18_0 f15) LoopsP.nil) (e18 f15)
/-! laws.FnWindows -/
def p4 : List SP := [.one (.r .u8)]
def r4 : List SP := [.one (.bool)]
abbrev T4 := List Int × Unit → Option (Bool × Unit)
abbrev N4 (f : T4) : Entry := mkE p4 r4 false f
noncomputable def F4 (f11 : T11) (f12 : T12) (f13 : T13) (f14 : T14) (f15 : T15) (f7 : T7) (f16 : T16) (f17 : T17) (f18 : T18) (a : List Int × Unit) : Option (Bool × Unit) :=
  (f11 (a.1, ())).bind fun x1 => cond x1.1 (some (true, ())) ((f12 (a.1, ())).bind fun x2 => (f13 (x2.1, x2.2.1, x2.2.2.1, ())).bind fun x3 => (f14 (x2.1, x2.2.1, x2.2.2.1, ())).bind fun x4 => cond (!(decide (x3.2.1 = x4.2.1))) (some (false, ())) ((f15 (x2.1, ())).bind fun x5 => cond (!x5.1) (some ((!x3.2.1), ())) (cond (!x3.2.1) (cond (!(decide (x2.2.1 < 0))) (cond (!(decide (x2.2.2.1 < x2.2.1))) (some ((decide (x2.2.2.1 > (Int.ofNat (List.length x2.1)))), ())) (some (true, ()))) (some (true, ()))) ((f13 (x2.1, 0, x2.2.1, ())).bind fun x6 => (f13 (x2.1, x2.2.2.1, (Int.ofNat (List.length x2.1)), ())).bind fun x7 => (f7 (x6.1, x3.1, ())).bind fun x8 => (f7 (x8.1, x7.1, ())).bind fun x9 => cond x8.2.1 (cond x9.2.1 ((f16 (x9.1, x2.1, ())).bind fun x10 => cond x10.1 ((f17 (x6.1, ())).bind fun x11 => (f17 (x3.1, ())).bind fun x12 => (f17 (x7.1, ())).bind fun x13 => (f17 (x2.1, ())).bind fun x14 => cond (decide ((w64 ((w64 (x11.1 + x12.1)) + x13.1)) = x14.1)) ((f18 (x3.1, ())).bind fun x15 => (f18 (x2.1, ())).bind fun x16 => some ((decide (x15.1 ≤ x16.1)), ())) (some (false, ()))) (some (false, ()))) (some (false, ()))) (some (false, ()))))))
def E4 (f11 : T11) (f12 : T12) (f13 : T13) (f14 : T14) (f15 : T15) (f7 : T7) (f16 : T16) (f17 : T17) (f18 : T18) : Env := envL [(11, N11 f11), (12, N12 f12), (13, N13 f13), (14, N14 f14), (15, N15 f15), (7, N7 f7), (16, N16 f16), (17, N17 f17), (18, N18 f18)]
noncomputable def L4 (f11 : T11) (f12 : T12) (f13 : T13) (f14 : T14) (f15 : T15) (f7 : T7) (f16 : T16) (f17 : T17) (f18 : T18) : LEnv (densS (muts p4 ++ r4)) := lenv []
theorem e4 (f11 : T11) (f12 : T12) (f13 : T13) (f14 : T14) (f15 : T15) (f7 : T7) (f16 : T16) (f17 : T17) (f18 : T18) (a : densS p4) : runF (E4 f11 f12 f13 f14 f15 f7 f16 f17 f18) tab (fun _ => false) p4 r4 Proofs.Try.f4 (L4 f11 f12 f13 f14 f15 f7 f16 f17 f18) a = F4 f11 f12 f13 f14 f15 f7 f16 f17 f18 a := by kernel_rfl
theorem ok4 {f11 : T11} {f12 : T12} {f13 : T13} {f14 : T14} {f15 : T15} {f7 : T7} {f16 : T16} {f17 : T17} {f18 : T18} (h11 : OK Proofs.Try.prog 11 (N11 f11)) (h12 : OK Proofs.Try.prog 12 (N12 f12)) (h13 : OK Proofs.Try.prog 13 (N13 f13)) (h14 : OK Proofs.Try.prog 14 (N14 f14)) (h15 : OK Proofs.Try.prog 15 (N15 f15)) (h7 : OK Proofs.Try.prog 7 (N7 f7)) (h16 : OK Proofs.Try.prog 16 (N16 f16)) (h17 : OK Proofs.Try.prog 17 (N17 f17)) (h18 : OK Proofs.Try.prog 18 (N18 f18)) : OK Proofs.Try.prog 4 (mkE p4 r4 false (F4 f11 f12 f13 f14 f15 f7 f16 f17 f18)) :=
  fn_ok (E := E4 f11 f12 f13 f14 f15 f7 f16 f17 f18) tab_ok (envL_ok (OKs.cons h11 (OKs.cons h12 (OKs.cons h13 (OKs.cons h14 (OKs.cons h15 (OKs.cons h7 (OKs.cons h16 (OKs.cons h17 (OKs.cons h18 OKs.nil)))))))))) mixed (ann := (fun _ => false)) (L := L4 f11 f12 f13 f14 f15 f7 f16 f17 f18) (fn := Proofs.Try.f4) (c := bodyC Proofs.Try.f4) (ls := []) Proofs.Try.func4 (by kernel_rfl) (by kernel_rfl) (by kernel_rfl) (by kernel_rfl)
    LoopsP.nil (e4 f11 f12 f13 f14 f15 f7 f16 f17 f18)
end Ev
