/- Functions of the program, as the evaluator sees them. -/
import Derived.Test.YtmnahocockdpcaaGen
set_option linter.unusedVariables false
set_option maxRecDepth 100000
namespace Ev
open Go
def tab : Tab := [(3, ⟨1, false, 8, [.int .i64 0], [], .int .i64, false⟩),
  (4, ⟨1, false, 1, [.bool false], [], .bool, false⟩),
  (22, ⟨1, false, 24, [.nils], [], .sl .int, false⟩),
  (41, ⟨1, false, 24, [.nils], [], .sl .run, false⟩),
  (47, ⟨1, false, 24, [.nils], [], .sl .run, false⟩),
  (65, ⟨2, true, 16, [.int .i64 0, .int .i64 0], [(0, 1, false), (1, 1, false)], .struct, false⟩),
  (69, ⟨2, true, 16, [.int .i64 0, .int .i64 0], [(0, 1, false), (1, 1, false)], .struct, false⟩)]
theorem tab_ok : TabOK Proofs.Try.prog tab := tab_of (by kernel_rfl) (by kernel_rfl)
theorem mixed : Proofs.Try.prog.follows .mixedOrders = true := by kernel_rfl
/-! laws.toIntS -/
def p16 : List SP := [.one (.r .int)]
def r16 : List SP := [.one (.o 0 .int)]
def q16_0 : List SP := pat 22 0 [(0, .one (.r .int)), (3, .one (.o 5000001 .int)), (4, .one (.int .i64))]
noncomputable def s16_0 (t1 : List Int × List Int × Int × Unit) (rec K : List Int × List Int × Int × Unit → Option (List Int × Unit)) : Option (List Int × Unit) :=
  cond (decide (t1.2.2.1 < (Int.ofNat (List.length t1.1)))) (rdL t1.1 t1.2.2.1 fun d2 => rdL t1.2.1 t1.2.2.1 fun _ => (t1.2.1[(Int.toNat t1.2.2.1)]?).bind fun d3 => rec (t1.1, (List.set t1.2.1 (Int.toNat t1.2.2.1) d2), (w64 (t1.2.2.1 + 1)), ())) (K (t1.1, t1.2.1, t1.2.2.1, ()))
noncomputable def F16 (a : List Int × Unit) : Option (List Int × Unit) :=
  okIf (0 ≤ (Int.ofNat (List.length a.1))) (capK (Int.toNat (Int.ofNat (List.length a.1))) (iterF (s16_0) fuel (a.1, (List.replicate (Int.toNat (Int.ofNat (List.length a.1))) (Ty.zero .int)), 0, ()) fun t4 => some (t4.2.1, ())))
def E16 : Env := envL []
noncomputable def L16 : LEnv (densS (muts p16 ++ r16)) := lenv [(0, loopL (R := densS (muts p16 ++ r16)) q16_0 (s16_0))]
theorem e16_0 (X : Nat → St → Option (densS (muts p16 ++ r16))) (rec K : densS q16_0 → Option (densS (muts p16 ++ r16))) (t : densS q16_0) :
    ev (E16) tab (fun _ => false) (L16) (retK tab p16 r16 Proofs.Try.f16.results.toList) (loopC Proofs.Try.f16 0) (fun i s => cond (Nat.beq i 0) (decK 100 q16_0 s K) (X i s)) (fun s => decK 100 q16_0 s rec) (enc q16_0 t) = s16_0 t rec K := by kernel_rfl
theorem e16 (a : densS p16) : runF (E16) tab (fun _ => false) p16 r16 Proofs.Try.f16 (L16) a = F16 a := by kernel_rfl
theorem ok16 : OK Proofs.Try.prog 16 (mkE p16 r16 false (F16)) :=
  fn_ok tab_ok (envL_ok (l := []) OKs.nil) mixed (ann := (fun _ => false)) (L := L16) (fn := Proofs.Try.f16) (c := bodyC Proofs.Try.f16) (ls := [(0, loopC Proofs.Try.f16 0)]) Proofs.Try.func16 (by kernel_rfl) (by kernel_rfl) (by kernel_rfl) (by kernel_rfl)
    (LoopsP.cons q16_0 (s16_0) rfl (e16_0) LoopsP.nil) (e16)
/-! spec.l1In -/
def p54 : List SP := [.one (.int .i64), .one (.int .i64), .one (.int .i64)]
def r54 : List SP := [.one (.bool)]
noncomputable def F54 (a : Int × Int × Int × Unit) : Option (Bool × Unit) :=
  cond (decide (a.1 ≥ a.2.1)) (some ((decide (a.1 ≤ a.2.2.1)), ())) (some (false, ()))
def E54 : Env := envL []
noncomputable def L54 : LEnv (densS (muts p54 ++ r54)) := lenv []
theorem e54 (a : densS p54) : runF (E54) tab (fun _ => false) p54 r54 Proofs.Try.f54 (L54) a = F54 a := by kernel_rfl
theorem ok54 : OK Proofs.Try.prog 54 (mkE p54 r54 false (F54)) :=
  fn_ok tab_ok (envL_ok (l := []) OKs.nil) mixed (ann := (fun _ => false)) (L := L54) (fn := Proofs.Try.f54) (c := bodyC Proofs.Try.f54) (ls := []) Proofs.Try.func54 (by kernel_rfl) (by kernel_rfl) (by kernel_rfl) (by kernel_rfl)
    LoopsP.nil (e54)
/-! spec.IsTrack -/
def p15 : List SP := [.one (.r .int)]
def r15 : List SP := [.one (.bool)]
def q15_0 : List SP := pat 18 0 [(0, .one (.r .int)), (5, .one (.r .int)), (6, .one (.int .i64)), (7, .one (.int .i64))]
noncomputable def s15_0 (f54 : Int × Int × Int × Unit → Option (Bool × Unit)) (t1 : List Int × List Int × Int × Int × Unit) (rec K : List Int × List Int × Int × Int × Unit → Option (Bool × Unit)) : Option (Bool × Unit) :=
  cond (decide (t1.2.2.2.1 < t1.2.2.1)) (rdL t1.2.1 t1.2.2.2.1 fun d2 => (f54 (d2, 0, 32, ())).bind fun x3 => cond (!x3.1) (some (false, ())) (rec (t1.1, t1.2.1, t1.2.2.1, (w64 (t1.2.2.2.1 + 1)), ()))) (K (t1.1, t1.2.1, t1.2.2.1, t1.2.2.2.1, ()))
noncomputable def F15 (f54 : Int × Int × Int × Unit → Option (Bool × Unit)) (a : List Int × Unit) : Option (Bool × Unit) :=
  iterF (s15_0 f54) fuel (a.1, a.1, (Int.ofNat (List.length a.1)), 0, ()) fun t4 => some ((decide ((Int.ofNat (List.length t4.1)) ≤ 64)), ())
def E15 (f54 : Int × Int × Int × Unit → Option (Bool × Unit)) : Env := envL [(54, mkE p54 r54 false f54)]
noncomputable def L15 (f54 : Int × Int × Int × Unit → Option (Bool × Unit)) : LEnv (densS (muts p15 ++ r15)) := lenv [(0, loopL (R := densS (muts p15 ++ r15)) q15_0 (s15_0 f54))]
theorem e15_0 (f54 : Int × Int × Int × Unit → Option (Bool × Unit)) (X : Nat → St → Option (densS (muts p15 ++ r15))) (rec K : densS q15_0 → Option (densS (muts p15 ++ r15))) (t : densS q15_0) :
    ev (E15 f54) tab (fun _ => false) (L15 f54) (retK tab p15 r15 Proofs.Try.f15.results.toList) (loopC Proofs.Try.f15 0) (fun i s => cond (Nat.beq i 0) (decK 100 q15_0 s K) (X i s)) (fun s => decK 100 q15_0 s rec) (enc q15_0 t) = s15_0 f54 t rec K := by kernel_rfl
theorem e15 (f54 : Int × Int × Int × Unit → Option (Bool × Unit)) (a : densS p15) : runF (E15 f54) tab (fun _ => false) p15 r15 Proofs.Try.f15 (L15 f54) a = F15 f54 a := by kernel_rfl
theorem ok15 {f54 : Int × Int × Int × Unit → Option (Bool × Unit)} (h54 : OK Proofs.Try.prog 54 (mkE p54 r54 false f54)) : OK Proofs.Try.prog 15 (mkE p15 r15 false (F15 f54)) :=
  fn_ok tab_ok (envL_ok (l := [(54, mkE p54 r54 false f54)]) (OKs.cons h54 OKs.nil)) mixed (ann := (fun _ => false)) (L := L15 f54) (fn := Proofs.Try.f15) (c := bodyC Proofs.Try.f15) (ls := [(0, loopC Proofs.Try.f15 0)]) Proofs.Try.func15 (by kernel_rfl) (by kernel_rfl) (by kernel_rfl) (by kernel_rfl)
    (LoopsP.cons q15_0 (s15_0 f54) rfl (e15_0 f54) LoopsP.nil) (e15 f54)
/-! impl.isWithin -/
def p55 : List SP := [.one (.int .i64), .one (.int .i64), .one (.int .i64)]
def r55 : List SP := [.one (.bool)]
noncomputable def F55 (a : Int × Int × Int × Unit) : Option (Bool × Unit) :=
  cond (decide (a.2.1 ≤ a.1)) (some ((decide (a.1 ≤ a.2.2.1)), ())) (some (false, ()))
def E55 : Env := envL []
noncomputable def L55 : LEnv (densS (muts p55 ++ r55)) := lenv []
theorem e55 (a : densS p55) : runF (E55) tab (fun _ => false) p55 r55 Proofs.Try.f55 (L55) a = F55 a := by kernel_rfl
theorem ok55 : OK Proofs.Try.prog 55 (mkE p55 r55 false (F55)) :=
  fn_ok tab_ok (envL_ok (l := []) OKs.nil) mixed (ann := (fun _ => false)) (L := L55) (fn := Proofs.Try.f55) (c := bodyC Proofs.Try.f55) (ls := []) Proofs.Try.func55 (by kernel_rfl) (by kernel_rfl) (by kernel_rfl) (by kernel_rfl)
    LoopsP.nil (e55)
/-! impl.IsTrack -/
def p17 : List SP := [.one (.r .int)]
def r17 : List SP := [.one (.bool)]
def q17_0 : List SP := pat 18 0 [(0, .one (.r .int)), (5, .one (.r .int)), (6, .one (.int .i64)), (7, .one (.int .i64))]
noncomputable def s17_0 (f55 : Int × Int × Int × Unit → Option (Bool × Unit)) (t1 : List Int × List Int × Int × Int × Unit) (rec K : List Int × List Int × Int × Int × Unit → Option (Bool × Unit)) : Option (Bool × Unit) :=
  cond (decide (t1.2.2.2.1 < t1.2.2.1)) (rdL t1.2.1 t1.2.2.2.1 fun d2 => (f55 (d2, 0, 32, ())).bind fun x3 => cond (!x3.1) (some (false, ())) (rec (t1.1, t1.2.1, t1.2.2.1, (w64 (t1.2.2.2.1 + 1)), ()))) (K (t1.1, t1.2.1, t1.2.2.1, t1.2.2.2.1, ()))
noncomputable def F17 (f55 : Int × Int × Int × Unit → Option (Bool × Unit)) (a : List Int × Unit) : Option (Bool × Unit) :=
  iterF (s17_0 f55) fuel (a.1, a.1, (Int.ofNat (List.length a.1)), 0, ()) fun t4 => some ((decide ((Int.ofNat (List.length t4.1)) ≤ 64)), ())
def E17 (f55 : Int × Int × Int × Unit → Option (Bool × Unit)) : Env := envL [(55, mkE p55 r55 false f55)]
noncomputable def L17 (f55 : Int × Int × Int × Unit → Option (Bool × Unit)) : LEnv (densS (muts p17 ++ r17)) := lenv [(0, loopL (R := densS (muts p17 ++ r17)) q17_0 (s17_0 f55))]
theorem e17_0 (f55 : Int × Int × Int × Unit → Option (Bool × Unit)) (X : Nat → St → Option (densS (muts p17 ++ r17))) (rec K : densS q17_0 → Option (densS (muts p17 ++ r17))) (t : densS q17_0) :
    ev (E17 f55) tab (fun _ => false) (L17 f55) (retK tab p17 r17 Proofs.Try.f17.results.toList) (loopC Proofs.Try.f17 0) (fun i s => cond (Nat.beq i 0) (decK 100 q17_0 s K) (X i s)) (fun s => decK 100 q17_0 s rec) (enc q17_0 t) = s17_0 f55 t rec K := by kernel_rfl
theorem e17 (f55 : Int × Int × Int × Unit → Option (Bool × Unit)) (a : densS p17) : runF (E17 f55) tab (fun _ => false) p17 r17 Proofs.Try.f17 (L17 f55) a = F17 f55 a := by kernel_rfl
theorem ok17 {f55 : Int × Int × Int × Unit → Option (Bool × Unit)} (h55 : OK Proofs.Try.prog 55 (mkE p55 r55 false f55)) : OK Proofs.Try.prog 17 (mkE p17 r17 false (F17 f55)) :=
  fn_ok tab_ok (envL_ok (l := [(55, mkE p55 r55 false f55)]) (OKs.cons h55 OKs.nil)) mixed (ann := (fun _ => false)) (L := L17 f55) (fn := Proofs.Try.f17) (c := bodyC Proofs.Try.f17) (ls := [(0, loopC Proofs.Try.f17 0)]) Proofs.Try.func17 (by kernel_rfl) (by kernel_rfl) (by kernel_rfl) (by kernel_rfl)
    (LoopsP.cons q17_0 (s17_0 f55) rfl (e17_0 f55) LoopsP.nil) (e17 f55)
/-! laws.eqIntS -/
def p18 : List SP := [.one (.r .int), .one (.r .int)]
def r18 : List SP := [.one (.bool)]
def q18_0 : List SP := pat 26 0 [(0, .one (.r .int)), (1, .one (.r .int)), (5, .one (.int .i64))]
noncomputable def s18_0 (t1 : List Int × List Int × Int × Unit) (rec K : List Int × List Int × Int × Unit → Option (Bool × Unit)) : Option (Bool × Unit) :=
  cond (decide (t1.2.2.1 < (Int.ofNat (List.length t1.1)))) (rdL t1.1 t1.2.2.1 fun d2 => rdL t1.2.1 t1.2.2.1 fun d3 => cond (!(decide (d2 = d3))) (some (false, ())) (rec (t1.1, t1.2.1, (w64 (t1.2.2.1 + 1)), ()))) (K (t1.1, t1.2.1, t1.2.2.1, ()))
noncomputable def F18 (a : List Int × List Int × Unit) : Option (Bool × Unit) :=
  cond (!(decide ((Int.ofNat (List.length a.1)) = (Int.ofNat (List.length a.2.1))))) (some (false, ())) (iterF (s18_0) fuel (a.1, a.2.1, 0, ()) fun t4 => some (true, ()))
def E18 : Env := envL []
noncomputable def L18 : LEnv (densS (muts p18 ++ r18)) := lenv [(0, loopL (R := densS (muts p18 ++ r18)) q18_0 (s18_0))]
theorem e18_0 (X : Nat → St → Option (densS (muts p18 ++ r18))) (rec K : densS q18_0 → Option (densS (muts p18 ++ r18))) (t : densS q18_0) :
    ev (E18) tab (fun _ => false) (L18) (retK tab p18 r18 Proofs.Try.f18.results.toList) (loopC Proofs.Try.f18 0) (fun i s => cond (Nat.beq i 0) (decK 100 q18_0 s K) (X i s)) (fun s => decK 100 q18_0 s rec) (enc q18_0 t) = s18_0 t rec K := by kernel_rfl
theorem e18 (a : densS p18) : runF (E18) tab (fun _ => false) p18 r18 Proofs.Try.f18 (L18) a = F18 a := by kernel_rfl
theorem ok18 : OK Proofs.Try.prog 18 (mkE p18 r18 false (F18)) :=
  fn_ok tab_ok (envL_ok (l := []) OKs.nil) mixed (ann := (fun _ => false)) (L := L18) (fn := Proofs.Try.f18) (c := bodyC Proofs.Try.f18) (ls := [(0, loopC Proofs.Try.f18 0)]) Proofs.Try.func18 (by kernel_rfl) (by kernel_rfl) (by kernel_rfl) (by kernel_rfl)
    (LoopsP.cons q18_0 (s18_0) rfl (e18_0) LoopsP.nil) (e18)
/-! laws.FnExactIsTrack -/
def p3 : List SP := [.one (.r .int)]
def r3 : List SP := [.one (.bool)]
noncomputable def F3 (f16 : List Int × Unit → Option (List Int × Unit)) (f15 : List Int × Unit → Option (Bool × Unit)) (f17 : List Int × Unit → Option (Bool × Unit)) (f18 : List Int × List Int × Unit → Option (Bool × Unit)) (a : List Int × Unit) : Option (Bool × Unit) :=
  cond (decide ((Int.ofNat (List.length a.1)) > 1048576)) (some (true, ())) ((f16 (a.1, ())).bind fun x1 => (f15 (x1.1, ())).bind fun x2 => (f16 (a.1, ())).bind fun x3 => (f17 (x3.1, ())).bind fun x4 => cond (!(decide (x4.1 = x2.1))) (some (false, ())) ((f16 (a.1, ())).bind fun x5 => (f18 (x3.1, x5.1, ())).bind fun x6 => cond (!x6.1) (some (false, ())) (some (true, ()))))
def E3 (f16 : List Int × Unit → Option (List Int × Unit)) (f15 : List Int × Unit → Option (Bool × Unit)) (f17 : List Int × Unit → Option (Bool × Unit)) (f18 : List Int × List Int × Unit → Option (Bool × Unit)) : Env := envL [(16, mkE p16 r16 false f16), (15, mkE p15 r15 false f15), (17, mkE p17 r17 false f17), (18, mkE p18 r18 false f18)]
noncomputable def L3 (f16 : List Int × Unit → Option (List Int × Unit)) (f15 : List Int × Unit → Option (Bool × Unit)) (f17 : List Int × Unit → Option (Bool × Unit)) (f18 : List Int × List Int × Unit → Option (Bool × Unit)) : LEnv (densS (muts p3 ++ r3)) := lenv []
theorem e3 (f16 : List Int × Unit → Option (List Int × Unit)) (f15 : List Int × Unit → Option (Bool × Unit)) (f17 : List Int × Unit → Option (Bool × Unit)) (f18 : List Int × List Int × Unit → Option (Bool × Unit)) (a : densS p3) : runF (E3 f16 f15 f17 f18) tab (fun _ => false) p3 r3 Proofs.Try.f3 (L3 f16 f15 f17 f18) a = F3 f16 f15 f17 f18 a := by kernel_rfl
theorem ok3 {f16 : List Int × Unit → Option (List Int × Unit)} {f15 : List Int × Unit → Option (Bool × Unit)} {f17 : List Int × Unit → Option (Bool × Unit)} {f18 : List Int × List Int × Unit → Option (Bool × Unit)} (h16 : OK Proofs.Try.prog 16 (mkE p16 r16 false f16)) (h15 : OK Proofs.Try.prog 15 (mkE p15 r15 false f15)) (h17 : OK Proofs.Try.prog 17 (mkE p17 r17 false f17)) (h18 : OK Proofs.Try.prog 18 (mkE p18 r18 false f18)) : OK Proofs.Try.prog 3 (mkE p3 r3 false (F3 f16 f15 f17 f18)) :=
  fn_ok tab_ok (envL_ok (l := [(16, mkE p16 r16 false f16), (15, mkE p15 r15 false f15), (17, mkE p17 r17 false f17), (18, mkE p18 r18 false f18)]) (OKs.cons h16 (OKs.cons h15 (OKs.cons h17 (OKs.cons h18 OKs.nil))))) mixed (ann := (fun _ => false)) (L := L3 f16 f15 f17 f18) (fn := Proofs.Try.f3) (c := bodyC Proofs.Try.f3) (ls := []) Proofs.Try.func3 (by kernel_rfl) (by kernel_rfl) (by kernel_rfl) (by kernel_rfl)
    LoopsP.nil (e3 f16 f15 f17 f18)
/-! spec.l1Max -/
def p56 : List SP := [.one (.int .i64), .one (.int .i64)]
def r56 : List SP := [.one (.int .i64)]
noncomputable def F56 (a : Int × Int × Unit) : Option (Int × Unit) :=
  cond (decide (a.1 > a.2.1)) (some (a.1, ())) (some (a.2.1, ()))
def E56 : Env := envL []
noncomputable def L56 : LEnv (densS (muts p56 ++ r56)) := lenv []
theorem e56 (a : densS p56) : runF (E56) tab (fun _ => false) p56 r56 Proofs.Try.f56 (L56) a = F56 a := by kernel_rfl
theorem ok56 : OK Proofs.Try.prog 56 (mkE p56 r56 false (F56)) :=
  fn_ok tab_ok (envL_ok (l := []) OKs.nil) mixed (ann := (fun _ => false)) (L := L56) (fn := Proofs.Try.f56) (c := bodyC Proofs.Try.f56) (ls := []) Proofs.Try.func56 (by kernel_rfl) (by kernel_rfl) (by kernel_rfl) (by kernel_rfl)
    LoopsP.nil (e56)
/-! spec.StepOf -/
def p19 : List SP := [.one (.r .int)]
def r19 : List SP := [.one (.int .i64)]
def q19_0 : List SP := pat 39 0 [(0, .one (.r .int)), (3, .one (.int .i64)), (4, .one (.int .i64))]
noncomputable def s19_0 (f15 : List Int × Unit → Option (Bool × Unit)) (f56 : Int × Int × Unit → Option (Int × Unit)) (t1 : List Int × Int × Int × Unit) (rec K : List Int × Int × Int × Unit → Option (Int × Unit)) : Option (Int × Unit) :=
  cond (decide (t1.2.2.1 < (Int.ofNat (List.length t1.1)))) ((f15 (t1.1, ())).bind fun x2 => cond x2.1 (rdL t1.1 t1.2.2.1 fun d3 => rdL t1.1 (w64 (t1.2.2.1 - 1)) fun d4 => rdL t1.1 (w64 (t1.2.2.1 - 1)) fun d5 => rdL t1.1 t1.2.2.1 fun d6 => (f56 ((w64 (d3 - d4)), (w64 (d5 - d6)), ())).bind fun x7 => (f56 (t1.2.1, x7.1, ())).bind fun x8 => rec (t1.1, x8.1, (w64 (t1.2.2.1 + 1)), ())) (K (t1.1, t1.2.1, t1.2.2.1, ()))) (K (t1.1, t1.2.1, t1.2.2.1, ()))
noncomputable def F19 (f15 : List Int × Unit → Option (Bool × Unit)) (f56 : Int × Int × Unit → Option (Int × Unit)) (a : List Int × Unit) : Option (Int × Unit) :=
  iterF (s19_0 f15 f56) fuel (a.1, 0, 1, ()) fun t9 => some (t9.2.1, ())
def E19 (f15 : List Int × Unit → Option (Bool × Unit)) (f56 : Int × Int × Unit → Option (Int × Unit)) : Env := envL [(15, mkE p15 r15 false f15), (56, mkE p56 r56 false f56)]
noncomputable def L19 (f15 : List Int × Unit → Option (Bool × Unit)) (f56 : Int × Int × Unit → Option (Int × Unit)) : LEnv (densS (muts p19 ++ r19)) := lenv [(0, loopL (R := densS (muts p19 ++ r19)) q19_0 (s19_0 f15 f56))]
theorem e19_0 (f15 : List Int × Unit → Option (Bool × Unit)) (f56 : Int × Int × Unit → Option (Int × Unit)) (X : Nat → St → Option (densS (muts p19 ++ r19))) (rec K : densS q19_0 → Option (densS (muts p19 ++ r19))) (t : densS q19_0) :
    ev (E19 f15 f56) tab (fun _ => false) (L19 f15 f56) (retK tab p19 r19 Proofs.Try.f19.results.toList) (loopC Proofs.Try.f19 0) (fun i s => cond (Nat.beq i 0) (decK 100 q19_0 s K) (X i s)) (fun s => decK 100 q19_0 s rec) (enc q19_0 t) = s19_0 f15 f56 t rec K := by kernel_rfl
theorem e19 (f15 : List Int × Unit → Option (Bool × Unit)) (f56 : Int × Int × Unit → Option (Int × Unit)) (a : densS p19) : runF (E19 f15 f56) tab (fun _ => false) p19 r19 Proofs.Try.f19 (L19 f15 f56) a = F19 f15 f56 a := by kernel_rfl
theorem ok19 {f15 : List Int × Unit → Option (Bool × Unit)} {f56 : Int × Int × Unit → Option (Int × Unit)} (h15 : OK Proofs.Try.prog 15 (mkE p15 r15 false f15)) (h56 : OK Proofs.Try.prog 56 (mkE p56 r56 false f56)) : OK Proofs.Try.prog 19 (mkE p19 r19 false (F19 f15 f56)) :=
  fn_ok tab_ok (envL_ok (l := [(15, mkE p15 r15 false f15), (56, mkE p56 r56 false f56)]) (OKs.cons h15 (OKs.cons h56 OKs.nil))) mixed (ann := (fun _ => false)) (L := L19 f15 f56) (fn := Proofs.Try.f19) (c := bodyC Proofs.Try.f19) (ls := [(0, loopC Proofs.Try.f19 0)]) Proofs.Try.func19 (by kernel_rfl) (by kernel_rfl) (by kernel_rfl) (by kernel_rfl)
    (LoopsP.cons q19_0 (s19_0 f15 f56) rfl (e19_0 f15 f56) LoopsP.nil) (e19 f15 f56)
/-! impl.StepOf -/
def p20 : List SP := [.one (.r .int)]
def r20 : List SP := [.one (.int .i64)]
def q20_0 : List SP := pat 38 0 [(0, .one (.r .int)), (3, .one (.int .i64)), (4, .one (.int .i64))]
noncomputable def s20_0 (f17 : List Int × Unit → Option (Bool × Unit)) (t2 : List Int × Int × Int × Unit) (rec K : List Int × Int × Int × Unit → Option (Int × Unit)) : Option (Int × Unit) :=
  cond (decide (t2.2.2.1 < (Int.ofNat (List.length t2.1)))) (rdL t2.1 t2.2.2.1 fun d3 => rdL t2.1 (w64 (t2.2.2.1 - 1)) fun d4 => rdL t2.1 (w64 (t2.2.2.1 - 1)) fun d5 => rdL t2.1 t2.2.2.1 fun d6 => rec (t2.1, (mx (mx t2.2.1 (w64 (d3 - d4))) (w64 (d5 - d6))), (w64 (t2.2.2.1 + 1)), ())) (K (t2.1, t2.2.1, t2.2.2.1, ()))
noncomputable def F20 (f17 : List Int × Unit → Option (Bool × Unit)) (a : List Int × Unit) : Option (Int × Unit) :=
  (f17 (a.1, ())).bind fun x1 => cond (!x1.1) (some (0, ())) (iterF (s20_0 f17) fuel (a.1, 0, 1, ()) fun t7 => some (t7.2.1, ()))
def E20 (f17 : List Int × Unit → Option (Bool × Unit)) : Env := envL [(17, mkE p17 r17 false f17)]
noncomputable def L20 (f17 : List Int × Unit → Option (Bool × Unit)) : LEnv (densS (muts p20 ++ r20)) := lenv [(0, loopL (R := densS (muts p20 ++ r20)) q20_0 (s20_0 f17))]
theorem e20_0 (f17 : List Int × Unit → Option (Bool × Unit)) (X : Nat → St → Option (densS (muts p20 ++ r20))) (rec K : densS q20_0 → Option (densS (muts p20 ++ r20))) (t : densS q20_0) :
    ev (E20 f17) tab (fun _ => false) (L20 f17) (retK tab p20 r20 Proofs.Try.f20.results.toList) (loopC Proofs.Try.f20 0) (fun i s => cond (Nat.beq i 0) (decK 100 q20_0 s K) (X i s)) (fun s => decK 100 q20_0 s rec) (enc q20_0 t) = s20_0 f17 t rec K := by kernel_rfl
theorem e20 (f17 : List Int × Unit → Option (Bool × Unit)) (a : densS p20) : runF (E20 f17) tab (fun _ => false) p20 r20 Proofs.Try.f20 (L20 f17) a = F20 f17 a := by kernel_rfl
theorem ok20 {f17 : List Int × Unit → Option (Bool × Unit)} (h17 : OK Proofs.Try.prog 17 (mkE p17 r17 false f17)) : OK Proofs.Try.prog 20 (mkE p20 r20 false (F20 f17)) :=
  fn_ok tab_ok (envL_ok (l := [(17, mkE p17 r17 false f17)]) (OKs.cons h17 OKs.nil)) mixed (ann := (fun _ => false)) (L := L20 f17) (fn := Proofs.Try.f20) (c := bodyC Proofs.Try.f20) (ls := [(0, loopC Proofs.Try.f20 0)]) Proofs.Try.func20 (by kernel_rfl) (by kernel_rfl) (by kernel_rfl) (by kernel_rfl)
    (LoopsP.cons q20_0 (s20_0 f17) rfl (e20_0 f17) LoopsP.nil) (e20 f17)
/-! laws.FnExactStepOf -/
def p4 : List SP := [.one (.r .int)]
def r4 : List SP := [.one (.bool)]
noncomputable def F4 (f16 : List Int × Unit → Option (List Int × Unit)) (f19 : List Int × Unit → Option (Int × Unit)) (f20 : List Int × Unit → Option (Int × Unit)) (f18 : List Int × List Int × Unit → Option (Bool × Unit)) (a : List Int × Unit) : Option (Bool × Unit) :=
  cond (decide ((Int.ofNat (List.length a.1)) > 1048576)) (some (true, ())) ((f16 (a.1, ())).bind fun x1 => (f19 (x1.1, ())).bind fun x2 => (f16 (a.1, ())).bind fun x3 => (f20 (x3.1, ())).bind fun x4 => cond (!(decide (x4.1 = x2.1))) (some (false, ())) ((f16 (a.1, ())).bind fun x5 => (f18 (x3.1, x5.1, ())).bind fun x6 => cond (!x6.1) (some (false, ())) (some (true, ()))))
def E4 (f16 : List Int × Unit → Option (List Int × Unit)) (f19 : List Int × Unit → Option (Int × Unit)) (f20 : List Int × Unit → Option (Int × Unit)) (f18 : List Int × List Int × Unit → Option (Bool × Unit)) : Env := envL [(16, mkE p16 r16 false f16), (19, mkE p19 r19 false f19), (20, mkE p20 r20 false f20), (18, mkE p18 r18 false f18)]
noncomputable def L4 (f16 : List Int × Unit → Option (List Int × Unit)) (f19 : List Int × Unit → Option (Int × Unit)) (f20 : List Int × Unit → Option (Int × Unit)) (f18 : List Int × List Int × Unit → Option (Bool × Unit)) : LEnv (densS (muts p4 ++ r4)) := lenv []
theorem e4 (f16 : List Int × Unit → Option (List Int × Unit)) (f19 : List Int × Unit → Option (Int × Unit)) (f20 : List Int × Unit → Option (Int × Unit)) (f18 : List Int × List Int × Unit → Option (Bool × Unit)) (a : densS p4) : runF (E4 f16 f19 f20 f18) tab (fun _ => false) p4 r4 Proofs.Try.f4 (L4 f16 f19 f20 f18) a = F4 f16 f19 f20 f18 a := by kernel_rfl
theorem ok4 {f16 : List Int × Unit → Option (List Int × Unit)} {f19 : List Int × Unit → Option (Int × Unit)} {f20 : List Int × Unit → Option (Int × Unit)} {f18 : List Int × List Int × Unit → Option (Bool × Unit)} (h16 : OK Proofs.Try.prog 16 (mkE p16 r16 false f16)) (h19 : OK Proofs.Try.prog 19 (mkE p19 r19 false f19)) (h20 : OK Proofs.Try.prog 20 (mkE p20 r20 false f20)) (h18 : OK Proofs.Try.prog 18 (mkE p18 r18 false f18)) : OK Proofs.Try.prog 4 (mkE p4 r4 false (F4 f16 f19 f20 f18)) :=
  fn_ok tab_ok (envL_ok (l := [(16, mkE p16 r16 false f16), (19, mkE p19 r19 false f19), (20, mkE p20 r20 false f20), (18, mkE p18 r18 false f18)]) (OKs.cons h16 (OKs.cons h19 (OKs.cons h20 (OKs.cons h18 OKs.nil))))) mixed (ann := (fun _ => false)) (L := L4 f16 f19 f20 f18) (fn := Proofs.Try.f4) (c := bodyC Proofs.Try.f4) (ls := []) Proofs.Try.func4 (by kernel_rfl) (by kernel_rfl) (by kernel_rfl) (by kernel_rfl)
    LoopsP.nil (e4 f16 f19 f20 f18)
/-! spec.l5Sum -/
def p57 : List SP := [.one (.r .int)]
def r57 : List SP := [.one (.int .i64)]
def q57_0 : List SP := pat 17 0 [(3, .one (.int .i64)), (6, .one (.r .int)), (7, .one (.int .i64)), (8, .one (.int .i64))]
noncomputable def s57_0 (t1 : Int × List Int × Int × Int × Unit) (rec K : Int × List Int × Int × Int × Unit → Option (Int × Unit)) : Option (Int × Unit) :=
  cond (decide (t1.2.2.2.1 < t1.2.2.1)) (rdL t1.2.1 t1.2.2.2.1 fun d2 => rec ((w64 (t1.1 + d2)), t1.2.1, t1.2.2.1, (w64 (t1.2.2.2.1 + 1)), ())) (K (t1.1, t1.2.1, t1.2.2.1, t1.2.2.2.1, ()))
noncomputable def F57 (a : List Int × Unit) : Option (Int × Unit) :=
  iterF (s57_0) fuel (0, a.1, (Int.ofNat (List.length a.1)), 0, ()) fun t3 => some (t3.1, ())
def E57 : Env := envL []
noncomputable def L57 : LEnv (densS (muts p57 ++ r57)) := lenv [(0, loopL (R := densS (muts p57 ++ r57)) q57_0 (s57_0))]
theorem e57_0 (X : Nat → St → Option (densS (muts p57 ++ r57))) (rec K : densS q57_0 → Option (densS (muts p57 ++ r57))) (t : densS q57_0) :
    ev (E57) tab (fun _ => false) (L57) (retK tab p57 r57 Proofs.Try.f57.results.toList) (loopC Proofs.Try.f57 0) (fun i s => cond (Nat.beq i 0) (decK 100 q57_0 s K) (X i s)) (fun s => decK 100 q57_0 s rec) (enc q57_0 t) = s57_0 t rec K := by kernel_rfl
theorem e57 (a : densS p57) : runF (E57) tab (fun _ => false) p57 r57 Proofs.Try.f57 (L57) a = F57 a := by kernel_rfl
theorem ok57 : OK Proofs.Try.prog 57 (mkE p57 r57 false (F57)) :=
  fn_ok tab_ok (envL_ok (l := []) OKs.nil) mixed (ann := (fun _ => false)) (L := L57) (fn := Proofs.Try.f57) (c := bodyC Proofs.Try.f57) (ls := [(0, loopC Proofs.Try.f57 0)]) Proofs.Try.func57 (by kernel_rfl) (by kernel_rfl) (by kernel_rfl) (by kernel_rfl)
    (LoopsP.cons q57_0 (s57_0) rfl (e57_0) LoopsP.nil) (e57)
/-! spec.SumOfTrack -/
def p21 : List SP := [.one (.r .int)]
def r21 : List SP := [.one (.int .i64)]
noncomputable def F21 (f15 : List Int × Unit → Option (Bool × Unit)) (f57 : List Int × Unit → Option (Int × Unit)) (a : List Int × Unit) : Option (Int × Unit) :=
  (f15 (a.1, ())).bind fun x1 => cond (!x1.1) (some (0, ())) ((f57 (a.1, ())).bind fun x2 => some (x2.1, ()))
def E21 (f15 : List Int × Unit → Option (Bool × Unit)) (f57 : List Int × Unit → Option (Int × Unit)) : Env := envL [(15, mkE p15 r15 false f15), (57, mkE p57 r57 false f57)]
noncomputable def L21 (f15 : List Int × Unit → Option (Bool × Unit)) (f57 : List Int × Unit → Option (Int × Unit)) : LEnv (densS (muts p21 ++ r21)) := lenv []
theorem e21 (f15 : List Int × Unit → Option (Bool × Unit)) (f57 : List Int × Unit → Option (Int × Unit)) (a : densS p21) : runF (E21 f15 f57) tab (fun _ => false) p21 r21 Proofs.Try.f21 (L21 f15 f57) a = F21 f15 f57 a := by kernel_rfl
theorem ok21 {f15 : List Int × Unit → Option (Bool × Unit)} {f57 : List Int × Unit → Option (Int × Unit)} (h15 : OK Proofs.Try.prog 15 (mkE p15 r15 false f15)) (h57 : OK Proofs.Try.prog 57 (mkE p57 r57 false f57)) : OK Proofs.Try.prog 21 (mkE p21 r21 false (F21 f15 f57)) :=
  fn_ok tab_ok (envL_ok (l := [(15, mkE p15 r15 false f15), (57, mkE p57 r57 false f57)]) (OKs.cons h15 (OKs.cons h57 OKs.nil))) mixed (ann := (fun _ => false)) (L := L21 f15 f57) (fn := Proofs.Try.f21) (c := bodyC Proofs.Try.f21) (ls := []) Proofs.Try.func21 (by kernel_rfl) (by kernel_rfl) (by kernel_rfl) (by kernel_rfl)
    LoopsP.nil (e21 f15 f57)
/-! impl.sumOf -/
def p58 : List SP := [.one (.r .int)]
def r58 : List SP := [.one (.int .i64)]
def q58_0 : List SP := pat 17 0 [(3, .one (.int .i64)), (6, .one (.r .int)), (7, .one (.int .i64)), (8, .one (.int .i64))]
noncomputable def s58_0 (t1 : Int × List Int × Int × Int × Unit) (rec K : Int × List Int × Int × Int × Unit → Option (Int × Unit)) : Option (Int × Unit) :=
  cond (decide (t1.2.2.2.1 < t1.2.2.1)) (rdL t1.2.1 t1.2.2.2.1 fun d2 => rec ((w64 (t1.1 + d2)), t1.2.1, t1.2.2.1, (w64 (t1.2.2.2.1 + 1)), ())) (K (t1.1, t1.2.1, t1.2.2.1, t1.2.2.2.1, ()))
noncomputable def F58 (a : List Int × Unit) : Option (Int × Unit) :=
  iterF (s58_0) fuel (0, a.1, (Int.ofNat (List.length a.1)), 0, ()) fun t3 => some (t3.1, ())
def E58 : Env := envL []
noncomputable def L58 : LEnv (densS (muts p58 ++ r58)) := lenv [(0, loopL (R := densS (muts p58 ++ r58)) q58_0 (s58_0))]
theorem e58_0 (X : Nat → St → Option (densS (muts p58 ++ r58))) (rec K : densS q58_0 → Option (densS (muts p58 ++ r58))) (t : densS q58_0) :
    ev (E58) tab (fun _ => false) (L58) (retK tab p58 r58 Proofs.Try.f58.results.toList) (loopC Proofs.Try.f58 0) (fun i s => cond (Nat.beq i 0) (decK 100 q58_0 s K) (X i s)) (fun s => decK 100 q58_0 s rec) (enc q58_0 t) = s58_0 t rec K := by kernel_rfl
theorem e58 (a : densS p58) : runF (E58) tab (fun _ => false) p58 r58 Proofs.Try.f58 (L58) a = F58 a := by kernel_rfl
theorem ok58 : OK Proofs.Try.prog 58 (mkE p58 r58 false (F58)) :=
  fn_ok tab_ok (envL_ok (l := []) OKs.nil) mixed (ann := (fun _ => false)) (L := L58) (fn := Proofs.Try.f58) (c := bodyC Proofs.Try.f58) (ls := [(0, loopC Proofs.Try.f58 0)]) Proofs.Try.func58 (by kernel_rfl) (by kernel_rfl) (by kernel_rfl) (by kernel_rfl)
    (LoopsP.cons q58_0 (s58_0) rfl (e58_0) LoopsP.nil) (e58)
/-! impl.SumOfTrack -/
def p22 : List SP := [.one (.r .int)]
def r22 : List SP := [.one (.int .i64)]
noncomputable def F22 (f17 : List Int × Unit → Option (Bool × Unit)) (f58 : List Int × Unit → Option (Int × Unit)) (a : List Int × Unit) : Option (Int × Unit) :=
  (f17 (a.1, ())).bind fun x1 => cond (!x1.1) (some (0, ())) ((f58 (a.1, ())).bind fun x2 => some (x2.1, ()))
def E22 (f17 : List Int × Unit → Option (Bool × Unit)) (f58 : List Int × Unit → Option (Int × Unit)) : Env := envL [(17, mkE p17 r17 false f17), (58, mkE p58 r58 false f58)]
noncomputable def L22 (f17 : List Int × Unit → Option (Bool × Unit)) (f58 : List Int × Unit → Option (Int × Unit)) : LEnv (densS (muts p22 ++ r22)) := lenv []
theorem e22 (f17 : List Int × Unit → Option (Bool × Unit)) (f58 : List Int × Unit → Option (Int × Unit)) (a : densS p22) : runF (E22 f17 f58) tab (fun _ => false) p22 r22 Proofs.Try.f22 (L22 f17 f58) a = F22 f17 f58 a := by kernel_rfl
theorem ok22 {f17 : List Int × Unit → Option (Bool × Unit)} {f58 : List Int × Unit → Option (Int × Unit)} (h17 : OK Proofs.Try.prog 17 (mkE p17 r17 false f17)) (h58 : OK Proofs.Try.prog 58 (mkE p58 r58 false f58)) : OK Proofs.Try.prog 22 (mkE p22 r22 false (F22 f17 f58)) :=
  fn_ok tab_ok (envL_ok (l := [(17, mkE p17 r17 false f17), (58, mkE p58 r58 false f58)]) (OKs.cons h17 (OKs.cons h58 OKs.nil))) mixed (ann := (fun _ => false)) (L := L22 f17 f58) (fn := Proofs.Try.f22) (c := bodyC Proofs.Try.f22) (ls := []) Proofs.Try.func22 (by kernel_rfl) (by kernel_rfl) (by kernel_rfl) (by kernel_rfl)
    LoopsP.nil (e22 f17 f58)
/-! laws.FnExactSumOfTrack -/
def p5 : List SP := [.one (.r .int)]
def r5 : List SP := [.one (.bool)]
noncomputable def F5 (f16 : List Int × Unit → Option (List Int × Unit)) (f21 : List Int × Unit → Option (Int × Unit)) (f22 : List Int × Unit → Option (Int × Unit)) (f18 : List Int × List Int × Unit → Option (Bool × Unit)) (a : List Int × Unit) : Option (Bool × Unit) :=
  cond (decide ((Int.ofNat (List.length a.1)) > 1048576)) (some (true, ())) ((f16 (a.1, ())).bind fun x1 => (f21 (x1.1, ())).bind fun x2 => (f16 (a.1, ())).bind fun x3 => (f22 (x3.1, ())).bind fun x4 => cond (!(decide (x4.1 = x2.1))) (some (false, ())) ((f16 (a.1, ())).bind fun x5 => (f18 (x3.1, x5.1, ())).bind fun x6 => cond (!x6.1) (some (false, ())) (some (true, ()))))
def E5 (f16 : List Int × Unit → Option (List Int × Unit)) (f21 : List Int × Unit → Option (Int × Unit)) (f22 : List Int × Unit → Option (Int × Unit)) (f18 : List Int × List Int × Unit → Option (Bool × Unit)) : Env := envL [(16, mkE p16 r16 false f16), (21, mkE p21 r21 false f21), (22, mkE p22 r22 false f22), (18, mkE p18 r18 false f18)]
noncomputable def L5 (f16 : List Int × Unit → Option (List Int × Unit)) (f21 : List Int × Unit → Option (Int × Unit)) (f22 : List Int × Unit → Option (Int × Unit)) (f18 : List Int × List Int × Unit → Option (Bool × Unit)) : LEnv (densS (muts p5 ++ r5)) := lenv []
theorem e5 (f16 : List Int × Unit → Option (List Int × Unit)) (f21 : List Int × Unit → Option (Int × Unit)) (f22 : List Int × Unit → Option (Int × Unit)) (f18 : List Int × List Int × Unit → Option (Bool × Unit)) (a : densS p5) : runF (E5 f16 f21 f22 f18) tab (fun _ => false) p5 r5 Proofs.Try.f5 (L5 f16 f21 f22 f18) a = F5 f16 f21 f22 f18 a := by kernel_rfl
theorem ok5 {f16 : List Int × Unit → Option (List Int × Unit)} {f21 : List Int × Unit → Option (Int × Unit)} {f22 : List Int × Unit → Option (Int × Unit)} {f18 : List Int × List Int × Unit → Option (Bool × Unit)} (h16 : OK Proofs.Try.prog 16 (mkE p16 r16 false f16)) (h21 : OK Proofs.Try.prog 21 (mkE p21 r21 false f21)) (h22 : OK Proofs.Try.prog 22 (mkE p22 r22 false f22)) (h18 : OK Proofs.Try.prog 18 (mkE p18 r18 false f18)) : OK Proofs.Try.prog 5 (mkE p5 r5 false (F5 f16 f21 f22 f18)) :=
  fn_ok tab_ok (envL_ok (l := [(16, mkE p16 r16 false f16), (21, mkE p21 r21 false f21), (22, mkE p22 r22 false f22), (18, mkE p18 r18 false f18)]) (OKs.cons h16 (OKs.cons h21 (OKs.cons h22 (OKs.cons h18 OKs.nil))))) mixed (ann := (fun _ => false)) (L := L5 f16 f21 f22 f18) (fn := Proofs.Try.f5) (c := bodyC Proofs.Try.f5) (ls := []) Proofs.Try.func5 (by kernel_rfl) (by kernel_rfl) (by kernel_rfl) (by kernel_rfl)
    LoopsP.nil (e5 f16 f21 f22 f18)
/-! spec.WindowOf -/
def p23 : List SP := [.one (.r .int), .one (.int .i64), .one (.int .i64)]
def r23 : List SP := [.one (.o 0 .int), .one (.bool)]
noncomputable def F23 (f15 : List Int × Unit → Option (Bool × Unit)) (a : List Int × Int × Int × Unit) : Option (List Int × Bool × Unit) :=
  (f15 (a.1, ())).bind fun x1 => cond (!(!x1.1)) (cond (!(decide (a.2.1 < 0))) (cond (!(decide (a.2.2.1 < a.2.1))) (cond (decide (a.2.2.1 > (Int.ofNat (List.length a.1)))) (some (([] : List Int), false, ())) (okIf (0 ≤ a.2.1 ∧ a.2.1 ≤ a.2.2.1 ∧ a.2.2.1 ≤ List.length a.1) (capK (List.length ([] : List Int) + List.length (List.drop (Int.toNat a.2.1) (List.take (Int.toNat a.2.2.1) a.1))) (some ((([] : List Int) ++ (List.drop (Int.toNat a.2.1) (List.take (Int.toNat a.2.2.1) a.1))), true, ()))))) (some (([] : List Int), false, ()))) (some (([] : List Int), false, ()))) (some (([] : List Int), false, ()))
def E23 (f15 : List Int × Unit → Option (Bool × Unit)) : Env := envL [(15, mkE p15 r15 false f15)]
noncomputable def L23 (f15 : List Int × Unit → Option (Bool × Unit)) : LEnv (densS (muts p23 ++ r23)) := lenv []
theorem e23 (f15 : List Int × Unit → Option (Bool × Unit)) (a : densS p23) : runF (E23 f15) tab (fun _ => false) p23 r23 Proofs.Try.f23 (L23 f15) a = F23 f15 a := by kernel_rfl
theorem ok23 {f15 : List Int × Unit → Option (Bool × Unit)} (h15 : OK Proofs.Try.prog 15 (mkE p15 r15 false f15)) : OK Proofs.Try.prog 23 (mkE p23 r23 false (F23 f15)) :=
  fn_ok tab_ok (envL_ok (l := [(15, mkE p15 r15 false f15)]) (OKs.cons h15 OKs.nil)) mixed (ann := (fun _ => false)) (L := L23 f15) (fn := Proofs.Try.f23) (c := bodyC Proofs.Try.f23) (ls := []) Proofs.Try.func23 (by kernel_rfl) (by kernel_rfl) (by kernel_rfl) (by kernel_rfl)
    LoopsP.nil (e23 f15)
/-! slices.Clone[[]int,int] -/
def p59 : List SP := [.one (.r .int)]
def r59 : List SP := [.one (.o 0 .int)]
noncomputable def F59 (a : List Int × Unit) : Option (List Int × Unit) :=
  emptyK (List.isEmpty a.1) (some ([], ())) (capK (List.length ([] : List Int) + List.length a.1) (some ((([] : List Int) ++ a.1), ())))
def E59 : Env := envL []
noncomputable def L59 : LEnv (densS (muts p59 ++ r59)) := lenv []
theorem e59 (a : densS p59) : runF (E59) tab (fun _ => false) p59 r59 Proofs.Try.f59 (L59) a = F59 a := by kernel_rfl
theorem ok59 : OK Proofs.Try.prog 59 (mkE p59 r59 false (F59)) :=
  fn_ok tab_ok (envL_ok (l := []) OKs.nil) mixed (ann := (fun _ => false)) (L := L59) (fn := Proofs.Try.f59) (c := bodyC Proofs.Try.f59) (ls := []) Proofs.Try.func59 (by kernel_rfl) (by kernel_rfl) (by kernel_rfl) (by kernel_rfl)
    LoopsP.nil (e59)
/-! impl.WindowOf -/
def p24 : List SP := [.one (.r .int), .one (.int .i64), .one (.int .i64)]
def r24 : List SP := [.one (.o 0 .int), .one (.bool)]
noncomputable def F24 (f17 : List Int × Unit → Option (Bool × Unit)) (f59 : List Int × Unit → Option (List Int × Unit)) (a : List Int × Int × Int × Unit) : Option (List Int × Bool × Unit) :=
  (f17 (a.1, ())).bind fun x1 => cond (!(!x1.1)) (cond (!(decide (a.2.1 < 0))) (cond (!(decide (a.2.2.1 < a.2.1))) (cond (decide (a.2.2.1 > (Int.ofNat (List.length a.1)))) (some (([] : List Int), false, ())) (okIf (0 ≤ a.2.1 ∧ a.2.1 ≤ a.2.2.1 ∧ a.2.2.1 ≤ List.length a.1) ((f59 ((List.drop (Int.toNat a.2.1) (List.take (Int.toNat a.2.2.1) a.1)), ())).bind fun x2 => some (x2.1, true, ())))) (some (([] : List Int), false, ()))) (some (([] : List Int), false, ()))) (some (([] : List Int), false, ()))
def E24 (f17 : List Int × Unit → Option (Bool × Unit)) (f59 : List Int × Unit → Option (List Int × Unit)) : Env := envL [(17, mkE p17 r17 false f17), (59, mkE p59 r59 false f59)]
noncomputable def L24 (f17 : List Int × Unit → Option (Bool × Unit)) (f59 : List Int × Unit → Option (List Int × Unit)) : LEnv (densS (muts p24 ++ r24)) := lenv []
theorem e24 (f17 : List Int × Unit → Option (Bool × Unit)) (f59 : List Int × Unit → Option (List Int × Unit)) (a : densS p24) : runF (E24 f17 f59) tab (fun _ => false) p24 r24 Proofs.Try.f24 (L24 f17 f59) a = F24 f17 f59 a := by kernel_rfl
theorem ok24 {f17 : List Int × Unit → Option (Bool × Unit)} {f59 : List Int × Unit → Option (List Int × Unit)} (h17 : OK Proofs.Try.prog 17 (mkE p17 r17 false f17)) (h59 : OK Proofs.Try.prog 59 (mkE p59 r59 false f59)) : OK Proofs.Try.prog 24 (mkE p24 r24 false (F24 f17 f59)) :=
  fn_ok tab_ok (envL_ok (l := [(17, mkE p17 r17 false f17), (59, mkE p59 r59 false f59)]) (OKs.cons h17 (OKs.cons h59 OKs.nil))) mixed (ann := (fun _ => false)) (L := L24 f17 f59) (fn := Proofs.Try.f24) (c := bodyC Proofs.Try.f24) (ls := []) Proofs.Try.func24 (by kernel_rfl) (by kernel_rfl) (by kernel_rfl) (by kernel_rfl)
    LoopsP.nil (e24 f17 f59)
/-! laws.markIntS -/
def p25 : List SP := [.one (.o 0 .int), .one (.int .i64)]
def r25 : List SP := [.one (.int .i64)]
def q25_0 : List SP := pat 19 0 [(0, .one (.o 0 .int)), (1, .one (.int .i64)), (5, .one (.int .i64))]
noncomputable def s25_0 (t1 : List Int × Int × Int × Unit) (rec K : List Int × Int × Int × Unit → Option (List Int × Int × Unit)) : Option (List Int × Int × Unit) :=
  cond (decide (t1.2.2.1 < (Int.ofNat (List.length t1.1)))) (rdL t1.1 t1.2.2.1 fun _ => (t1.1[(Int.toNat t1.2.2.1)]?).bind fun d2 => rec ((List.set t1.1 (Int.toNat t1.2.2.1) t1.2.1), (w64 (t1.2.1 + 1)), (w64 (t1.2.2.1 + 1)), ())) (K (t1.1, t1.2.1, t1.2.2.1, ()))
noncomputable def F25 (a : List Int × Int × Unit) : Option (List Int × Int × Unit) :=
  iterF (s25_0) fuel (a.1, a.2.1, 0, ()) fun t3 => some (t3.1, t3.2.1, ())
def E25 : Env := envL []
noncomputable def L25 : LEnv (densS (muts p25 ++ r25)) := lenv [(0, loopL (R := densS (muts p25 ++ r25)) q25_0 (s25_0))]
theorem e25_0 (X : Nat → St → Option (densS (muts p25 ++ r25))) (rec K : densS q25_0 → Option (densS (muts p25 ++ r25))) (t : densS q25_0) :
    ev (E25) tab (fun _ => false) (L25) (retK tab p25 r25 Proofs.Try.f25.results.toList) (loopC Proofs.Try.f25 0) (fun i s => cond (Nat.beq i 0) (decK 100 q25_0 s K) (X i s)) (fun s => decK 100 q25_0 s rec) (enc q25_0 t) = s25_0 t rec K := by kernel_rfl
theorem e25 (a : densS p25) : runF (E25) tab (fun _ => false) p25 r25 Proofs.Try.f25 (L25) a = F25 a := by kernel_rfl
theorem ok25 : OK Proofs.Try.prog 25 (mkE p25 r25 false (F25)) :=
  fn_ok tab_ok (envL_ok (l := []) OKs.nil) mixed (ann := (fun _ => false)) (L := L25) (fn := Proofs.Try.f25) (c := bodyC Proofs.Try.f25) (ls := [(0, loopC Proofs.Try.f25 0)]) Proofs.Try.func25 (by kernel_rfl) (by kernel_rfl) (by kernel_rfl) (by kernel_rfl)
    (LoopsP.cons q25_0 (s25_0) rfl (e25_0) LoopsP.nil) (e25)
/-! laws.heldIntS -/
def p26 : List SP := [.one (.r .int), .one (.int .i64)]
def r26 : List SP := [.one (.int .i64)]
def q26_0 : List SP := pat 21 0 [(0, .one (.r .int)), (1, .one (.int .i64)), (5, .one (.int .i64))]
noncomputable def s26_0 (t1 : List Int × Int × Int × Unit) (rec K : List Int × Int × Int × Unit → Option (Int × Unit)) : Option (Int × Unit) :=
  cond (decide (t1.2.2.1 < (Int.ofNat (List.length t1.1)))) (rdL t1.1 t1.2.2.1 fun d2 => cond (!(decide (d2 = t1.2.1))) (some ((-1), ())) (rec (t1.1, (w64 (t1.2.1 + 1)), (w64 (t1.2.2.1 + 1)), ()))) (K (t1.1, t1.2.1, t1.2.2.1, ()))
noncomputable def F26 (a : List Int × Int × Unit) : Option (Int × Unit) :=
  iterF (s26_0) fuel (a.1, a.2.1, 0, ()) fun t3 => some (t3.2.1, ())
def E26 : Env := envL []
noncomputable def L26 : LEnv (densS (muts p26 ++ r26)) := lenv [(0, loopL (R := densS (muts p26 ++ r26)) q26_0 (s26_0))]
theorem e26_0 (X : Nat → St → Option (densS (muts p26 ++ r26))) (rec K : densS q26_0 → Option (densS (muts p26 ++ r26))) (t : densS q26_0) :
    ev (E26) tab (fun _ => false) (L26) (retK tab p26 r26 Proofs.Try.f26.results.toList) (loopC Proofs.Try.f26 0) (fun i s => cond (Nat.beq i 0) (decK 100 q26_0 s K) (X i s)) (fun s => decK 100 q26_0 s rec) (enc q26_0 t) = s26_0 t rec K := by kernel_rfl
theorem e26 (a : densS p26) : runF (E26) tab (fun _ => false) p26 r26 Proofs.Try.f26 (L26) a = F26 a := by kernel_rfl
theorem ok26 : OK Proofs.Try.prog 26 (mkE p26 r26 false (F26)) :=
  fn_ok tab_ok (envL_ok (l := []) OKs.nil) mixed (ann := (fun _ => false)) (L := L26) (fn := Proofs.Try.f26) (c := bodyC Proofs.Try.f26) (ls := [(0, loopC Proofs.Try.f26 0)]) Proofs.Try.func26 (by kernel_rfl) (by kernel_rfl) (by kernel_rfl) (by kernel_rfl)
    (LoopsP.cons q26_0 (s26_0) rfl (e26_0) LoopsP.nil) (e26)
/-! laws.FnExactWindowOf -/
def p6 : List SP := [.one (.r .int), .one (.int .i64), .one (.int .i64)]
def r6 : List SP := [.one (.bool)]
noncomputable def F6 (f16 : List Int × Unit → Option (List Int × Unit)) (f23 : List Int × Int × Int × Unit → Option (List Int × Bool × Unit)) (f24 : List Int × Int × Int × Unit → Option (List Int × Bool × Unit)) (f18 : List Int × List Int × Unit → Option (Bool × Unit)) (f25 : List Int × Int × Unit → Option (List Int × Int × Unit)) (f26 : List Int × Int × Unit → Option (Int × Unit)) (a : List Int × Int × Int × Unit) : Option (Bool × Unit) :=
  cond (decide ((Int.ofNat (List.length a.1)) > 1048576)) (some (true, ())) ((f16 (a.1, ())).bind fun x1 => (f23 (x1.1, a.2.1, a.2.2.1, ())).bind fun x2 => (f16 (a.1, ())).bind fun x3 => (f24 (x3.1, a.2.1, a.2.2.1, ())).bind fun x4 => (f18 (x4.1, x2.1, ())).bind fun x5 => cond (!(!x5.1)) (cond (!(decide (x4.2.1 = x2.2.1))) (some (false, ())) ((f16 (a.1, ())).bind fun x6 => (f18 (x3.1, x6.1, ())).bind fun x7 => cond (!x7.1) (some (false, ())) ((f25 (x3.1, 1, ())).bind fun x8 => cond (!(decide (x8.2.1 < 0))) ((f18 (x4.1, x2.1, ())).bind fun x9 => cond (!(!x9.1)) (cond (!(decide (x4.2.1 = x2.2.1))) (some (false, ())) ((f25 (x4.1, 1, ())).bind fun x10 => (f26 (x10.1, 1, ())).bind fun x11 => cond (decide (x11.1 < 0)) (some (false, ())) (cond (!(decide (x11.1 = x10.2.1))) (some (false, ())) ((f16 (a.1, ())).bind fun x12 => (f24 (x12.1, a.2.1, a.2.2.1, ())).bind fun x13 => (f18 (x13.1, x2.1, ())).bind fun x14 => cond (!(!x14.1)) (cond (!(decide (x13.2.1 = x2.2.1))) (some (false, ())) ((f26 (x10.1, 1, ())).bind fun x15 => cond (decide (x15.1 < 0)) (some (false, ())) (cond (!(decide (x15.1 = x10.2.1))) (some (false, ())) (some (true, ()))))) (some (false, ())))))) (some (false, ()))) (some (false, ()))))) (some (false, ())))
def E6 (f16 : List Int × Unit → Option (List Int × Unit)) (f23 : List Int × Int × Int × Unit → Option (List Int × Bool × Unit)) (f24 : List Int × Int × Int × Unit → Option (List Int × Bool × Unit)) (f18 : List Int × List Int × Unit → Option (Bool × Unit)) (f25 : List Int × Int × Unit → Option (List Int × Int × Unit)) (f26 : List Int × Int × Unit → Option (Int × Unit)) : Env := envL [(16, mkE p16 r16 false f16), (23, mkE p23 r23 false f23), (24, mkE p24 r24 false f24), (18, mkE p18 r18 false f18), (25, mkE p25 r25 false f25), (26, mkE p26 r26 false f26)]
noncomputable def L6 (f16 : List Int × Unit → Option (List Int × Unit)) (f23 : List Int × Int × Int × Unit → Option (List Int × Bool × Unit)) (f24 : List Int × Int × Int × Unit → Option (List Int × Bool × Unit)) (f18 : List Int × List Int × Unit → Option (Bool × Unit)) (f25 : List Int × Int × Unit → Option (List Int × Int × Unit)) (f26 : List Int × Int × Unit → Option (Int × Unit)) : LEnv (densS (muts p6 ++ r6)) := lenv []
theorem e6 (f16 : List Int × Unit → Option (List Int × Unit)) (f23 : List Int × Int × Int × Unit → Option (List Int × Bool × Unit)) (f24 : List Int × Int × Int × Unit → Option (List Int × Bool × Unit)) (f18 : List Int × List Int × Unit → Option (Bool × Unit)) (f25 : List Int × Int × Unit → Option (List Int × Int × Unit)) (f26 : List Int × Int × Unit → Option (Int × Unit)) (a : densS p6) : runF (E6 f16 f23 f24 f18 f25 f26) tab (fun _ => false) p6 r6 Proofs.Try.f6 (L6 f16 f23 f24 f18 f25 f26) a = F6 f16 f23 f24 f18 f25 f26 a := by kernel_rfl
theorem ok6 {f16 : List Int × Unit → Option (List Int × Unit)} {f23 : List Int × Int × Int × Unit → Option (List Int × Bool × Unit)} {f24 : List Int × Int × Int × Unit → Option (List Int × Bool × Unit)} {f18 : List Int × List Int × Unit → Option (Bool × Unit)} {f25 : List Int × Int × Unit → Option (List Int × Int × Unit)} {f26 : List Int × Int × Unit → Option (Int × Unit)} (h16 : OK Proofs.Try.prog 16 (mkE p16 r16 false f16)) (h23 : OK Proofs.Try.prog 23 (mkE p23 r23 false f23)) (h24 : OK Proofs.Try.prog 24 (mkE p24 r24 false f24)) (h18 : OK Proofs.Try.prog 18 (mkE p18 r18 false f18)) (h25 : OK Proofs.Try.prog 25 (mkE p25 r25 false f25)) (h26 : OK Proofs.Try.prog 26 (mkE p26 r26 false f26)) : OK Proofs.Try.prog 6 (mkE p6 r6 false (F6 f16 f23 f24 f18 f25 f26)) :=
  fn_ok tab_ok (envL_ok (l := [(16, mkE p16 r16 false f16), (23, mkE p23 r23 false f23), (24, mkE p24 r24 false f24), (18, mkE p18 r18 false f18), (25, mkE p25 r25 false f25), (26, mkE p26 r26 false f26)]) (OKs.cons h16 (OKs.cons h23 (OKs.cons h24 (OKs.cons h18 (OKs.cons h25 (OKs.cons h26 OKs.nil))))))) mixed (ann := (fun _ => false)) (L := L6 f16 f23 f24 f18 f25 f26) (fn := Proofs.Try.f6) (c := bodyC Proofs.Try.f6) (ls := []) Proofs.Try.func6 (by kernel_rfl) (by kernel_rfl) (by kernel_rfl) (by kernel_rfl)
    LoopsP.nil (e6 f16 f23 f24 f18 f25 f26)
/-! spec.l1Min -/
def p60 : List SP := [.one (.int .i64), .one (.int .i64)]
def r60 : List SP := [.one (.int .i64)]
noncomputable def F60 (a : Int × Int × Unit) : Option (Int × Unit) :=
  cond (decide (a.1 < a.2.1)) (some (a.1, ())) (some (a.2.1, ()))
def E60 : Env := envL []
noncomputable def L60 : LEnv (densS (muts p60 ++ r60)) := lenv []
theorem e60 (a : densS p60) : runF (E60) tab (fun _ => false) p60 r60 Proofs.Try.f60 (L60) a = F60 a := by kernel_rfl
theorem ok60 : OK Proofs.Try.prog 60 (mkE p60 r60 false (F60)) :=
  fn_ok tab_ok (envL_ok (l := []) OKs.nil) mixed (ann := (fun _ => false)) (L := L60) (fn := Proofs.Try.f60) (c := bodyC Proofs.Try.f60) (ls := []) Proofs.Try.func60 (by kernel_rfl) (by kernel_rfl) (by kernel_rfl) (by kernel_rfl)
    LoopsP.nil (e60)
/-! spec.CutTrack -/
def p27 : List SP := [.one (.r .int), .one (.int .i64)]
def r27 : List SP := [.one (.o 0 .int)]
def q27_0 : List SP := pat 29 0 [(0, .one (.r .int)), (1, .one (.int .i64)), (5, .one (.o 5000001 .int)), (9, .one (.r .int)), (10, .one (.int .i64)), (11, .one (.int .i64))]
noncomputable def s27_0 (f15 : List Int × Unit → Option (Bool × Unit)) (f60 : Int × Int × Unit → Option (Int × Unit)) (t1 : List Int × Int × List Int × List Int × Int × Int × Unit) (rec K : List Int × Int × List Int × List Int × Int × Int × Unit → Option (List Int × Unit)) : Option (List Int × Unit) :=
  cond (decide (t1.2.2.2.2.2.1 < t1.2.2.2.2.1)) (rdL t1.2.2.2.1 t1.2.2.2.2.2.1 fun d2 => (f15 (t1.1, ())).bind fun x3 => cond x3.1 (cond (decide (t1.2.1 ≥ 0)) ((f60 (d2, t1.2.1, ())).bind fun x4 => capK (List.length t1.2.2.1 + List.length ([x4.1] : List Int)) (rec (t1.1, t1.2.1, (t1.2.2.1 ++ ([x4.1] : List Int)), t1.2.2.2.1, t1.2.2.2.2.1, (w64 (t1.2.2.2.2.2.1 + 1)), ()))) (rec (t1.1, t1.2.1, t1.2.2.1, t1.2.2.2.1, t1.2.2.2.2.1, (w64 (t1.2.2.2.2.2.1 + 1)), ()))) (rec (t1.1, t1.2.1, t1.2.2.1, t1.2.2.2.1, t1.2.2.2.2.1, (w64 (t1.2.2.2.2.2.1 + 1)), ()))) (K (t1.1, t1.2.1, t1.2.2.1, t1.2.2.2.1, t1.2.2.2.2.1, t1.2.2.2.2.2.1, ()))
noncomputable def F27 (f15 : List Int × Unit → Option (Bool × Unit)) (f60 : Int × Int × Unit → Option (Int × Unit)) (a : List Int × Int × Unit) : Option (List Int × Unit) :=
  iterF (s27_0 f15 f60) fuel (a.1, a.2.1, ([] : List Int), a.1, (Int.ofNat (List.length a.1)), 0, ()) fun t5 => some (t5.2.2.1, ())
def E27 (f15 : List Int × Unit → Option (Bool × Unit)) (f60 : Int × Int × Unit → Option (Int × Unit)) : Env := envL [(15, mkE p15 r15 false f15), (60, mkE p60 r60 false f60)]
noncomputable def L27 (f15 : List Int × Unit → Option (Bool × Unit)) (f60 : Int × Int × Unit → Option (Int × Unit)) : LEnv (densS (muts p27 ++ r27)) := lenv [(0, loopL (R := densS (muts p27 ++ r27)) q27_0 (s27_0 f15 f60))]
theorem e27_0 (f15 : List Int × Unit → Option (Bool × Unit)) (f60 : Int × Int × Unit → Option (Int × Unit)) (X : Nat → St → Option (densS (muts p27 ++ r27))) (rec K : densS q27_0 → Option (densS (muts p27 ++ r27))) (t : densS q27_0) :
    ev (E27 f15 f60) tab (fun _ => false) (L27 f15 f60) (retK tab p27 r27 Proofs.Try.f27.results.toList) (loopC Proofs.Try.f27 0) (fun i s => cond (Nat.beq i 0) (decK 100 q27_0 s K) (X i s)) (fun s => decK 100 q27_0 s rec) (enc q27_0 t) = s27_0 f15 f60 t rec K := by kernel_rfl
theorem e27 (f15 : List Int × Unit → Option (Bool × Unit)) (f60 : Int × Int × Unit → Option (Int × Unit)) (a : densS p27) : runF (E27 f15 f60) tab (fun _ => false) p27 r27 Proofs.Try.f27 (L27 f15 f60) a = F27 f15 f60 a := by kernel_rfl
theorem ok27 {f15 : List Int × Unit → Option (Bool × Unit)} {f60 : Int × Int × Unit → Option (Int × Unit)} (h15 : OK Proofs.Try.prog 15 (mkE p15 r15 false f15)) (h60 : OK Proofs.Try.prog 60 (mkE p60 r60 false f60)) : OK Proofs.Try.prog 27 (mkE p27 r27 false (F27 f15 f60)) :=
  fn_ok tab_ok (envL_ok (l := [(15, mkE p15 r15 false f15), (60, mkE p60 r60 false f60)]) (OKs.cons h15 (OKs.cons h60 OKs.nil))) mixed (ann := (fun _ => false)) (L := L27 f15 f60) (fn := Proofs.Try.f27) (c := bodyC Proofs.Try.f27) (ls := [(0, loopC Proofs.Try.f27 0)]) Proofs.Try.func27 (by kernel_rfl) (by kernel_rfl) (by kernel_rfl) (by kernel_rfl)
    (LoopsP.cons q27_0 (s27_0 f15 f60) rfl (e27_0 f15 f60) LoopsP.nil) (e27 f15 f60)
/-! impl.CutTrack -/
def p28 : List SP := [.one (.r .int), .one (.int .i64)]
def r28 : List SP := [.one (.o 0 .int)]
def q28_0 : List SP := pat 31 0 [(1, .one (.int .i64)), (5, .one (.o 5000001 .int)), (17, .one (.r .int)), (18, .one (.int .i64)), (19, .one (.int .i64))]
noncomputable def s28_0 (f17 : List Int × Unit → Option (Bool × Unit)) (t2 : Int × List Int × List Int × Int × Int × Unit) (rec K : Int × List Int × List Int × Int × Int × Unit → Option (List Int × Unit)) : Option (List Int × Unit) :=
  cond (decide (t2.2.2.2.2.1 < t2.2.2.2.1)) (rdL t2.2.2.1 t2.2.2.2.2.1 fun d3 => capK (List.length t2.2.1 + List.length ([(mn d3 t2.1)] : List Int)) (rec (t2.1, (t2.2.1 ++ ([(mn d3 t2.1)] : List Int)), t2.2.2.1, t2.2.2.2.1, (w64 (t2.2.2.2.2.1 + 1)), ()))) (K (t2.1, t2.2.1, t2.2.2.1, t2.2.2.2.1, t2.2.2.2.2.1, ()))
noncomputable def F28 (f17 : List Int × Unit → Option (Bool × Unit)) (a : List Int × Int × Unit) : Option (List Int × Unit) :=
  (f17 (a.1, ())).bind fun x1 => cond (!(!x1.1)) (cond (decide (a.2.1 < 0)) (some (([] : List Int), ())) (iterF (s28_0 f17) fuel (a.2.1, ([] : List Int), a.1, (Int.ofNat (List.length a.1)), 0, ()) fun t4 => some (t4.2.1, ()))) (some (([] : List Int), ()))
def E28 (f17 : List Int × Unit → Option (Bool × Unit)) : Env := envL [(17, mkE p17 r17 false f17)]
noncomputable def L28 (f17 : List Int × Unit → Option (Bool × Unit)) : LEnv (densS (muts p28 ++ r28)) := lenv [(0, loopL (R := densS (muts p28 ++ r28)) q28_0 (s28_0 f17))]
theorem e28_0 (f17 : List Int × Unit → Option (Bool × Unit)) (X : Nat → St → Option (densS (muts p28 ++ r28))) (rec K : densS q28_0 → Option (densS (muts p28 ++ r28))) (t : densS q28_0) :
    ev (E28 f17) tab (fun _ => false) (L28 f17) (retK tab p28 r28 Proofs.Try.f28.results.toList) (loopC Proofs.Try.f28 0) (fun i s => cond (Nat.beq i 0) (decK 100 q28_0 s K) (X i s)) (fun s => decK 100 q28_0 s rec) (enc q28_0 t) = s28_0 f17 t rec K := by kernel_rfl
theorem e28 (f17 : List Int × Unit → Option (Bool × Unit)) (a : densS p28) : runF (E28 f17) tab (fun _ => false) p28 r28 Proofs.Try.f28 (L28 f17) a = F28 f17 a := by kernel_rfl
theorem ok28 {f17 : List Int × Unit → Option (Bool × Unit)} (h17 : OK Proofs.Try.prog 17 (mkE p17 r17 false f17)) : OK Proofs.Try.prog 28 (mkE p28 r28 false (F28 f17)) :=
  fn_ok tab_ok (envL_ok (l := [(17, mkE p17 r17 false f17)]) (OKs.cons h17 OKs.nil)) mixed (ann := (fun _ => false)) (L := L28 f17) (fn := Proofs.Try.f28) (c := bodyC Proofs.Try.f28) (ls := [(0, loopC Proofs.Try.f28 0)]) Proofs.Try.func28 (by kernel_rfl) (by kernel_rfl) (by kernel_rfl) (by kernel_rfl)
    (LoopsP.cons q28_0 (s28_0 f17) rfl (e28_0 f17) LoopsP.nil) (e28 f17)
/-! laws.FnExactCutTrack -/
def p7 : List SP := [.one (.r .int), .one (.int .i64)]
def r7 : List SP := [.one (.bool)]
noncomputable def F7 (f16 : List Int × Unit → Option (List Int × Unit)) (f27 : List Int × Int × Unit → Option (List Int × Unit)) (f28 : List Int × Int × Unit → Option (List Int × Unit)) (f18 : List Int × List Int × Unit → Option (Bool × Unit)) (f25 : List Int × Int × Unit → Option (List Int × Int × Unit)) (f26 : List Int × Int × Unit → Option (Int × Unit)) (a : List Int × Int × Unit) : Option (Bool × Unit) :=
  cond (decide ((Int.ofNat (List.length a.1)) > 1048576)) (some (true, ())) ((f16 (a.1, ())).bind fun x1 => (f27 (x1.1, a.2.1, ())).bind fun x2 => (f16 (a.1, ())).bind fun x3 => (f28 (x3.1, a.2.1, ())).bind fun x4 => (f18 (x4.1, x2.1, ())).bind fun x5 => cond (!x5.1) (some (false, ())) ((f16 (a.1, ())).bind fun x6 => (f18 (x3.1, x6.1, ())).bind fun x7 => cond (!x7.1) (some (false, ())) ((f25 (x3.1, 1, ())).bind fun x8 => cond (!(decide (x8.2.1 < 0))) ((f18 (x4.1, x2.1, ())).bind fun x9 => cond (!x9.1) (some (false, ())) ((f25 (x4.1, 1, ())).bind fun x10 => (f26 (x10.1, 1, ())).bind fun x11 => cond (decide (x11.1 < 0)) (some (false, ())) (cond (!(decide (x11.1 = x10.2.1))) (some (false, ())) ((f16 (a.1, ())).bind fun x12 => (f28 (x12.1, a.2.1, ())).bind fun x13 => (f18 (x13.1, x2.1, ())).bind fun x14 => cond (!x14.1) (some (false, ())) ((f26 (x10.1, 1, ())).bind fun x15 => cond (decide (x15.1 < 0)) (some (false, ())) (cond (!(decide (x15.1 = x10.2.1))) (some (false, ())) (some (true, ())))))))) (some (false, ())))))
def E7 (f16 : List Int × Unit → Option (List Int × Unit)) (f27 : List Int × Int × Unit → Option (List Int × Unit)) (f28 : List Int × Int × Unit → Option (List Int × Unit)) (f18 : List Int × List Int × Unit → Option (Bool × Unit)) (f25 : List Int × Int × Unit → Option (List Int × Int × Unit)) (f26 : List Int × Int × Unit → Option (Int × Unit)) : Env := envL [(16, mkE p16 r16 false f16), (27, mkE p27 r27 false f27), (28, mkE p28 r28 false f28), (18, mkE p18 r18 false f18), (25, mkE p25 r25 false f25), (26, mkE p26 r26 false f26)]
noncomputable def L7 (f16 : List Int × Unit → Option (List Int × Unit)) (f27 : List Int × Int × Unit → Option (List Int × Unit)) (f28 : List Int × Int × Unit → Option (List Int × Unit)) (f18 : List Int × List Int × Unit → Option (Bool × Unit)) (f25 : List Int × Int × Unit → Option (List Int × Int × Unit)) (f26 : List Int × Int × Unit → Option (Int × Unit)) : LEnv (densS (muts p7 ++ r7)) := lenv []
theorem e7 (f16 : List Int × Unit → Option (List Int × Unit)) (f27 : List Int × Int × Unit → Option (List Int × Unit)) (f28 : List Int × Int × Unit → Option (List Int × Unit)) (f18 : List Int × List Int × Unit → Option (Bool × Unit)) (f25 : List Int × Int × Unit → Option (List Int × Int × Unit)) (f26 : List Int × Int × Unit → Option (Int × Unit)) (a : densS p7) : runF (E7 f16 f27 f28 f18 f25 f26) tab (fun _ => false) p7 r7 Proofs.Try.f7 (L7 f16 f27 f28 f18 f25 f26) a = F7 f16 f27 f28 f18 f25 f26 a := by kernel_rfl
theorem ok7 {f16 : List Int × Unit → Option (List Int × Unit)} {f27 : List Int × Int × Unit → Option (List Int × Unit)} {f28 : List Int × Int × Unit → Option (List Int × Unit)} {f18 : List Int × List Int × Unit → Option (Bool × Unit)} {f25 : List Int × Int × Unit → Option (List Int × Int × Unit)} {f26 : List Int × Int × Unit → Option (Int × Unit)} (h16 : OK Proofs.Try.prog 16 (mkE p16 r16 false f16)) (h27 : OK Proofs.Try.prog 27 (mkE p27 r27 false f27)) (h28 : OK Proofs.Try.prog 28 (mkE p28 r28 false f28)) (h18 : OK Proofs.Try.prog 18 (mkE p18 r18 false f18)) (h25 : OK Proofs.Try.prog 25 (mkE p25 r25 false f25)) (h26 : OK Proofs.Try.prog 26 (mkE p26 r26 false f26)) : OK Proofs.Try.prog 7 (mkE p7 r7 false (F7 f16 f27 f28 f18 f25 f26)) :=
  fn_ok tab_ok (envL_ok (l := [(16, mkE p16 r16 false f16), (27, mkE p27 r27 false f27), (28, mkE p28 r28 false f28), (18, mkE p18 r18 false f18), (25, mkE p25 r25 false f25), (26, mkE p26 r26 false f26)]) (OKs.cons h16 (OKs.cons h27 (OKs.cons h28 (OKs.cons h18 (OKs.cons h25 (OKs.cons h26 OKs.nil))))))) mixed (ann := (fun _ => false)) (L := L7 f16 f27 f28 f18 f25 f26) (fn := Proofs.Try.f7) (c := bodyC Proofs.Try.f7) (ls := []) Proofs.Try.func7 (by kernel_rfl) (by kernel_rfl) (by kernel_rfl) (by kernel_rfl)
    LoopsP.nil (e7 f16 f27 f28 f18 f25 f26)
/-! spec.HigherOf -/
def p36 : List SP := [.one (.r .int), .one (.r .int)]
def r36 : List SP := [.one (.o 0 .int)]
def q36_0 : List SP := pat 52 0 [(0, .one (.r .int)), (1, .one (.r .int)), (5, .one (.o 5000001 .int)), (6, .one (.int .i64))]
noncomputable def s36_0 (f15 : List Int × Unit → Option (Bool × Unit)) (f56 : Int × Int × Unit → Option (Int × Unit)) (t1 : List Int × List Int × List Int × Int × Unit) (rec K : List Int × List Int × List Int × Int × Unit → Option (List Int × Unit)) : Option (List Int × Unit) :=
  cond (!(decide (t1.2.2.2.1 < (Int.ofNat (List.length t1.1))))) (cond (decide (t1.2.2.2.1 < (Int.ofNat (List.length t1.2.1)))) ((f15 (t1.1, ())).bind fun x2 => cond x2.1 ((f15 (t1.2.1, ())).bind fun x3 => cond x3.1 (cond (decide (t1.2.2.2.1 < (Int.ofNat (List.length t1.1)))) (rdL t1.1 t1.2.2.2.1 fun d4 => cond (decide (t1.2.2.2.1 < (Int.ofNat (List.length t1.2.1)))) (rdL t1.2.1 t1.2.2.2.1 fun d5 => (f56 (d4, d5, ())).bind fun x6 => capK (List.length t1.2.2.1 + List.length ([x6.1] : List Int)) (rec (t1.1, t1.2.1, (t1.2.2.1 ++ ([x6.1] : List Int)), (w64 (t1.2.2.2.1 + 1)), ()))) (capK (List.length t1.2.2.1 + List.length ([d4] : List Int)) (rec (t1.1, t1.2.1, (t1.2.2.1 ++ ([d4] : List Int)), (w64 (t1.2.2.2.1 + 1)), ())))) (cond (decide (t1.2.2.2.1 < (Int.ofNat (List.length t1.2.1)))) (rdL t1.2.1 t1.2.2.2.1 fun d7 => (f56 (0, d7, ())).bind fun x8 => capK (List.length t1.2.2.1 + List.length ([x8.1] : List Int)) (rec (t1.1, t1.2.1, (t1.2.2.1 ++ ([x8.1] : List Int)), (w64 (t1.2.2.2.1 + 1)), ()))) (capK (List.length t1.2.2.1 + List.length ([0] : List Int)) (rec (t1.1, t1.2.1, (t1.2.2.1 ++ ([0] : List Int)), (w64 (t1.2.2.2.1 + 1)), ()))))) (K (t1.1, t1.2.1, t1.2.2.1, t1.2.2.2.1, ()))) (K (t1.1, t1.2.1, t1.2.2.1, t1.2.2.2.1, ()))) (K (t1.1, t1.2.1, t1.2.2.1, t1.2.2.2.1, ()))) ((f15 (t1.1, ())).bind fun x9 => cond x9.1 ((f15 (t1.2.1, ())).bind fun x10 => cond x10.1 (cond (decide (t1.2.2.2.1 < (Int.ofNat (List.length t1.1)))) (rdL t1.1 t1.2.2.2.1 fun d11 => cond (decide (t1.2.2.2.1 < (Int.ofNat (List.length t1.2.1)))) (rdL t1.2.1 t1.2.2.2.1 fun d12 => (f56 (d11, d12, ())).bind fun x13 => capK (List.length t1.2.2.1 + List.length ([x13.1] : List Int)) (rec (t1.1, t1.2.1, (t1.2.2.1 ++ ([x13.1] : List Int)), (w64 (t1.2.2.2.1 + 1)), ()))) (capK (List.length t1.2.2.1 + List.length ([d11] : List Int)) (rec (t1.1, t1.2.1, (t1.2.2.1 ++ ([d11] : List Int)), (w64 (t1.2.2.2.1 + 1)), ())))) (cond (decide (t1.2.2.2.1 < (Int.ofNat (List.length t1.2.1)))) (rdL t1.2.1 t1.2.2.2.1 fun d14 => (f56 (0, d14, ())).bind fun x15 => capK (List.length t1.2.2.1 + List.length ([x15.1] : List Int)) (rec (t1.1, t1.2.1, (t1.2.2.1 ++ ([x15.1] : List Int)), (w64 (t1.2.2.2.1 + 1)), ()))) (capK (List.length t1.2.2.1 + List.length ([0] : List Int)) (rec (t1.1, t1.2.1, (t1.2.2.1 ++ ([0] : List Int)), (w64 (t1.2.2.2.1 + 1)), ()))))) (K (t1.1, t1.2.1, t1.2.2.1, t1.2.2.2.1, ()))) (K (t1.1, t1.2.1, t1.2.2.1, t1.2.2.2.1, ())))
noncomputable def F36 (f15 : List Int × Unit → Option (Bool × Unit)) (f56 : Int × Int × Unit → Option (Int × Unit)) (a : List Int × List Int × Unit) : Option (List Int × Unit) :=
  iterF (s36_0 f15 f56) fuel (a.1, a.2.1, ([] : List Int), 0, ()) fun t16 => some (t16.2.2.1, ())
def E36 (f15 : List Int × Unit → Option (Bool × Unit)) (f56 : Int × Int × Unit → Option (Int × Unit)) : Env := envL [(15, mkE p15 r15 false f15), (56, mkE p56 r56 false f56)]
noncomputable def L36 (f15 : List Int × Unit → Option (Bool × Unit)) (f56 : Int × Int × Unit → Option (Int × Unit)) : LEnv (densS (muts p36 ++ r36)) := lenv [(0, loopL (R := densS (muts p36 ++ r36)) q36_0 (s36_0 f15 f56))]
theorem e36_0 (f15 : List Int × Unit → Option (Bool × Unit)) (f56 : Int × Int × Unit → Option (Int × Unit)) (X : Nat → St → Option (densS (muts p36 ++ r36))) (rec K : densS q36_0 → Option (densS (muts p36 ++ r36))) (t : densS q36_0) :
    ev (E36 f15 f56) tab (fun _ => false) (L36 f15 f56) (retK tab p36 r36 Proofs.Try.f36.results.toList) (loopC Proofs.Try.f36 0) (fun i s => cond (Nat.beq i 0) (decK 100 q36_0 s K) (X i s)) (fun s => decK 100 q36_0 s rec) (enc q36_0 t) = s36_0 f15 f56 t rec K := by kernel_rfl
theorem e36 (f15 : List Int × Unit → Option (Bool × Unit)) (f56 : Int × Int × Unit → Option (Int × Unit)) (a : densS p36) : runF (E36 f15 f56) tab (fun _ => false) p36 r36 Proofs.Try.f36 (L36 f15 f56) a = F36 f15 f56 a := by kernel_rfl
theorem ok36 {f15 : List Int × Unit → Option (Bool × Unit)} {f56 : Int × Int × Unit → Option (Int × Unit)} (h15 : OK Proofs.Try.prog 15 (mkE p15 r15 false f15)) (h56 : OK Proofs.Try.prog 56 (mkE p56 r56 false f56)) : OK Proofs.Try.prog 36 (mkE p36 r36 false (F36 f15 f56)) :=
  fn_ok tab_ok (envL_ok (l := [(15, mkE p15 r15 false f15), (56, mkE p56 r56 false f56)]) (OKs.cons h15 (OKs.cons h56 OKs.nil))) mixed (ann := (fun _ => false)) (L := L36 f15 f56) (fn := Proofs.Try.f36) (c := bodyC Proofs.Try.f36) (ls := [(0, loopC Proofs.Try.f36 0)]) Proofs.Try.func36 (by kernel_rfl) (by kernel_rfl) (by kernel_rfl) (by kernel_rfl)
    (LoopsP.cons q36_0 (s36_0 f15 f56) rfl (e36_0 f15 f56) LoopsP.nil) (e36 f15 f56)
/-! impl.HigherOf -/
def p37 : List SP := [.one (.r .int), .one (.r .int)]
def r37 : List SP := [.one (.o 0 .int)]
def q37_0 : List SP := pat 44 0 [(5, .one (.o 5000001 .int)), (26, .one (.r .int)), (27, .one (.int .i64)), (28, .one (.int .i64))]
noncomputable def s37_0 (f17 : List Int × Unit → Option (Bool × Unit)) (f59 : List Int × Unit → Option (List Int × Unit)) (t4 : List Int × List Int × Int × Int × Unit) (rec K : List Int × List Int × Int × Int × Unit → Option (List Int × Unit)) : Option (List Int × Unit) :=
  cond (decide (t4.2.2.2.1 < t4.2.2.1)) (rdL t4.2.1 t4.2.2.2.1 fun d5 => rdL t4.1 t4.2.2.2.1 fun _ => (t4.1[(Int.toNat t4.2.2.2.1)]?).bind fun d6 => rdL t4.1 t4.2.2.2.1 fun _ => (t4.1[(Int.toNat t4.2.2.2.1)]?).bind fun d7 => rec ((List.set t4.1 (Int.toNat t4.2.2.2.1) (mx d6 d5)), t4.2.1, t4.2.2.1, (w64 (t4.2.2.2.1 + 1)), ())) (K (t4.1, t4.2.1, t4.2.2.1, t4.2.2.2.1, ()))
noncomputable def F37 (f17 : List Int × Unit → Option (Bool × Unit)) (f59 : List Int × Unit → Option (List Int × Unit)) (a : List Int × List Int × Unit) : Option (List Int × Unit) :=
  (f17 (a.1, ())).bind fun x1 => cond (!(!x1.1)) ((f17 (a.2.1, ())).bind fun x2 => cond (!x2.1) (some (([] : List Int), ())) (cond (decide ((Int.ofNat (List.length a.1)) < (Int.ofNat (List.length a.2.1)))) ((f59 (a.2.1, ())).bind fun x3 => iterF (s37_0 f17 f59) fuel (x3.1, a.1, (Int.ofNat (List.length a.1)), 0, ()) fun t8 => some (t8.1, ())) ((f59 (a.1, ())).bind fun x9 => iterF (s37_0 f17 f59) fuel (x9.1, a.2.1, (Int.ofNat (List.length a.2.1)), 0, ()) fun t10 => some (t10.1, ())))) (some (([] : List Int), ()))
def E37 (f17 : List Int × Unit → Option (Bool × Unit)) (f59 : List Int × Unit → Option (List Int × Unit)) : Env := envL [(17, mkE p17 r17 false f17), (59, mkE p59 r59 false f59)]
noncomputable def L37 (f17 : List Int × Unit → Option (Bool × Unit)) (f59 : List Int × Unit → Option (List Int × Unit)) : LEnv (densS (muts p37 ++ r37)) := lenv [(0, loopL (R := densS (muts p37 ++ r37)) q37_0 (s37_0 f17 f59))]
theorem e37_0 (f17 : List Int × Unit → Option (Bool × Unit)) (f59 : List Int × Unit → Option (List Int × Unit)) (X : Nat → St → Option (densS (muts p37 ++ r37))) (rec K : densS q37_0 → Option (densS (muts p37 ++ r37))) (t : densS q37_0) :
    ev (E37 f17 f59) tab (fun _ => false) (L37 f17 f59) (retK tab p37 r37 Proofs.Try.f37.results.toList) (loopC Proofs.Try.f37 0) (fun i s => cond (Nat.beq i 0) (decK 100 q37_0 s K) (X i s)) (fun s => decK 100 q37_0 s rec) (enc q37_0 t) = s37_0 f17 f59 t rec K := by kernel_rfl
theorem e37 (f17 : List Int × Unit → Option (Bool × Unit)) (f59 : List Int × Unit → Option (List Int × Unit)) (a : densS p37) : runF (E37 f17 f59) tab (fun _ => false) p37 r37 Proofs.Try.f37 (L37 f17 f59) a = F37 f17 f59 a := by kernel_rfl
theorem ok37 {f17 : List Int × Unit → Option (Bool × Unit)} {f59 : List Int × Unit → Option (List Int × Unit)} (h17 : OK Proofs.Try.prog 17 (mkE p17 r17 false f17)) (h59 : OK Proofs.Try.prog 59 (mkE p59 r59 false f59)) : OK Proofs.Try.prog 37 (mkE p37 r37 false (F37 f17 f59)) :=
  fn_ok tab_ok (envL_ok (l := [(17, mkE p17 r17 false f17), (59, mkE p59 r59 false f59)]) (OKs.cons h17 (OKs.cons h59 OKs.nil))) mixed (ann := (fun _ => false)) (L := L37 f17 f59) (fn := Proofs.Try.f37) (c := bodyC Proofs.Try.f37) (ls := [(0, loopC Proofs.Try.f37 0)]) Proofs.Try.func37 (by kernel_rfl) (by kernel_rfl) (by kernel_rfl) (by kernel_rfl)
    (LoopsP.cons q37_0 (s37_0 f17 f59) rfl (e37_0 f17 f59) LoopsP.nil) (e37 f17 f59)
/-! laws.FnExactHigherOf -/
def p10 : List SP := [.one (.r .int), .one (.r .int)]
def r10 : List SP := [.one (.bool)]
noncomputable def F10 (f16 : List Int × Unit → Option (List Int × Unit)) (f36 : List Int × List Int × Unit → Option (List Int × Unit)) (f37 : List Int × List Int × Unit → Option (List Int × Unit)) (f18 : List Int × List Int × Unit → Option (Bool × Unit)) (f25 : List Int × Int × Unit → Option (List Int × Int × Unit)) (f26 : List Int × Int × Unit → Option (Int × Unit)) (a : List Int × List Int × Unit) : Option (Bool × Unit) :=
  cond (decide ((Int.ofNat (List.length a.1)) > 1048576)) (some (true, ())) (cond (decide ((Int.ofNat (List.length a.2.1)) > 1048576)) (some (true, ())) ((f16 (a.1, ())).bind fun x1 => (f16 (a.2.1, ())).bind fun x2 => (f36 (x1.1, x2.1, ())).bind fun x3 => (f16 (a.1, ())).bind fun x4 => (f16 (a.2.1, ())).bind fun x5 => (f37 (x4.1, x5.1, ())).bind fun x6 => (f18 (x6.1, x3.1, ())).bind fun x7 => cond (!x7.1) (some (false, ())) ((f16 (a.1, ())).bind fun x8 => (f18 (x4.1, x8.1, ())).bind fun x9 => cond (!x9.1) (some (false, ())) ((f16 (a.2.1, ())).bind fun x10 => (f18 (x5.1, x10.1, ())).bind fun x11 => cond (!x11.1) (some (false, ())) ((f25 (x4.1, 1, ())).bind fun x12 => (f25 (x5.1, x12.2.1, ())).bind fun x13 => cond (!(decide (x13.2.1 < 0))) ((f18 (x6.1, x3.1, ())).bind fun x14 => cond (!x14.1) (some (false, ())) ((f25 (x6.1, 1, ())).bind fun x15 => (f26 (x15.1, 1, ())).bind fun x16 => cond (decide (x16.1 < 0)) (some (false, ())) (cond (!(decide (x16.1 = x15.2.1))) (some (false, ())) ((f16 (a.1, ())).bind fun x17 => (f16 (a.2.1, ())).bind fun x18 => (f37 (x17.1, x18.1, ())).bind fun x19 => (f18 (x19.1, x3.1, ())).bind fun x20 => cond (!x20.1) (some (false, ())) ((f26 (x15.1, 1, ())).bind fun x21 => cond (decide (x21.1 < 0)) (some (false, ())) (cond (!(decide (x21.1 = x15.2.1))) (some (false, ())) (some (true, ())))))))) (some (false, ())))))))
def E10 (f16 : List Int × Unit → Option (List Int × Unit)) (f36 : List Int × List Int × Unit → Option (List Int × Unit)) (f37 : List Int × List Int × Unit → Option (List Int × Unit)) (f18 : List Int × List Int × Unit → Option (Bool × Unit)) (f25 : List Int × Int × Unit → Option (List Int × Int × Unit)) (f26 : List Int × Int × Unit → Option (Int × Unit)) : Env := envL [(16, mkE p16 r16 false f16), (36, mkE p36 r36 false f36), (37, mkE p37 r37 false f37), (18, mkE p18 r18 false f18), (25, mkE p25 r25 false f25), (26, mkE p26 r26 false f26)]
noncomputable def L10 (f16 : List Int × Unit → Option (List Int × Unit)) (f36 : List Int × List Int × Unit → Option (List Int × Unit)) (f37 : List Int × List Int × Unit → Option (List Int × Unit)) (f18 : List Int × List Int × Unit → Option (Bool × Unit)) (f25 : List Int × Int × Unit → Option (List Int × Int × Unit)) (f26 : List Int × Int × Unit → Option (Int × Unit)) : LEnv (densS (muts p10 ++ r10)) := lenv []
theorem e10 (f16 : List Int × Unit → Option (List Int × Unit)) (f36 : List Int × List Int × Unit → Option (List Int × Unit)) (f37 : List Int × List Int × Unit → Option (List Int × Unit)) (f18 : List Int × List Int × Unit → Option (Bool × Unit)) (f25 : List Int × Int × Unit → Option (List Int × Int × Unit)) (f26 : List Int × Int × Unit → Option (Int × Unit)) (a : densS p10) : runF (E10 f16 f36 f37 f18 f25 f26) tab (fun _ => false) p10 r10 Proofs.Try.f10 (L10 f16 f36 f37 f18 f25 f26) a = F10 f16 f36 f37 f18 f25 f26 a := by kernel_rfl
theorem ok10 {f16 : List Int × Unit → Option (List Int × Unit)} {f36 : List Int × List Int × Unit → Option (List Int × Unit)} {f37 : List Int × List Int × Unit → Option (List Int × Unit)} {f18 : List Int × List Int × Unit → Option (Bool × Unit)} {f25 : List Int × Int × Unit → Option (List Int × Int × Unit)} {f26 : List Int × Int × Unit → Option (Int × Unit)} (h16 : OK Proofs.Try.prog 16 (mkE p16 r16 false f16)) (h36 : OK Proofs.Try.prog 36 (mkE p36 r36 false f36)) (h37 : OK Proofs.Try.prog 37 (mkE p37 r37 false f37)) (h18 : OK Proofs.Try.prog 18 (mkE p18 r18 false f18)) (h25 : OK Proofs.Try.prog 25 (mkE p25 r25 false f25)) (h26 : OK Proofs.Try.prog 26 (mkE p26 r26 false f26)) : OK Proofs.Try.prog 10 (mkE p10 r10 false (F10 f16 f36 f37 f18 f25 f26)) :=
  fn_ok tab_ok (envL_ok (l := [(16, mkE p16 r16 false f16), (36, mkE p36 r36 false f36), (37, mkE p37 r37 false f37), (18, mkE p18 r18 false f18), (25, mkE p25 r25 false f25), (26, mkE p26 r26 false f26)]) (OKs.cons h16 (OKs.cons h36 (OKs.cons h37 (OKs.cons h18 (OKs.cons h25 (OKs.cons h26 OKs.nil))))))) mixed (ann := (fun _ => false)) (L := L10 f16 f36 f37 f18 f25 f26) (fn := Proofs.Try.f10) (c := bodyC Proofs.Try.f10) (ls := []) Proofs.Try.func10 (by kernel_rfl) (by kernel_rfl) (by kernel_rfl) (by kernel_rfl)
    LoopsP.nil (e10 f16 f36 f37 f18 f25 f26)
/-! spec.RunsOf -/
def p38 : List SP := [.one (.r .int)]
def r38 : List SP := [.one (.o 0 .run)]
def q38_0 : List SP := pat 50 0 [(0, .one (.r .int)), (3, .one (.o 5000001 .run)), (7, .one (.r .int)), (8, .one (.int .i64)), (9, .one (.int .i64))]
noncomputable def s38_0 (f15 : List Int × Unit → Option (Bool × Unit)) (t1 : List Int × List Run × List Int × Int × Int × Unit) (rec K : List Int × List Run × List Int × Int × Int × Unit → Option (List Run × Unit)) : Option (List Run × Unit) :=
  cond (decide (t1.2.2.2.2.1 < t1.2.2.2.1)) (rdL t1.2.2.1 t1.2.2.2.2.1 fun d2 => (f15 (t1.1, ())).bind fun x3 => cond (!x3.1) (some (t1.2.1, ())) (cond (!(decide (t1.2.2.2.2.1 = 0))) (rdL t1.1 (w64 (t1.2.2.2.2.1 - 1)) fun d4 => cond (!(decide (d4 = d2))) (capK (List.length t1.2.1 + List.length ([(⟨d2, 0⟩ : Run)] : List Run)) (rdL (t1.2.1 ++ ([(⟨d2, 0⟩ : Run)] : List Run)) (w64 ((Int.ofNat (List.length (t1.2.1 ++ ([(⟨d2, 0⟩ : Run)] : List Run)))) - 1)) fun _ => ((t1.2.1 ++ ([(⟨d2, 0⟩ : Run)] : List Run))[(Int.toNat (w64 ((Int.ofNat (List.length (t1.2.1 ++ ([(⟨d2, 0⟩ : Run)] : List Run)))) - 1)))]?).bind fun d5 => rdL (t1.2.1 ++ ([(⟨d2, 0⟩ : Run)] : List Run)) (w64 ((Int.ofNat (List.length (t1.2.1 ++ ([(⟨d2, 0⟩ : Run)] : List Run)))) - 1)) fun _ => ((t1.2.1 ++ ([(⟨d2, 0⟩ : Run)] : List Run))[(Int.toNat (w64 ((Int.ofNat (List.length (t1.2.1 ++ ([(⟨d2, 0⟩ : Run)] : List Run)))) - 1)))]?).bind fun d6 => rec (t1.1, (List.set (t1.2.1 ++ ([(⟨d2, 0⟩ : Run)] : List Run)) (Int.toNat (w64 ((Int.ofNat (List.length (t1.2.1 ++ ([(⟨d2, 0⟩ : Run)] : List Run)))) - 1))) (⟨d6.Level, (w64 (d5.Count + 1))⟩ : Run)), t1.2.2.1, t1.2.2.2.1, (w64 (t1.2.2.2.2.1 + 1)), ()))) (rdL t1.2.1 (w64 ((Int.ofNat (List.length t1.2.1)) - 1)) fun _ => (t1.2.1[(Int.toNat (w64 ((Int.ofNat (List.length t1.2.1)) - 1)))]?).bind fun d7 => rdL t1.2.1 (w64 ((Int.ofNat (List.length t1.2.1)) - 1)) fun _ => (t1.2.1[(Int.toNat (w64 ((Int.ofNat (List.length t1.2.1)) - 1)))]?).bind fun d8 => rec (t1.1, (List.set t1.2.1 (Int.toNat (w64 ((Int.ofNat (List.length t1.2.1)) - 1))) (⟨d8.Level, (w64 (d7.Count + 1))⟩ : Run)), t1.2.2.1, t1.2.2.2.1, (w64 (t1.2.2.2.2.1 + 1)), ()))) (capK (List.length t1.2.1 + List.length ([(⟨d2, 0⟩ : Run)] : List Run)) (rdL (t1.2.1 ++ ([(⟨d2, 0⟩ : Run)] : List Run)) (w64 ((Int.ofNat (List.length (t1.2.1 ++ ([(⟨d2, 0⟩ : Run)] : List Run)))) - 1)) fun _ => ((t1.2.1 ++ ([(⟨d2, 0⟩ : Run)] : List Run))[(Int.toNat (w64 ((Int.ofNat (List.length (t1.2.1 ++ ([(⟨d2, 0⟩ : Run)] : List Run)))) - 1)))]?).bind fun d9 => rdL (t1.2.1 ++ ([(⟨d2, 0⟩ : Run)] : List Run)) (w64 ((Int.ofNat (List.length (t1.2.1 ++ ([(⟨d2, 0⟩ : Run)] : List Run)))) - 1)) fun _ => ((t1.2.1 ++ ([(⟨d2, 0⟩ : Run)] : List Run))[(Int.toNat (w64 ((Int.ofNat (List.length (t1.2.1 ++ ([(⟨d2, 0⟩ : Run)] : List Run)))) - 1)))]?).bind fun d10 => rec (t1.1, (List.set (t1.2.1 ++ ([(⟨d2, 0⟩ : Run)] : List Run)) (Int.toNat (w64 ((Int.ofNat (List.length (t1.2.1 ++ ([(⟨d2, 0⟩ : Run)] : List Run)))) - 1))) (⟨d10.Level, (w64 (d9.Count + 1))⟩ : Run)), t1.2.2.1, t1.2.2.2.1, (w64 (t1.2.2.2.2.1 + 1)), ()))))) (K (t1.1, t1.2.1, t1.2.2.1, t1.2.2.2.1, t1.2.2.2.2.1, ()))
noncomputable def F38 (f15 : List Int × Unit → Option (Bool × Unit)) (a : List Int × Unit) : Option (List Run × Unit) :=
  iterF (s38_0 f15) fuel (a.1, ([] : List Run), a.1, (Int.ofNat (List.length a.1)), 0, ()) fun t11 => some (t11.2.1, ())
def E38 (f15 : List Int × Unit → Option (Bool × Unit)) : Env := envL [(15, mkE p15 r15 false f15)]
noncomputable def L38 (f15 : List Int × Unit → Option (Bool × Unit)) : LEnv (densS (muts p38 ++ r38)) := lenv [(0, loopL (R := densS (muts p38 ++ r38)) q38_0 (s38_0 f15))]
theorem e38_0 (f15 : List Int × Unit → Option (Bool × Unit)) (X : Nat → St → Option (densS (muts p38 ++ r38))) (rec K : densS q38_0 → Option (densS (muts p38 ++ r38))) (t : densS q38_0) :
    ev (E38 f15) tab (fun _ => false) (L38 f15) (retK tab p38 r38 Proofs.Try.f38.results.toList) (loopC Proofs.Try.f38 0) (fun i s => cond (Nat.beq i 0) (decK 100 q38_0 s K) (X i s)) (fun s => decK 100 q38_0 s rec) (enc q38_0 t) = s38_0 f15 t rec K := by kernel_rfl
theorem e38 (f15 : List Int × Unit → Option (Bool × Unit)) (a : densS p38) : runF (E38 f15) tab (fun _ => false) p38 r38 Proofs.Try.f38 (L38 f15) a = F38 f15 a := by kernel_rfl
theorem ok38 {f15 : List Int × Unit → Option (Bool × Unit)} (h15 : OK Proofs.Try.prog 15 (mkE p15 r15 false f15)) : OK Proofs.Try.prog 38 (mkE p38 r38 false (F38 f15)) :=
  fn_ok tab_ok (envL_ok (l := [(15, mkE p15 r15 false f15)]) (OKs.cons h15 OKs.nil)) mixed (ann := (fun _ => false)) (L := L38 f15) (fn := Proofs.Try.f38) (c := bodyC Proofs.Try.f38) (ls := [(0, loopC Proofs.Try.f38 0)]) Proofs.Try.func38 (by kernel_rfl) (by kernel_rfl) (by kernel_rfl) (by kernel_rfl)
    (LoopsP.cons q38_0 (s38_0 f15) rfl (e38_0 f15) LoopsP.nil) (e38 f15)
/-! impl.RunsOf -/
def p39 : List SP := [.one (.r .int)]
def r39 : List SP := [.one (.o 0 .run)]
def q39_0 : List SP := pat 47 0 [(3, .one (.o 5000001 .run)), (12, .one (.r .int)), (13, .one (.int .i64)), (14, .one (.int .i64))]
noncomputable def s39_0 (f17 : List Int × Unit → Option (Bool × Unit)) (t2 : List Run × List Int × Int × Int × Unit) (rec K : List Run × List Int × Int × Int × Unit → Option (List Run × Unit)) : Option (List Run × Unit) :=
  cond (decide (t2.2.2.2.1 < t2.2.2.1)) (rdL t2.2.1 t2.2.2.2.1 fun d3 => cond (decide ((w64 ((Int.ofNat (List.length t2.1)) - 1)) ≥ 0)) (rdL t2.1 (w64 ((Int.ofNat (List.length t2.1)) - 1)) fun _ => (t2.1[(Int.toNat (w64 ((Int.ofNat (List.length t2.1)) - 1)))]?).bind fun d4 => cond (decide (d4.Level = d3)) (rdL t2.1 (w64 ((Int.ofNat (List.length t2.1)) - 1)) fun _ => (t2.1[(Int.toNat (w64 ((Int.ofNat (List.length t2.1)) - 1)))]?).bind fun d5 => rdL t2.1 (w64 ((Int.ofNat (List.length t2.1)) - 1)) fun _ => (t2.1[(Int.toNat (w64 ((Int.ofNat (List.length t2.1)) - 1)))]?).bind fun d6 => rec ((List.set t2.1 (Int.toNat (w64 ((Int.ofNat (List.length t2.1)) - 1))) (⟨d6.Level, (w64 (d5.Count + 1))⟩ : Run)), t2.2.1, t2.2.2.1, (w64 (t2.2.2.2.1 + 1)), ())) (capK (List.length t2.1 + List.length ([(⟨d3, 1⟩ : Run)] : List Run)) (rec ((t2.1 ++ ([(⟨d3, 1⟩ : Run)] : List Run)), t2.2.1, t2.2.2.1, (w64 (t2.2.2.2.1 + 1)), ())))) (capK (List.length t2.1 + List.length ([(⟨d3, 1⟩ : Run)] : List Run)) (rec ((t2.1 ++ ([(⟨d3, 1⟩ : Run)] : List Run)), t2.2.1, t2.2.2.1, (w64 (t2.2.2.2.1 + 1)), ())))) (K (t2.1, t2.2.1, t2.2.2.1, t2.2.2.2.1, ()))
noncomputable def F39 (f17 : List Int × Unit → Option (Bool × Unit)) (a : List Int × Unit) : Option (List Run × Unit) :=
  (f17 (a.1, ())).bind fun x1 => cond (!x1.1) (some (([] : List Run), ())) (iterF (s39_0 f17) fuel (([] : List Run), a.1, (Int.ofNat (List.length a.1)), 0, ()) fun t7 => some (t7.1, ()))
def E39 (f17 : List Int × Unit → Option (Bool × Unit)) : Env := envL [(17, mkE p17 r17 false f17)]
noncomputable def L39 (f17 : List Int × Unit → Option (Bool × Unit)) : LEnv (densS (muts p39 ++ r39)) := lenv [(0, loopL (R := densS (muts p39 ++ r39)) q39_0 (s39_0 f17))]
theorem e39_0 (f17 : List Int × Unit → Option (Bool × Unit)) (X : Nat → St → Option (densS (muts p39 ++ r39))) (rec K : densS q39_0 → Option (densS (muts p39 ++ r39))) (t : densS q39_0) :
    ev (E39 f17) tab (fun _ => false) (L39 f17) (retK tab p39 r39 Proofs.Try.f39.results.toList) (loopC Proofs.Try.f39 0) (fun i s => cond (Nat.beq i 0) (decK 100 q39_0 s K) (X i s)) (fun s => decK 100 q39_0 s rec) (enc q39_0 t) = s39_0 f17 t rec K := by kernel_rfl
theorem e39 (f17 : List Int × Unit → Option (Bool × Unit)) (a : densS p39) : runF (E39 f17) tab (fun _ => false) p39 r39 Proofs.Try.f39 (L39 f17) a = F39 f17 a := by kernel_rfl
theorem ok39 {f17 : List Int × Unit → Option (Bool × Unit)} (h17 : OK Proofs.Try.prog 17 (mkE p17 r17 false f17)) : OK Proofs.Try.prog 39 (mkE p39 r39 false (F39 f17)) :=
  fn_ok tab_ok (envL_ok (l := [(17, mkE p17 r17 false f17)]) (OKs.cons h17 OKs.nil)) mixed (ann := (fun _ => false)) (L := L39 f17) (fn := Proofs.Try.f39) (c := bodyC Proofs.Try.f39) (ls := [(0, loopC Proofs.Try.f39 0)]) Proofs.Try.func39 (by kernel_rfl) (by kernel_rfl) (by kernel_rfl) (by kernel_rfl)
    (LoopsP.cons q39_0 (s39_0 f17) rfl (e39_0 f17) LoopsP.nil) (e39 f17)
/-! laws.eqRun -/
def p64 : List SP := [.t .run, .t .run]
def r64 : List SP := [.one (.bool)]
noncomputable def F64 (a : Run × Run × Unit) : Option (Bool × Unit) :=
  cond (!(decide (a.1.Level = a.2.1.Level))) (some (false, ())) (cond (!(decide (a.1.Count = a.2.1.Count))) (some (false, ())) (some (true, ())))
def E64 : Env := envL []
noncomputable def L64 : LEnv (densS (muts p64 ++ r64)) := lenv []
theorem e64 (a : densS p64) : runF (E64) tab (fun _ => false) p64 r64 Proofs.Try.f64 (L64) a = F64 a := by kernel_rfl
theorem ok64 : OK Proofs.Try.prog 64 (mkE p64 r64 false (F64)) :=
  fn_ok tab_ok (envL_ok (l := []) OKs.nil) mixed (ann := (fun _ => false)) (L := L64) (fn := Proofs.Try.f64) (c := bodyC Proofs.Try.f64) (ls := []) Proofs.Try.func64 (by kernel_rfl) (by kernel_rfl) (by kernel_rfl) (by kernel_rfl)
    LoopsP.nil (e64)
/-! laws.eqRunS -/
def p40 : List SP := [.one (.r .run), .one (.r .run)]
def r40 : List SP := [.one (.bool)]
def q40_0 : List SP := pat 27 0 [(0, .one (.r .run)), (1, .one (.r .run)), (5, .one (.int .i64))]
noncomputable def s40_0 (f64 : Run × Run × Unit → Option (Bool × Unit)) (t1 : List Run × List Run × Int × Unit) (rec K : List Run × List Run × Int × Unit → Option (Bool × Unit)) : Option (Bool × Unit) :=
  cond (decide (t1.2.2.1 < (Int.ofNat (List.length t1.1)))) (rdL t1.1 t1.2.2.1 fun d2 => rdL t1.2.1 t1.2.2.1 fun d3 => (f64 (d2, d3, ())).bind fun x4 => cond (!x4.1) (some (false, ())) (rec (t1.1, t1.2.1, (w64 (t1.2.2.1 + 1)), ()))) (K (t1.1, t1.2.1, t1.2.2.1, ()))
noncomputable def F40 (f64 : Run × Run × Unit → Option (Bool × Unit)) (a : List Run × List Run × Unit) : Option (Bool × Unit) :=
  cond (!(decide ((Int.ofNat (List.length a.1)) = (Int.ofNat (List.length a.2.1))))) (some (false, ())) (iterF (s40_0 f64) fuel (a.1, a.2.1, 0, ()) fun t5 => some (true, ()))
def E40 (f64 : Run × Run × Unit → Option (Bool × Unit)) : Env := envL [(64, mkE p64 r64 false f64)]
noncomputable def L40 (f64 : Run × Run × Unit → Option (Bool × Unit)) : LEnv (densS (muts p40 ++ r40)) := lenv [(0, loopL (R := densS (muts p40 ++ r40)) q40_0 (s40_0 f64))]
theorem e40_0 (f64 : Run × Run × Unit → Option (Bool × Unit)) (X : Nat → St → Option (densS (muts p40 ++ r40))) (rec K : densS q40_0 → Option (densS (muts p40 ++ r40))) (t : densS q40_0) :
    ev (E40 f64) tab (fun _ => false) (L40 f64) (retK tab p40 r40 Proofs.Try.f40.results.toList) (loopC Proofs.Try.f40 0) (fun i s => cond (Nat.beq i 0) (decK 100 q40_0 s K) (X i s)) (fun s => decK 100 q40_0 s rec) (enc q40_0 t) = s40_0 f64 t rec K := by kernel_rfl
theorem e40 (f64 : Run × Run × Unit → Option (Bool × Unit)) (a : densS p40) : runF (E40 f64) tab (fun _ => false) p40 r40 Proofs.Try.f40 (L40 f64) a = F40 f64 a := by kernel_rfl
theorem ok40 {f64 : Run × Run × Unit → Option (Bool × Unit)} (h64 : OK Proofs.Try.prog 64 (mkE p64 r64 false f64)) : OK Proofs.Try.prog 40 (mkE p40 r40 false (F40 f64)) :=
  fn_ok tab_ok (envL_ok (l := [(64, mkE p64 r64 false f64)]) (OKs.cons h64 OKs.nil)) mixed (ann := (fun _ => false)) (L := L40 f64) (fn := Proofs.Try.f40) (c := bodyC Proofs.Try.f40) (ls := [(0, loopC Proofs.Try.f40 0)]) Proofs.Try.func40 (by kernel_rfl) (by kernel_rfl) (by kernel_rfl) (by kernel_rfl)
    (LoopsP.cons q40_0 (s40_0 f64) rfl (e40_0 f64) LoopsP.nil) (e40 f64)
/-! laws.markRunS -/
def p41 : List SP := [.one (.o 0 .run), .one (.int .i64)]
def r41 : List SP := [.one (.int .i64)]
def q41_0 : List SP := pat 27 0 [(0, .one (.o 0 .run)), (1, .one (.int .i64)), (5, .one (.int .i64))]
noncomputable def s41_0 (t1 : List Run × Int × Int × Unit) (rec K : List Run × Int × Int × Unit → Option (List Run × Int × Unit)) : Option (List Run × Int × Unit) :=
  cond (decide (t1.2.2.1 < (Int.ofNat (List.length t1.1)))) (rdL t1.1 t1.2.2.1 fun _ => (t1.1[(Int.toNat t1.2.2.1)]?).bind fun d2 => rdL (List.set t1.1 (Int.toNat t1.2.2.1) (⟨t1.2.1, d2.Count⟩ : Run)) t1.2.2.1 fun _ => ((List.set t1.1 (Int.toNat t1.2.2.1) (⟨t1.2.1, d2.Count⟩ : Run))[(Int.toNat t1.2.2.1)]?).bind fun d3 => rec ((List.set (List.set t1.1 (Int.toNat t1.2.2.1) (⟨t1.2.1, d2.Count⟩ : Run)) (Int.toNat t1.2.2.1) (⟨d3.Level, (w64 (t1.2.1 + 1))⟩ : Run)), (w64 ((w64 (t1.2.1 + 1)) + 1)), (w64 (t1.2.2.1 + 1)), ())) (K (t1.1, t1.2.1, t1.2.2.1, ()))
noncomputable def F41 (a : List Run × Int × Unit) : Option (List Run × Int × Unit) :=
  iterF (s41_0) fuel (a.1, a.2.1, 0, ()) fun t4 => some (t4.1, t4.2.1, ())
def E41 : Env := envL []
noncomputable def L41 : LEnv (densS (muts p41 ++ r41)) := lenv [(0, loopL (R := densS (muts p41 ++ r41)) q41_0 (s41_0))]
theorem e41_0 (X : Nat → St → Option (densS (muts p41 ++ r41))) (rec K : densS q41_0 → Option (densS (muts p41 ++ r41))) (t : densS q41_0) :
    ev (E41) tab (fun _ => false) (L41) (retK tab p41 r41 Proofs.Try.f41.results.toList) (loopC Proofs.Try.f41 0) (fun i s => cond (Nat.beq i 0) (decK 100 q41_0 s K) (X i s)) (fun s => decK 100 q41_0 s rec) (enc q41_0 t) = s41_0 t rec K := by kernel_rfl
theorem e41 (a : densS p41) : runF (E41) tab (fun _ => false) p41 r41 Proofs.Try.f41 (L41) a = F41 a := by kernel_rfl
theorem ok41 : OK Proofs.Try.prog 41 (mkE p41 r41 false (F41)) :=
  fn_ok tab_ok (envL_ok (l := []) OKs.nil) mixed (ann := (fun _ => false)) (L := L41) (fn := Proofs.Try.f41) (c := bodyC Proofs.Try.f41) (ls := [(0, loopC Proofs.Try.f41 0)]) Proofs.Try.func41 (by kernel_rfl) (by kernel_rfl) (by kernel_rfl) (by kernel_rfl)
    (LoopsP.cons q41_0 (s41_0) rfl (e41_0) LoopsP.nil) (e41)
/-! laws.heldRunS -/
def p42 : List SP := [.one (.r .run), .one (.int .i64)]
def r42 : List SP := [.one (.int .i64)]
def q42_0 : List SP := pat 31 0 [(0, .one (.r .run)), (1, .one (.int .i64)), (5, .one (.int .i64))]
noncomputable def s42_0 (t1 : List Run × Int × Int × Unit) (rec K : List Run × Int × Int × Unit → Option (Int × Unit)) : Option (Int × Unit) :=
  cond (decide (t1.2.2.1 < (Int.ofNat (List.length t1.1)))) (rdL t1.1 t1.2.2.1 fun d2 => cond (!(decide (d2.Level = t1.2.1))) (some ((-1), ())) (rdL t1.1 t1.2.2.1 fun d3 => cond (!(decide (d3.Count = (w64 (t1.2.1 + 1))))) (some ((-1), ())) (rec (t1.1, (w64 ((w64 (t1.2.1 + 1)) + 1)), (w64 (t1.2.2.1 + 1)), ())))) (K (t1.1, t1.2.1, t1.2.2.1, ()))
noncomputable def F42 (a : List Run × Int × Unit) : Option (Int × Unit) :=
  iterF (s42_0) fuel (a.1, a.2.1, 0, ()) fun t4 => some (t4.2.1, ())
def E42 : Env := envL []
noncomputable def L42 : LEnv (densS (muts p42 ++ r42)) := lenv [(0, loopL (R := densS (muts p42 ++ r42)) q42_0 (s42_0))]
theorem e42_0 (X : Nat → St → Option (densS (muts p42 ++ r42))) (rec K : densS q42_0 → Option (densS (muts p42 ++ r42))) (t : densS q42_0) :
    ev (E42) tab (fun _ => false) (L42) (retK tab p42 r42 Proofs.Try.f42.results.toList) (loopC Proofs.Try.f42 0) (fun i s => cond (Nat.beq i 0) (decK 100 q42_0 s K) (X i s)) (fun s => decK 100 q42_0 s rec) (enc q42_0 t) = s42_0 t rec K := by kernel_rfl
theorem e42 (a : densS p42) : runF (E42) tab (fun _ => false) p42 r42 Proofs.Try.f42 (L42) a = F42 a := by kernel_rfl
theorem ok42 : OK Proofs.Try.prog 42 (mkE p42 r42 false (F42)) :=
  fn_ok tab_ok (envL_ok (l := []) OKs.nil) mixed (ann := (fun _ => false)) (L := L42) (fn := Proofs.Try.f42) (c := bodyC Proofs.Try.f42) (ls := [(0, loopC Proofs.Try.f42 0)]) Proofs.Try.func42 (by kernel_rfl) (by kernel_rfl) (by kernel_rfl) (by kernel_rfl)
    (LoopsP.cons q42_0 (s42_0) rfl (e42_0) LoopsP.nil) (e42)
/-! laws.FnExactRunsOf -/
def p11 : List SP := [.one (.r .int)]
def r11 : List SP := [.one (.bool)]
noncomputable def F11 (f16 : List Int × Unit → Option (List Int × Unit)) (f38 : List Int × Unit → Option (List Run × Unit)) (f39 : List Int × Unit → Option (List Run × Unit)) (f40 : List Run × List Run × Unit → Option (Bool × Unit)) (f18 : List Int × List Int × Unit → Option (Bool × Unit)) (f25 : List Int × Int × Unit → Option (List Int × Int × Unit)) (f41 : List Run × Int × Unit → Option (List Run × Int × Unit)) (f42 : List Run × Int × Unit → Option (Int × Unit)) (a : List Int × Unit) : Option (Bool × Unit) :=
  cond (decide ((Int.ofNat (List.length a.1)) > 1048576)) (some (true, ())) ((f16 (a.1, ())).bind fun x1 => (f38 (x1.1, ())).bind fun x2 => (f16 (a.1, ())).bind fun x3 => (f39 (x3.1, ())).bind fun x4 => (f40 (x4.1, x2.1, ())).bind fun x5 => cond (!x5.1) (some (false, ())) ((f16 (a.1, ())).bind fun x6 => (f18 (x3.1, x6.1, ())).bind fun x7 => cond (!x7.1) (some (false, ())) ((f25 (x3.1, 1, ())).bind fun x8 => cond (!(decide (x8.2.1 < 0))) ((f40 (x4.1, x2.1, ())).bind fun x9 => cond (!x9.1) (some (false, ())) ((f41 (x4.1, 1, ())).bind fun x10 => (f42 (x10.1, 1, ())).bind fun x11 => cond (decide (x11.1 < 0)) (some (false, ())) (cond (!(decide (x11.1 = x10.2.1))) (some (false, ())) ((f16 (a.1, ())).bind fun x12 => (f39 (x12.1, ())).bind fun x13 => (f40 (x13.1, x2.1, ())).bind fun x14 => cond (!x14.1) (some (false, ())) ((f42 (x10.1, 1, ())).bind fun x15 => cond (decide (x15.1 < 0)) (some (false, ())) (cond (!(decide (x15.1 = x10.2.1))) (some (false, ())) (some (true, ())))))))) (some (false, ())))))
def E11 (f16 : List Int × Unit → Option (List Int × Unit)) (f38 : List Int × Unit → Option (List Run × Unit)) (f39 : List Int × Unit → Option (List Run × Unit)) (f40 : List Run × List Run × Unit → Option (Bool × Unit)) (f18 : List Int × List Int × Unit → Option (Bool × Unit)) (f25 : List Int × Int × Unit → Option (List Int × Int × Unit)) (f41 : List Run × Int × Unit → Option (List Run × Int × Unit)) (f42 : List Run × Int × Unit → Option (Int × Unit)) : Env := envL [(16, mkE p16 r16 false f16), (38, mkE p38 r38 false f38), (39, mkE p39 r39 false f39), (40, mkE p40 r40 false f40), (18, mkE p18 r18 false f18), (25, mkE p25 r25 false f25), (41, mkE p41 r41 false f41), (42, mkE p42 r42 false f42)]
noncomputable def L11 (f16 : List Int × Unit → Option (List Int × Unit)) (f38 : List Int × Unit → Option (List Run × Unit)) (f39 : List Int × Unit → Option (List Run × Unit)) (f40 : List Run × List Run × Unit → Option (Bool × Unit)) (f18 : List Int × List Int × Unit → Option (Bool × Unit)) (f25 : List Int × Int × Unit → Option (List Int × Int × Unit)) (f41 : List Run × Int × Unit → Option (List Run × Int × Unit)) (f42 : List Run × Int × Unit → Option (Int × Unit)) : LEnv (densS (muts p11 ++ r11)) := lenv []
theorem e11 (f16 : List Int × Unit → Option (List Int × Unit)) (f38 : List Int × Unit → Option (List Run × Unit)) (f39 : List Int × Unit → Option (List Run × Unit)) (f40 : List Run × List Run × Unit → Option (Bool × Unit)) (f18 : List Int × List Int × Unit → Option (Bool × Unit)) (f25 : List Int × Int × Unit → Option (List Int × Int × Unit)) (f41 : List Run × Int × Unit → Option (List Run × Int × Unit)) (f42 : List Run × Int × Unit → Option (Int × Unit)) (a : densS p11) : runF (E11 f16 f38 f39 f40 f18 f25 f41 f42) tab (fun _ => false) p11 r11 Proofs.Try.f11 (L11 f16 f38 f39 f40 f18 f25 f41 f42) a = F11 f16 f38 f39 f40 f18 f25 f41 f42 a := by kernel_rfl
theorem ok11 {f16 : List Int × Unit → Option (List Int × Unit)} {f38 : List Int × Unit → Option (List Run × Unit)} {f39 : List Int × Unit → Option (List Run × Unit)} {f40 : List Run × List Run × Unit → Option (Bool × Unit)} {f18 : List Int × List Int × Unit → Option (Bool × Unit)} {f25 : List Int × Int × Unit → Option (List Int × Int × Unit)} {f41 : List Run × Int × Unit → Option (List Run × Int × Unit)} {f42 : List Run × Int × Unit → Option (Int × Unit)} (h16 : OK Proofs.Try.prog 16 (mkE p16 r16 false f16)) (h38 : OK Proofs.Try.prog 38 (mkE p38 r38 false f38)) (h39 : OK Proofs.Try.prog 39 (mkE p39 r39 false f39)) (h40 : OK Proofs.Try.prog 40 (mkE p40 r40 false f40)) (h18 : OK Proofs.Try.prog 18 (mkE p18 r18 false f18)) (h25 : OK Proofs.Try.prog 25 (mkE p25 r25 false f25)) (h41 : OK Proofs.Try.prog 41 (mkE p41 r41 false f41)) (h42 : OK Proofs.Try.prog 42 (mkE p42 r42 false f42)) : OK Proofs.Try.prog 11 (mkE p11 r11 false (F11 f16 f38 f39 f40 f18 f25 f41 f42)) :=
  fn_ok tab_ok (envL_ok (l := [(16, mkE p16 r16 false f16), (38, mkE p38 r38 false f38), (39, mkE p39 r39 false f39), (40, mkE p40 r40 false f40), (18, mkE p18 r18 false f18), (25, mkE p25 r25 false f25), (41, mkE p41 r41 false f41), (42, mkE p42 r42 false f42)]) (OKs.cons h16 (OKs.cons h38 (OKs.cons h39 (OKs.cons h40 (OKs.cons h18 (OKs.cons h25 (OKs.cons h41 (OKs.cons h42 OKs.nil))))))))) mixed (ann := (fun _ => false)) (L := L11 f16 f38 f39 f40 f18 f25 f41 f42) (fn := Proofs.Try.f11) (c := bodyC Proofs.Try.f11) (ls := []) Proofs.Try.func11 (by kernel_rfl) (by kernel_rfl) (by kernel_rfl) (by kernel_rfl)
    LoopsP.nil (e11 f16 f38 f39 f40 f18 f25 f41 f42)
/-! laws.szRunS -/
def p47 : List SP := [.one (.r .run), .one (.int .i64)]
def r47 : List SP := [.one (.int .i64)]
noncomputable def F47 (a : List Run × Int × Unit) : Option (Int × Unit) :=
  cond (decide ((w64 (a.2.1 - (Int.ofNat (List.length a.1)))) < 0)) (some ((-1), ())) (some ((w64 (a.2.1 - (Int.ofNat (List.length a.1)))), ()))
def E47 : Env := envL []
noncomputable def L47 : LEnv (densS (muts p47 ++ r47)) := lenv []
theorem e47 (a : densS p47) : runF (E47) tab (fun _ => false) p47 r47 Proofs.Try.f47 (L47) a = F47 a := by kernel_rfl
theorem ok47 : OK Proofs.Try.prog 47 (mkE p47 r47 false (F47)) :=
  fn_ok tab_ok (envL_ok (l := []) OKs.nil) mixed (ann := (fun _ => false)) (L := L47) (fn := Proofs.Try.f47) (c := bodyC Proofs.Try.f47) (ls := []) Proofs.Try.func47 (by kernel_rfl) (by kernel_rfl) (by kernel_rfl) (by kernel_rfl)
    LoopsP.nil (e47)
/-! laws.toRun -/
def p66 : List SP := [.t .run]
def r66 : List SP := [.t .run]
noncomputable def F66 (a : Run × Unit) : Option (Run × Unit) :=
  some (a.1, ())
def E66 : Env := envL []
noncomputable def L66 : LEnv (densS (muts p66 ++ r66)) := lenv []
theorem e66 (a : densS p66) : runF (E66) tab (fun _ => false) p66 r66 Proofs.Try.f66 (L66) a = F66 a := by kernel_rfl
theorem ok66 : OK Proofs.Try.prog 66 (mkE p66 r66 false (F66)) :=
  fn_ok tab_ok (envL_ok (l := []) OKs.nil) mixed (ann := (fun _ => false)) (L := L66) (fn := Proofs.Try.f66) (c := bodyC Proofs.Try.f66) (ls := []) Proofs.Try.func66 (by kernel_rfl) (by kernel_rfl) (by kernel_rfl) (by kernel_rfl)
    LoopsP.nil (e66)
/-! laws.toRunS -/
def p49 : List SP := [.one (.r .run)]
def r49 : List SP := [.one (.o 0 .run)]
def q49_0 : List SP := pat 23 0 [(0, .one (.r .run)), (3, .one (.o 5000001 .run)), (4, .one (.int .i64))]
noncomputable def s49_0 (f66 : Run × Unit → Option (Run × Unit)) (t1 : List Run × List Run × Int × Unit) (rec K : List Run × List Run × Int × Unit → Option (List Run × Unit)) : Option (List Run × Unit) :=
  cond (decide (t1.2.2.1 < (Int.ofNat (List.length t1.1)))) (rdL t1.1 t1.2.2.1 fun d2 => (f66 (d2, ())).bind fun x3 => rdL t1.2.1 t1.2.2.1 fun _ => (t1.2.1[(Int.toNat t1.2.2.1)]?).bind fun d4 => rec (t1.1, (List.set t1.2.1 (Int.toNat t1.2.2.1) x3.1), (w64 (t1.2.2.1 + 1)), ())) (K (t1.1, t1.2.1, t1.2.2.1, ()))
noncomputable def F49 (f66 : Run × Unit → Option (Run × Unit)) (a : List Run × Unit) : Option (List Run × Unit) :=
  okIf (0 ≤ (Int.ofNat (List.length a.1))) (capK (Int.toNat (Int.ofNat (List.length a.1))) (iterF (s49_0 f66) fuel (a.1, (List.replicate (Int.toNat (Int.ofNat (List.length a.1))) (Ty.zero .run)), 0, ()) fun t5 => some (t5.2.1, ())))
def E49 (f66 : Run × Unit → Option (Run × Unit)) : Env := envL [(66, mkE p66 r66 false f66)]
noncomputable def L49 (f66 : Run × Unit → Option (Run × Unit)) : LEnv (densS (muts p49 ++ r49)) := lenv [(0, loopL (R := densS (muts p49 ++ r49)) q49_0 (s49_0 f66))]
theorem e49_0 (f66 : Run × Unit → Option (Run × Unit)) (X : Nat → St → Option (densS (muts p49 ++ r49))) (rec K : densS q49_0 → Option (densS (muts p49 ++ r49))) (t : densS q49_0) :
    ev (E49 f66) tab (fun _ => false) (L49 f66) (retK tab p49 r49 Proofs.Try.f49.results.toList) (loopC Proofs.Try.f49 0) (fun i s => cond (Nat.beq i 0) (decK 100 q49_0 s K) (X i s)) (fun s => decK 100 q49_0 s rec) (enc q49_0 t) = s49_0 f66 t rec K := by kernel_rfl
theorem e49 (f66 : Run × Unit → Option (Run × Unit)) (a : densS p49) : runF (E49 f66) tab (fun _ => false) p49 r49 Proofs.Try.f49 (L49 f66) a = F49 f66 a := by kernel_rfl
theorem ok49 {f66 : Run × Unit → Option (Run × Unit)} (h66 : OK Proofs.Try.prog 66 (mkE p66 r66 false f66)) : OK Proofs.Try.prog 49 (mkE p49 r49 false (F49 f66)) :=
  fn_ok tab_ok (envL_ok (l := [(66, mkE p66 r66 false f66)]) (OKs.cons h66 OKs.nil)) mixed (ann := (fun _ => false)) (L := L49 f66) (fn := Proofs.Try.f49) (c := bodyC Proofs.Try.f49) (ls := [(0, loopC Proofs.Try.f49 0)]) Proofs.Try.func49 (by kernel_rfl) (by kernel_rfl) (by kernel_rfl) (by kernel_rfl)
    (LoopsP.cons q49_0 (s49_0 f66) rfl (e49_0 f66) LoopsP.nil) (e49 f66)
/-! spec.TrackOfRuns -/
def p48 : List SP := [.one (.r .run)]
def r48 : List SP := [.one (.o 0 .int), .one (.bool)]
def q48_2 : List SP := pat 57 0 [(0, .one (.r .run)), (4, .one (.o 5002001 .int)), (6, .boxt 5002002 .run), (7, .one (.int .i64)), (9, .one (.r .run)), (10, .one (.int .i64)), (11, .one (.int .i64))]
noncomputable def s48_2 (f15 : List Int × Unit → Option (Bool × Unit)) (t4 : List Run × List Int × Run × Int × List Run × Int × Int × Unit) (rec K : List Run × List Int × Run × Int × List Run × Int × Int × Unit → Option (List Int × Bool × Unit)) : Option (List Int × Bool × Unit) :=
  cond (decide (t4.2.2.2.1 < t4.2.2.1.Count)) (capK (List.length t4.2.1 + List.length ([t4.2.2.1.Level] : List Int)) (rec (t4.1, (t4.2.1 ++ ([t4.2.2.1.Level] : List Int)), t4.2.2.1, (w64 (t4.2.2.2.1 + 1)), t4.2.2.2.2.1, t4.2.2.2.2.2.1, t4.2.2.2.2.2.2.1, ()))) (K (t4.1, t4.2.1, t4.2.2.1, t4.2.2.2.1, t4.2.2.2.2.1, t4.2.2.2.2.2.1, t4.2.2.2.2.2.2.1, ()))
def q48_0 : List SP := pat 57 0 [(0, .one (.r .run)), (4, .one (.o 5000001 .int)), (9, .one (.r .run)), (10, .one (.int .i64)), (11, .one (.int .i64))]
noncomputable def s48_0 (f15 : List Int × Unit → Option (Bool × Unit)) (t1 : List Run × List Int × List Run × Int × Int × Unit) (rec K : List Run × List Int × List Run × Int × Int × Unit → Option (List Int × Bool × Unit)) : Option (List Int × Bool × Unit) :=
  cond (decide (t1.2.2.2.2.1 < t1.2.2.2.1)) (rdL t1.2.2.1 t1.2.2.2.2.1 fun d2 => cond (!(decide (d2.Count < 1))) (cond (!(decide (d2.Count > 64))) (cond (decide (t1.2.2.2.2.1 > 0)) (rdL t1.1 (w64 (t1.2.2.2.2.1 - 1)) fun d3 => cond (decide (d3.Level = d2.Level)) (some (([] : List Int), false, ())) (iterF (s48_2 f15) fuel (t1.1, t1.2.1, d2, 0, t1.2.2.1, t1.2.2.2.1, t1.2.2.2.2.1, ()) fun t5 => (f15 (t5.2.1, ())).bind fun x6 => cond (!x6.1) (some (([] : List Int), false, ())) (rec (t5.1, t5.2.1, t5.2.2.2.2.1, t5.2.2.2.2.2.1, (w64 (t5.2.2.2.2.2.2.1 + 1)), ())))) (iterF (s48_2 f15) fuel (t1.1, t1.2.1, d2, 0, t1.2.2.1, t1.2.2.2.1, t1.2.2.2.2.1, ()) fun t7 => (f15 (t7.2.1, ())).bind fun x8 => cond (!x8.1) (some (([] : List Int), false, ())) (rec (t7.1, t7.2.1, t7.2.2.2.2.1, t7.2.2.2.2.2.1, (w64 (t7.2.2.2.2.2.2.1 + 1)), ())))) (some (([] : List Int), false, ()))) (some (([] : List Int), false, ()))) (K (t1.1, t1.2.1, t1.2.2.1, t1.2.2.2.1, t1.2.2.2.2.1, ()))
noncomputable def F48 (f15 : List Int × Unit → Option (Bool × Unit)) (a : List Run × Unit) : Option (List Int × Bool × Unit) :=
  iterF (s48_0 f15) fuel (a.1, ([] : List Int), a.1, (Int.ofNat (List.length a.1)), 0, ()) fun t9 => some (t9.2.1, true, ())
def E48 (f15 : List Int × Unit → Option (Bool × Unit)) : Env := envL [(15, mkE p15 r15 false f15)]
noncomputable def L48 (f15 : List Int × Unit → Option (Bool × Unit)) : LEnv (densS (muts p48 ++ r48)) := lenv [(0, loopL (R := densS (muts p48 ++ r48)) q48_0 (s48_0 f15)), (2, loopL (R := densS (muts p48 ++ r48)) q48_2 (s48_2 f15))]
theorem e48_0 (f15 : List Int × Unit → Option (Bool × Unit)) (X : Nat → St → Option (densS (muts p48 ++ r48))) (rec K : densS q48_0 → Option (densS (muts p48 ++ r48))) (t : densS q48_0) :
    ev (E48 f15) tab (fun _ => false) (L48 f15) (retK tab p48 r48 Proofs.Try.f48.results.toList) (loopC Proofs.Try.f48 0) (fun i s => cond (Nat.beq i 0) (decK 100 q48_0 s K) (X i s)) (fun s => decK 100 q48_0 s rec) (enc q48_0 t) = s48_0 f15 t rec K := by kernel_rfl
theorem e48_2 (f15 : List Int × Unit → Option (Bool × Unit)) (X : Nat → St → Option (densS (muts p48 ++ r48))) (rec K : densS q48_2 → Option (densS (muts p48 ++ r48))) (t : densS q48_2) :
    ev (E48 f15) tab (fun _ => false) (L48 f15) (retK tab p48 r48 Proofs.Try.f48.results.toList) (loopC Proofs.Try.f48 1) (fun i s => cond (Nat.beq i 2) (decK 100 q48_2 s K) (X i s)) (fun s => decK 100 q48_2 s rec) (enc q48_2 t) = s48_2 f15 t rec K := by kernel_rfl
theorem e48 (f15 : List Int × Unit → Option (Bool × Unit)) (a : densS p48) : runF (E48 f15) tab (fun _ => false) p48 r48 Proofs.Try.f48 (L48 f15) a = F48 f15 a := by kernel_rfl
theorem ok48 {f15 : List Int × Unit → Option (Bool × Unit)} (h15 : OK Proofs.Try.prog 15 (mkE p15 r15 false f15)) : OK Proofs.Try.prog 48 (mkE p48 r48 false (F48 f15)) :=
  fn_ok tab_ok (envL_ok (l := [(15, mkE p15 r15 false f15)]) (OKs.cons h15 OKs.nil)) mixed (ann := (fun _ => false)) (L := L48 f15) (fn := Proofs.Try.f48) (c := bodyC Proofs.Try.f48) (ls := [(0, loopC Proofs.Try.f48 0), (2, loopC Proofs.Try.f48 1)]) Proofs.Try.func48 (by kernel_rfl) (by kernel_rfl) (by kernel_rfl) (by kernel_rfl)
    (LoopsP.cons q48_0 (s48_0 f15) rfl (e48_0 f15) (LoopsP.cons q48_2 (s48_2 f15) rfl (e48_2 f15) LoopsP.nil)) (e48 f15)
/-! impl.TrackOfRuns -/
def p50 : List SP := [.one (.r .run)]
def r50 : List SP := [.one (.o 0 .int), .one (.bool)]
def q50_2 : List SP := pat 56 0 [(0, .one (.r .run)), (4, .one (.o 5002001 .int)), (6, .boxt 5002002 .run), (8, .one (.r .run)), (9, .one (.int .i64)), (10, .one (.int .i64)), (45, .one (.int .i64)), (46, .one (.int .i64))]
noncomputable def s50_2 (f55 : Int × Int × Int × Unit → Option (Bool × Unit)) (t6 : List Run × List Int × Run × List Run × Int × Int × Int × Int × Unit) (rec K : List Run × List Int × Run × List Run × Int × Int × Int × Int × Unit → Option (List Int × Bool × Unit)) : Option (List Int × Bool × Unit) :=
  cond (decide (t6.2.2.2.2.2.2.2.1 < t6.2.2.2.2.2.2.1)) (capK (List.length t6.2.1 + List.length ([t6.2.2.1.Level] : List Int)) (rec (t6.1, (t6.2.1 ++ ([t6.2.2.1.Level] : List Int)), t6.2.2.1, t6.2.2.2.1, t6.2.2.2.2.1, t6.2.2.2.2.2.1, t6.2.2.2.2.2.2.1, (w64 (t6.2.2.2.2.2.2.2.1 + 1)), ()))) (K (t6.1, t6.2.1, t6.2.2.1, t6.2.2.2.1, t6.2.2.2.2.1, t6.2.2.2.2.2.1, t6.2.2.2.2.2.2.1, t6.2.2.2.2.2.2.2.1, ()))
def q50_0 : List SP := pat 56 0 [(0, .one (.r .run)), (4, .one (.o 5000001 .int)), (8, .one (.r .run)), (9, .one (.int .i64)), (10, .one (.int .i64))]
noncomputable def s50_0 (f55 : Int × Int × Int × Unit → Option (Bool × Unit)) (t1 : List Run × List Int × List Run × Int × Int × Unit) (rec K : List Run × List Int × List Run × Int × Int × Unit → Option (List Int × Bool × Unit)) : Option (List Int × Bool × Unit) :=
  cond (decide (t1.2.2.2.2.1 < t1.2.2.2.1)) (rdL t1.2.2.1 t1.2.2.2.2.1 fun d2 => (f55 (d2.Count, 1, (w64 (64 - (Int.ofNat (List.length t1.2.1)))), ())).bind fun x3 => cond (!(!x3.1)) ((f55 (d2.Level, 0, 32, ())).bind fun x4 => cond (!(!x4.1)) (cond (decide (t1.2.2.2.2.1 > 0)) (rdL t1.1 (w64 (t1.2.2.2.2.1 - 1)) fun d5 => cond (decide (d2.Level = d5.Level)) (some (([] : List Int), false, ())) (iterF (s50_2 f55) fuel (t1.1, t1.2.1, d2, t1.2.2.1, t1.2.2.2.1, t1.2.2.2.2.1, d2.Count, 0, ()) fun t7 => rec (t7.1, t7.2.1, t7.2.2.2.1, t7.2.2.2.2.1, (w64 (t7.2.2.2.2.2.1 + 1)), ()))) (iterF (s50_2 f55) fuel (t1.1, t1.2.1, d2, t1.2.2.1, t1.2.2.2.1, t1.2.2.2.2.1, d2.Count, 0, ()) fun t8 => rec (t8.1, t8.2.1, t8.2.2.2.1, t8.2.2.2.2.1, (w64 (t8.2.2.2.2.2.1 + 1)), ()))) (some (([] : List Int), false, ()))) (some (([] : List Int), false, ()))) (K (t1.1, t1.2.1, t1.2.2.1, t1.2.2.2.1, t1.2.2.2.2.1, ()))
noncomputable def F50 (f55 : Int × Int × Int × Unit → Option (Bool × Unit)) (a : List Run × Unit) : Option (List Int × Bool × Unit) :=
  iterF (s50_0 f55) fuel (a.1, ([] : List Int), a.1, (Int.ofNat (List.length a.1)), 0, ()) fun t9 => some (t9.2.1, true, ())
def E50 (f55 : Int × Int × Int × Unit → Option (Bool × Unit)) : Env := envL [(55, mkE p55 r55 false f55)]
noncomputable def L50 (f55 : Int × Int × Int × Unit → Option (Bool × Unit)) : LEnv (densS (muts p50 ++ r50)) := lenv [(0, loopL (R := densS (muts p50 ++ r50)) q50_0 (s50_0 f55)), (2, loopL (R := densS (muts p50 ++ r50)) q50_2 (s50_2 f55))]
theorem e50_0 (f55 : Int × Int × Int × Unit → Option (Bool × Unit)) (X : Nat → St → Option (densS (muts p50 ++ r50))) (rec K : densS q50_0 → Option (densS (muts p50 ++ r50))) (t : densS q50_0) :
    ev (E50 f55) tab (fun _ => false) (L50 f55) (retK tab p50 r50 Proofs.Try.f50.results.toList) (loopC Proofs.Try.f50 0) (fun i s => cond (Nat.beq i 0) (decK 100 q50_0 s K) (X i s)) (fun s => decK 100 q50_0 s rec) (enc q50_0 t) = s50_0 f55 t rec K := by kernel_rfl
theorem e50_2 (f55 : Int × Int × Int × Unit → Option (Bool × Unit)) (X : Nat → St → Option (densS (muts p50 ++ r50))) (rec K : densS q50_2 → Option (densS (muts p50 ++ r50))) (t : densS q50_2) :
    ev (E50 f55) tab (fun _ => false) (L50 f55) (retK tab p50 r50 Proofs.Try.f50.results.toList) (loopC Proofs.Try.f50 1) (fun i s => cond (Nat.beq i 2) (decK 100 q50_2 s K) (X i s)) (fun s => decK 100 q50_2 s rec) (enc q50_2 t) = s50_2 f55 t rec K := by kernel_rfl
theorem e50 (f55 : Int × Int × Int × Unit → Option (Bool × Unit)) (a : densS p50) : runF (E50 f55) tab (fun _ => false) p50 r50 Proofs.Try.f50 (L50 f55) a = F50 f55 a := by kernel_rfl
theorem ok50 {f55 : Int × Int × Int × Unit → Option (Bool × Unit)} (h55 : OK Proofs.Try.prog 55 (mkE p55 r55 false f55)) : OK Proofs.Try.prog 50 (mkE p50 r50 false (F50 f55)) :=
  fn_ok tab_ok (envL_ok (l := [(55, mkE p55 r55 false f55)]) (OKs.cons h55 OKs.nil)) mixed (ann := (fun _ => false)) (L := L50 f55) (fn := Proofs.Try.f50) (c := bodyC Proofs.Try.f50) (ls := [(0, loopC Proofs.Try.f50 0), (2, loopC Proofs.Try.f50 1)]) Proofs.Try.func50 (by kernel_rfl) (by kernel_rfl) (by kernel_rfl) (by kernel_rfl)
    (LoopsP.cons q50_0 (s50_0 f55) rfl (e50_0 f55) (LoopsP.cons q50_2 (s50_2 f55) rfl (e50_2 f55) LoopsP.nil)) (e50 f55)
/-! laws.FnExactTrackOfRuns -/
def p13 : List SP := [.one (.r .run)]
def r13 : List SP := [.one (.bool)]
noncomputable def F13 (f47 : List Run × Int × Unit → Option (Int × Unit)) (f49 : List Run × Unit → Option (List Run × Unit)) (f48 : List Run × Unit → Option (List Int × Bool × Unit)) (f50 : List Run × Unit → Option (List Int × Bool × Unit)) (f18 : List Int × List Int × Unit → Option (Bool × Unit)) (f40 : List Run × List Run × Unit → Option (Bool × Unit)) (f41 : List Run × Int × Unit → Option (List Run × Int × Unit)) (f25 : List Int × Int × Unit → Option (List Int × Int × Unit)) (f26 : List Int × Int × Unit → Option (Int × Unit)) (a : List Run × Unit) : Option (Bool × Unit) :=
  (f47 (a.1, 1048576, ())).bind fun x1 => cond (decide (x1.1 < 0)) (some (true, ())) ((f49 (a.1, ())).bind fun x2 => (f48 (x2.1, ())).bind fun x3 => (f49 (a.1, ())).bind fun x4 => (f50 (x4.1, ())).bind fun x5 => (f18 (x5.1, x3.1, ())).bind fun x6 => cond (!(!x6.1)) (cond (!(decide (x5.2.1 = x3.2.1))) (some (false, ())) ((f49 (a.1, ())).bind fun x7 => (f40 (x4.1, x7.1, ())).bind fun x8 => cond (!x8.1) (some (false, ())) ((f41 (x4.1, 1, ())).bind fun x9 => cond (!(decide (x9.2.1 < 0))) ((f18 (x5.1, x3.1, ())).bind fun x10 => cond (!(!x10.1)) (cond (!(decide (x5.2.1 = x3.2.1))) (some (false, ())) ((f25 (x5.1, 1, ())).bind fun x11 => (f26 (x11.1, 1, ())).bind fun x12 => cond (decide (x12.1 < 0)) (some (false, ())) (cond (!(decide (x12.1 = x11.2.1))) (some (false, ())) ((f49 (a.1, ())).bind fun x13 => (f50 (x13.1, ())).bind fun x14 => (f18 (x14.1, x3.1, ())).bind fun x15 => cond (!(!x15.1)) (cond (!(decide (x14.2.1 = x3.2.1))) (some (false, ())) ((f26 (x11.1, 1, ())).bind fun x16 => cond (decide (x16.1 < 0)) (some (false, ())) (cond (!(decide (x16.1 = x11.2.1))) (some (false, ())) (some (true, ()))))) (some (false, ())))))) (some (false, ()))) (some (false, ()))))) (some (false, ())))
def E13 (f47 : List Run × Int × Unit → Option (Int × Unit)) (f49 : List Run × Unit → Option (List Run × Unit)) (f48 : List Run × Unit → Option (List Int × Bool × Unit)) (f50 : List Run × Unit → Option (List Int × Bool × Unit)) (f18 : List Int × List Int × Unit → Option (Bool × Unit)) (f40 : List Run × List Run × Unit → Option (Bool × Unit)) (f41 : List Run × Int × Unit → Option (List Run × Int × Unit)) (f25 : List Int × Int × Unit → Option (List Int × Int × Unit)) (f26 : List Int × Int × Unit → Option (Int × Unit)) : Env := envL [(47, mkE p47 r47 false f47), (49, mkE p49 r49 false f49), (48, mkE p48 r48 false f48), (50, mkE p50 r50 false f50), (18, mkE p18 r18 false f18), (40, mkE p40 r40 false f40), (41, mkE p41 r41 false f41), (25, mkE p25 r25 false f25), (26, mkE p26 r26 false f26)]
noncomputable def L13 (f47 : List Run × Int × Unit → Option (Int × Unit)) (f49 : List Run × Unit → Option (List Run × Unit)) (f48 : List Run × Unit → Option (List Int × Bool × Unit)) (f50 : List Run × Unit → Option (List Int × Bool × Unit)) (f18 : List Int × List Int × Unit → Option (Bool × Unit)) (f40 : List Run × List Run × Unit → Option (Bool × Unit)) (f41 : List Run × Int × Unit → Option (List Run × Int × Unit)) (f25 : List Int × Int × Unit → Option (List Int × Int × Unit)) (f26 : List Int × Int × Unit → Option (Int × Unit)) : LEnv (densS (muts p13 ++ r13)) := lenv []
theorem e13 (f47 : List Run × Int × Unit → Option (Int × Unit)) (f49 : List Run × Unit → Option (List Run × Unit)) (f48 : List Run × Unit → Option (List Int × Bool × Unit)) (f50 : List Run × Unit → Option (List Int × Bool × Unit)) (f18 : List Int × List Int × Unit → Option (Bool × Unit)) (f40 : List Run × List Run × Unit → Option (Bool × Unit)) (f41 : List Run × Int × Unit → Option (List Run × Int × Unit)) (f25 : List Int × Int × Unit → Option (List Int × Int × Unit)) (f26 : List Int × Int × Unit → Option (Int × Unit)) (a : densS p13) : runF (E13 f47 f49 f48 f50 f18 f40 f41 f25 f26) tab (fun _ => false) p13 r13 Proofs.Try.f13 (L13 f47 f49 f48 f50 f18 f40 f41 f25 f26) a = F13 f47 f49 f48 f50 f18 f40 f41 f25 f26 a := by kernel_rfl
theorem ok13 {f47 : List Run × Int × Unit → Option (Int × Unit)} {f49 : List Run × Unit → Option (List Run × Unit)} {f48 : List Run × Unit → Option (List Int × Bool × Unit)} {f50 : List Run × Unit → Option (List Int × Bool × Unit)} {f18 : List Int × List Int × Unit → Option (Bool × Unit)} {f40 : List Run × List Run × Unit → Option (Bool × Unit)} {f41 : List Run × Int × Unit → Option (List Run × Int × Unit)} {f25 : List Int × Int × Unit → Option (List Int × Int × Unit)} {f26 : List Int × Int × Unit → Option (Int × Unit)} (h47 : OK Proofs.Try.prog 47 (mkE p47 r47 false f47)) (h49 : OK Proofs.Try.prog 49 (mkE p49 r49 false f49)) (h48 : OK Proofs.Try.prog 48 (mkE p48 r48 false f48)) (h50 : OK Proofs.Try.prog 50 (mkE p50 r50 false f50)) (h18 : OK Proofs.Try.prog 18 (mkE p18 r18 false f18)) (h40 : OK Proofs.Try.prog 40 (mkE p40 r40 false f40)) (h41 : OK Proofs.Try.prog 41 (mkE p41 r41 false f41)) (h25 : OK Proofs.Try.prog 25 (mkE p25 r25 false f25)) (h26 : OK Proofs.Try.prog 26 (mkE p26 r26 false f26)) : OK Proofs.Try.prog 13 (mkE p13 r13 false (F13 f47 f49 f48 f50 f18 f40 f41 f25 f26)) :=
  fn_ok tab_ok (envL_ok (l := [(47, mkE p47 r47 false f47), (49, mkE p49 r49 false f49), (48, mkE p48 r48 false f48), (50, mkE p50 r50 false f50), (18, mkE p18 r18 false f18), (40, mkE p40 r40 false f40), (41, mkE p41 r41 false f41), (25, mkE p25 r25 false f25), (26, mkE p26 r26 false f26)]) (OKs.cons h47 (OKs.cons h49 (OKs.cons h48 (OKs.cons h50 (OKs.cons h18 (OKs.cons h40 (OKs.cons h41 (OKs.cons h25 (OKs.cons h26 OKs.nil)))))))))) mixed (ann := (fun _ => false)) (L := L13 f47 f49 f48 f50 f18 f40 f41 f25 f26) (fn := Proofs.Try.f13) (c := bodyC Proofs.Try.f13) (ls := []) Proofs.Try.func13 (by kernel_rfl) (by kernel_rfl) (by kernel_rfl) (by kernel_rfl)
    LoopsP.nil (e13 f47 f49 f48 f50 f18 f40 f41 f25 f26)
end Ev
