/- Functions of the program, as the evaluator sees them. -/
import Derived.Test.YtmnahocockdpcaaGen
set_option linter.unusedVariables false
set_option maxRecDepth 100000
namespace Ev
open Go
def tab : Tab := [(3, ⟨1, false, 8, [.int .i64 0], [], .int .i64, false⟩),
  (4, ⟨1, false, 1, [.bool false], [], .bool, false⟩),
  (22, ⟨1, false, 24, [.nils], [], .sl .int, false⟩)]
theorem tab_ok : TabOK Proofs.Try.prog tab := tab_of (by kernel_rfl) (by kernel_rfl)
theorem mixed : Proofs.Try.prog.follows .mixedOrders = true := by kernel_rfl
/-! laws.toIntS -/
def p16 : List SP := [.one (.r .int)]
def r16 : List SP := [.one (.o 0 .int)]
def q16_0 : List SP := pat 22 0 [(0, .one (.r .int)), (3, .one (.o 5000001 .int)), (4, .one (.int .i64))]
noncomputable def s16_0 (t1 : List Int × List Int × Int × Unit) (rec K : List Int × List Int × Int × Unit → Option (List Int × Unit)) : Option (List Int × Unit) :=
  cond (decide (t1.2.2.1 < (Int.ofNat (List.length t1.1)))) (rdL t1.1 t1.2.2.1 fun d2 => rdL t1.2.1 t1.2.2.1 fun _ => (t1.2.1[(Int.toNat t1.2.2.1)]?).bind fun d3 => rec (t1.1, (List.set t1.2.1 (Int.toNat t1.2.2.1) d2), (w64 (t1.2.2.1 + 1)), ())) (K (t1.1, t1.2.1, t1.2.2.1, ()))
noncomputable def F16 (a : List Int × Unit) : Option (List Int × Unit) :=
  okIf (0 ≤ (Int.ofNat (List.length a.1))) (capK (Int.toNat (Int.ofNat (List.length a.1))) (iterF (s16_0) fuel (a.1, (List.replicate (Int.toNat (Int.ofNat (List.length a.1))) (Ty.zero .int)), 0, ()) fun t4 => some (t4.2.1, ())))
def E16 : Env := envL []
noncomputable def L16 : LEnv (densS (muts p16 ++ r16)) := lenv [(0, loopL (R := densS (muts p16 ++ r16)) q16_0 (s16_0))]
theorem e16_0 (X : Nat → St → Option (densS (muts p16 ++ r16))) (rec K : densS q16_0 → Option (densS (muts p16 ++ r16))) (t : densS q16_0) :
    ev (E16) tab (fun _ => false) (L16) (retK p16 r16 Proofs.Try.f16.results.toList) (loopC Proofs.Try.f16 0) (fun i s => cond (Nat.beq i 0) (decK 100 q16_0 s K) (X i s)) (fun s => decK 100 q16_0 s rec) (enc q16_0 t) = s16_0 t rec K := by kernel_rfl
theorem e16 (a : densS p16) : runF (E16) tab (fun _ => false) p16 r16 Proofs.Try.f16 (L16) a = F16 a := by kernel_rfl
theorem ok16 : OK Proofs.Try.prog 16 (mkE p16 r16 false (F16)) :=
  fn_ok tab_ok (envL_ok (l := []) OKs.nil) mixed (ann := (fun _ => false)) (L := L16) (fn := Proofs.Try.f16) (c := bodyC Proofs.Try.f16) (ls := [(0, loopC Proofs.Try.f16 0)]) Proofs.Try.func16 (by kernel_rfl) (by kernel_rfl) (by kernel_rfl) (by kernel_rfl)
    (LoopsP.cons q16_0 (s16_0) rfl (e16_0) LoopsP.nil) (e16)
/-! spec.l1In -/
def p54 : List SP := [.one (.int .i64), .one (.int .i64), .one (.int .i64)]
def r54 : List SP := [.one (.bool)]
noncomputable def F54 (a : Int × Int × Int × Unit) : Option (Bool × Unit) :=
  cond (decide (a.1 ≥ a.2.1)) (some ((decide (a.1 ≤ a.2.2.1)), ())) (some (false, ()))
def E54 : Env := envL []
noncomputable def L54 : LEnv (densS (muts p54 ++ r54)) := lenv []
theorem e54 (a : densS p54) : runF (E54) tab (fun _ => false) p54 r54 Proofs.Try.f54 (L54) a = F54 a := by kernel_rfl
theorem ok54 : OK Proofs.Try.prog 54 (mkE p54 r54 false (F54)) :=
  fn_ok tab_ok (envL_ok (l := []) OKs.nil) mixed (ann := (fun _ => false)) (L := L54) (fn := Proofs.Try.f54) (c := bodyC Proofs.Try.f54) (ls := []) Proofs.Try.func54 (by kernel_rfl) (by kernel_rfl) (by kernel_rfl) (by kernel_rfl)
    LoopsP.nil (e54)
/-! spec.IsTrack -/
def p15 : List SP := [.one (.r .int)]
def r15 : List SP := [.one (.bool)]
def q15_0 : List SP := pat 18 0 [(0, .one (.r .int)), (5, .one (.r .int)), (6, .one (.int .i64)), (7, .one (.int .i64))]
noncomputable def s15_0 (f54 : Int × Int × Int × Unit → Option (Bool × Unit)) (t1 : List Int × List Int × Int × Int × Unit) (rec K : List Int × List Int × Int × Int × Unit → Option (Bool × Unit)) : Option (Bool × Unit) :=
  cond (decide (t1.2.2.2.1 < t1.2.2.1)) (rdL t1.2.1 t1.2.2.2.1 fun d2 => (f54 (d2, 0, 32, ())).bind fun x3 => cond (!x3.1) (some (false, ())) (rec (t1.1, t1.2.1, t1.2.2.1, (w64 (t1.2.2.2.1 + 1)), ()))) (K (t1.1, t1.2.1, t1.2.2.1, t1.2.2.2.1, ()))
noncomputable def F15 (f54 : Int × Int × Int × Unit → Option (Bool × Unit)) (a : List Int × Unit) : Option (Bool × Unit) :=
  iterF (s15_0 f54) fuel (a.1, a.1, (Int.ofNat (List.length a.1)), 0, ()) fun t4 => some ((decide ((Int.ofNat (List.length t4.1)) ≤ 64)), ())
def E15 (f54 : Int × Int × Int × Unit → Option (Bool × Unit)) : Env := envL [(54, mkE p54 r54 false f54)]
noncomputable def L15 (f54 : Int × Int × Int × Unit → Option (Bool × Unit)) : LEnv (densS (muts p15 ++ r15)) := lenv [(0, loopL (R := densS (muts p15 ++ r15)) q15_0 (s15_0 f54))]
theorem e15_0 (f54 : Int × Int × Int × Unit → Option (Bool × Unit)) (X : Nat → St → Option (densS (muts p15 ++ r15))) (rec K : densS q15_0 → Option (densS (muts p15 ++ r15))) (t : densS q15_0) :
    ev (E15 f54) tab (fun _ => false) (L15 f54) (retK p15 r15 Proofs.Try.f15.results.toList) (loopC Proofs.Try.f15 0) (fun i s => cond (Nat.beq i 0) (decK 100 q15_0 s K) (X i s)) (fun s => decK 100 q15_0 s rec) (enc q15_0 t) = s15_0 f54 t rec K := by kernel_rfl
theorem e15 (f54 : Int × Int × Int × Unit → Option (Bool × Unit)) (a : densS p15) : runF (E15 f54) tab (fun _ => false) p15 r15 Proofs.Try.f15 (L15 f54) a = F15 f54 a := by kernel_rfl
theorem ok15 {f54 : Int × Int × Int × Unit → Option (Bool × Unit)} (h54 : OK Proofs.Try.prog 54 (mkE p54 r54 false f54)) : OK Proofs.Try.prog 15 (mkE p15 r15 false (F15 f54)) :=
  fn_ok tab_ok (envL_ok (l := [(54, mkE p54 r54 false f54)]) (OKs.cons h54 OKs.nil)) mixed (ann := (fun _ => false)) (L := L15 f54) (fn := Proofs.Try.f15) (c := bodyC Proofs.Try.f15) (ls := [(0, loopC Proofs.Try.f15 0)]) Proofs.Try.func15 (by kernel_rfl) (by kernel_rfl) (by kernel_rfl) (by kernel_rfl)
    (LoopsP.cons q15_0 (s15_0 f54) rfl (e15_0 f54) LoopsP.nil) (e15 f54)
/-! impl.isWithin -/
def p55 : List SP := [.one (.int .i64), .one (.int .i64), .one (.int .i64)]
def r55 : List SP := [.one (.bool)]
noncomputable def F55 (a : Int × Int × Int × Unit) : Option (Bool × Unit) :=
  cond (decide (a.2.1 ≤ a.1)) (some ((decide (a.1 ≤ a.2.2.1)), ())) (some (false, ()))
def E55 : Env := envL []
noncomputable def L55 : LEnv (densS (muts p55 ++ r55)) := lenv []
theorem e55 (a : densS p55) : runF (E55) tab (fun _ => false) p55 r55 Proofs.Try.f55 (L55) a = F55 a := by kernel_rfl
theorem ok55 : OK Proofs.Try.prog 55 (mkE p55 r55 false (F55)) :=
  fn_ok tab_ok (envL_ok (l := []) OKs.nil) mixed (ann := (fun _ => false)) (L := L55) (fn := Proofs.Try.f55) (c := bodyC Proofs.Try.f55) (ls := []) Proofs.Try.func55 (by kernel_rfl) (by kernel_rfl) (by kernel_rfl) (by kernel_rfl)
    LoopsP.nil (e55)
/-! impl.IsTrack -/
def p17 : List SP := [.one (.r .int)]
def r17 : List SP := [.one (.bool)]
def q17_0 : List SP := pat 18 0 [(0, .one (.r .int)), (5, .one (.r .int)), (6, .one (.int .i64)), (7, .one (.int .i64))]
noncomputable def s17_0 (f55 : Int × Int × Int × Unit → Option (Bool × Unit)) (t1 : List Int × List Int × Int × Int × Unit) (rec K : List Int × List Int × Int × Int × Unit → Option (Bool × Unit)) : Option (Bool × Unit) :=
  cond (decide (t1.2.2.2.1 < t1.2.2.1)) (rdL t1.2.1 t1.2.2.2.1 fun d2 => (f55 (d2, 0, 32, ())).bind fun x3 => cond (!x3.1) (some (false, ())) (rec (t1.1, t1.2.1, t1.2.2.1, (w64 (t1.2.2.2.1 + 1)), ()))) (K (t1.1, t1.2.1, t1.2.2.1, t1.2.2.2.1, ()))
noncomputable def F17 (f55 : Int × Int × Int × Unit → Option (Bool × Unit)) (a : List Int × Unit) : Option (Bool × Unit) :=
  iterF (s17_0 f55) fuel (a.1, a.1, (Int.ofNat (List.length a.1)), 0, ()) fun t4 => some ((decide ((Int.ofNat (List.length t4.1)) ≤ 64)), ())
def E17 (f55 : Int × Int × Int × Unit → Option (Bool × Unit)) : Env := envL [(55, mkE p55 r55 false f55)]
noncomputable def L17 (f55 : Int × Int × Int × Unit → Option (Bool × Unit)) : LEnv (densS (muts p17 ++ r17)) := lenv [(0, loopL (R := densS (muts p17 ++ r17)) q17_0 (s17_0 f55))]
theorem e17_0 (f55 : Int × Int × Int × Unit → Option (Bool × Unit)) (X : Nat → St → Option (densS (muts p17 ++ r17))) (rec K : densS q17_0 → Option (densS (muts p17 ++ r17))) (t : densS q17_0) :
    ev (E17 f55) tab (fun _ => false) (L17 f55) (retK p17 r17 Proofs.Try.f17.results.toList) (loopC Proofs.Try.f17 0) (fun i s => cond (Nat.beq i 0) (decK 100 q17_0 s K) (X i s)) (fun s => decK 100 q17_0 s rec) (enc q17_0 t) = s17_0 f55 t rec K := by kernel_rfl
theorem e17 (f55 : Int × Int × Int × Unit → Option (Bool × Unit)) (a : densS p17) : runF (E17 f55) tab (fun _ => false) p17 r17 Proofs.Try.f17 (L17 f55) a = F17 f55 a := by kernel_rfl
theorem ok17 {f55 : Int × Int × Int × Unit → Option (Bool × Unit)} (h55 : OK Proofs.Try.prog 55 (mkE p55 r55 false f55)) : OK Proofs.Try.prog 17 (mkE p17 r17 false (F17 f55)) :=
  fn_ok tab_ok (envL_ok (l := [(55, mkE p55 r55 false f55)]) (OKs.cons h55 OKs.nil)) mixed (ann := (fun _ => false)) (L := L17 f55) (fn := Proofs.Try.f17) (c := bodyC Proofs.Try.f17) (ls := [(0, loopC Proofs.Try.f17 0)]) Proofs.Try.func17 (by kernel_rfl) (by kernel_rfl) (by kernel_rfl) (by kernel_rfl)
    (LoopsP.cons q17_0 (s17_0 f55) rfl (e17_0 f55) LoopsP.nil) (e17 f55)
/-! laws.eqIntS -/
def p18 : List SP := [.one (.r .int), .one (.r .int)]
def r18 : List SP := [.one (.bool)]
def q18_0 : List SP := pat 26 0 [(0, .one (.r .int)), (1, .one (.r .int)), (5, .one (.int .i64))]
noncomputable def s18_0 (t1 : List Int × List Int × Int × Unit) (rec K : List Int × List Int × Int × Unit → Option (Bool × Unit)) : Option (Bool × Unit) :=
  cond (decide (t1.2.2.1 < (Int.ofNat (List.length t1.1)))) (rdL t1.1 t1.2.2.1 fun d2 => rdL t1.2.1 t1.2.2.1 fun d3 => cond (!(decide (d2 = d3))) (some (false, ())) (rec (t1.1, t1.2.1, (w64 (t1.2.2.1 + 1)), ()))) (K (t1.1, t1.2.1, t1.2.2.1, ()))
noncomputable def F18 (a : List Int × List Int × Unit) : Option (Bool × Unit) :=
  cond (!(decide ((Int.ofNat (List.length a.1)) = (Int.ofNat (List.length a.2.1))))) (some (false, ())) (iterF (s18_0) fuel (a.1, a.2.1, 0, ()) fun t4 => some (true, ()))
def E18 : Env := envL []
noncomputable def L18 : LEnv (densS (muts p18 ++ r18)) := lenv [(0, loopL (R := densS (muts p18 ++ r18)) q18_0 (s18_0))]
theorem e18_0 (X : Nat → St → Option (densS (muts p18 ++ r18))) (rec K : densS q18_0 → Option (densS (muts p18 ++ r18))) (t : densS q18_0) :
    ev (E18) tab (fun _ => false) (L18) (retK p18 r18 Proofs.Try.f18.results.toList) (loopC Proofs.Try.f18 0) (fun i s => cond (Nat.beq i 0) (decK 100 q18_0 s K) (X i s)) (fun s => decK 100 q18_0 s rec) (enc q18_0 t) = s18_0 t rec K := by kernel_rfl
theorem e18 (a : densS p18) : runF (E18) tab (fun _ => false) p18 r18 Proofs.Try.f18 (L18) a = F18 a := by kernel_rfl
theorem ok18 : OK Proofs.Try.prog 18 (mkE p18 r18 false (F18)) :=
  fn_ok tab_ok (envL_ok (l := []) OKs.nil) mixed (ann := (fun _ => false)) (L := L18) (fn := Proofs.Try.f18) (c := bodyC Proofs.Try.f18) (ls := [(0, loopC Proofs.Try.f18 0)]) Proofs.Try.func18 (by kernel_rfl) (by kernel_rfl) (by kernel_rfl) (by kernel_rfl)
    (LoopsP.cons q18_0 (s18_0) rfl (e18_0) LoopsP.nil) (e18)
/-! laws.FnExactIsTrack -/
def p3 : List SP := [.one (.r .int)]
def r3 : List SP := [.one (.bool)]
noncomputable def F3 (f16 : List Int × Unit → Option (List Int × Unit)) (f15 : List Int × Unit → Option (Bool × Unit)) (f17 : List Int × Unit → Option (Bool × Unit)) (f18 : List Int × List Int × Unit → Option (Bool × Unit)) (a : List Int × Unit) : Option (Bool × Unit) :=
  cond (decide ((Int.ofNat (List.length a.1)) > 1048576)) (some (true, ())) ((f16 (a.1, ())).bind fun x1 => (f15 (x1.1, ())).bind fun x2 => (f16 (a.1, ())).bind fun x3 => (f17 (x3.1, ())).bind fun x4 => cond (!(decide (x4.1 = x2.1))) (some (false, ())) ((f16 (a.1, ())).bind fun x5 => (f18 (x3.1, x5.1, ())).bind fun x6 => cond (!x6.1) (some (false, ())) (some (true, ()))))
def E3 (f16 : List Int × Unit → Option (List Int × Unit)) (f15 : List Int × Unit → Option (Bool × Unit)) (f17 : List Int × Unit → Option (Bool × Unit)) (f18 : List Int × List Int × Unit → Option (Bool × Unit)) : Env := envL [(16, mkE p16 r16 false f16), (15, mkE p15 r15 false f15), (17, mkE p17 r17 false f17), (18, mkE p18 r18 false f18)]
noncomputable def L3 (f16 : List Int × Unit → Option (List Int × Unit)) (f15 : List Int × Unit → Option (Bool × Unit)) (f17 : List Int × Unit → Option (Bool × Unit)) (f18 : List Int × List Int × Unit → Option (Bool × Unit)) : LEnv (densS (muts p3 ++ r3)) := lenv []
theorem e3 (f16 : List Int × Unit → Option (List Int × Unit)) (f15 : List Int × Unit → Option (Bool × Unit)) (f17 : List Int × Unit → Option (Bool × Unit)) (f18 : List Int × List Int × Unit → Option (Bool × Unit)) (a : densS p3) : runF (E3 f16 f15 f17 f18) tab (fun _ => false) p3 r3 Proofs.Try.f3 (L3 f16 f15 f17 f18) a = F3 f16 f15 f17 f18 a := by kernel_rfl
theorem ok3 {f16 : List Int × Unit → Option (List Int × Unit)} {f15 : List Int × Unit → Option (Bool × Unit)} {f17 : List Int × Unit → Option (Bool × Unit)} {f18 : List Int × List Int × Unit → Option (Bool × Unit)} (h16 : OK Proofs.Try.prog 16 (mkE p16 r16 false f16)) (h15 : OK Proofs.Try.prog 15 (mkE p15 r15 false f15)) (h17 : OK Proofs.Try.prog 17 (mkE p17 r17 false f17)) (h18 : OK Proofs.Try.prog 18 (mkE p18 r18 false f18)) : OK Proofs.Try.prog 3 (mkE p3 r3 false (F3 f16 f15 f17 f18)) :=
  fn_ok tab_ok (envL_ok (l := [(16, mkE p16 r16 false f16), (15, mkE p15 r15 false f15), (17, mkE p17 r17 false f17), (18, mkE p18 r18 false f18)]) (OKs.cons h16 (OKs.cons h15 (OKs.cons h17 (OKs.cons h18 OKs.nil))))) mixed (ann := (fun _ => false)) (L := L3 f16 f15 f17 f18) (fn := Proofs.Try.f3) (c := bodyC Proofs.Try.f3) (ls := []) Proofs.Try.func3 (by kernel_rfl) (by kernel_rfl) (by kernel_rfl) (by kernel_rfl)
    LoopsP.nil (e3 f16 f15 f17 f18)
end Ev
