/- Functions of the program, as the evaluator sees them. -/
import Derived.Test.YtmnahocockdpcaaFlat
set_option linter.unusedVariables false
set_option maxRecDepth 100000
namespace Ev
open Go
def tab : Tab := [(3, ⟨1, false, 8, [.int .i64 0], [], .int .i64, false⟩),
  (5, ⟨1, false, 1, [.int .u8 0], [], .int .u8, false⟩),
  (22, ⟨1, false, 24, [.nils], [], .sl .int, false⟩),
  (33, ⟨1, false, 24, [.nils], [], .sl .u8, false⟩),
  (36, ⟨1, false, 24, [.nils], [], .sl .block, false⟩),
  (62, ⟨8, true, 64, [.int .i64 0, .int .i64 0, .int .i64 0, .int .i64 0, .int .i64 0, .int .i64 0, .int .i64 0, .int .i64 0], [], .arr 8 1 false, false⟩),
  (75, ⟨3, true, 40, [.nils, .int .i64 0, .int .i64 0], [(0, 1, false), (1, 1, false), (2, 1, false)], .struct, false⟩)]
theorem tab_ok : TabOK Proofs.Try.prog tab := tab_of2 (by kernel_rfl) (by kernel_rfl)
theorem mixed : Proofs.Try.prog.follows .mixedOrders = true := by kernel_rfl
/-! laws.big -/
def p29 : List SP := [.one (.r .u8)]
def r29 : List SP := [.one (.bool)]
noncomputable def F29 (a : List Int × Unit) : Option (Bool × Unit) :=
  some ((decide ((Int.ofNat (List.length a.1)) > 4096)), ())
def E29 : Env := envL []
noncomputable def L29 : LEnv (densS (muts p29 ++ r29)) := lenv []
theorem e29 (a : densS p29) : runF (E29) tab (fun _ => false) p29 r29 Proofs.Try.f29 (L29) a = F29 a := by kernel_rfl
theorem ok29 : OK Proofs.Try.prog 29 (mkE p29 r29 false (F29)) :=
  fn_ok tab_ok (envL_ok (l := []) OKs.nil) mixed (ann := (fun _ => false)) (L := L29) (fn := Proofs.Try.f29) (c := bodyC Proofs.Try.f29) (ls := []) Proofs.Try.func29 (by kernel_rfl) (by kernel_rfl) (by kernel_rfl) (by kernel_rfl)
    LoopsP.nil (e29)
/-! spec.l1New -/
def p62 : List SP := [.one (.r .u8)]
def r62 : List SP := [.box 0 [.r .u8, .int .i64, .int .i64]]
def q62_0 : List SP := pat 33 0 [(0, .one (.r .u8)), (3, .one (.int .i64)), (4, .one (.int .i64))]
noncomputable def s62_0 (t1 : List Int × Int × Int × Unit) (rec K : List Int × Int × Int × Unit → Option ((List Int × Int × Int × Unit) × Unit)) : Option ((List Int × Int × Int × Unit) × Unit) :=
  cond (decide (t1.2.2.1 < (Int.ofNat (List.length t1.1)))) (cond (decide (t1.2.2.1 < 4000)) (rdL t1.1 t1.2.2.1 fun d2 => rec (t1.1, (bitsOp .and .i64 (w64 ((w64 ((w64 (t1.2.1 * 167)) + (w64 d2))) + 29)) 1073741823), (w64 (t1.2.2.1 + 1)), ())) (K (t1.1, t1.2.1, t1.2.2.1, ()))) (K (t1.1, t1.2.1, t1.2.2.1, ()))
noncomputable def F62 (a : List Int × Unit) : Option ((List Int × Int × Int × Unit) × Unit) :=
  iterF (s62_0) fuel (a.1, (w64 (620033 + (w64 (3 * (Int.ofNat (List.length a.1)))))), 0, ()) fun t3 => some ((t3.1, 0, t3.2.1, ()), ())
def E62 : Env := envL []
noncomputable def L62 : LEnv (densS (muts p62 ++ r62)) := lenv [(0, loopL (R := densS (muts p62 ++ r62)) q62_0 (s62_0))]
theorem e62_0 (X : Nat → St → Option (densS (muts p62 ++ r62))) (rec K : densS q62_0 → Option (densS (muts p62 ++ r62))) (t : densS q62_0) :
    ev (E62) tab (fun _ => false) (L62) (retK tab p62 r62 Proofs.Try.f62.results.toList) (loopC Proofs.Try.f62 0) (fun i s => cond (Nat.beq i 0) (decK 100 q62_0 s K) (X i s)) (fun s => decK 100 q62_0 s rec) (enc q62_0 t) = s62_0 t rec K := by kernel_rfl
theorem e62 (a : densS p62) : runF (E62) tab (fun _ => false) p62 r62 Proofs.Try.f62 (L62) a = F62 a := by kernel_rfl
theorem ok62 : OK Proofs.Try.prog 62 (mkE p62 r62 true (F62)) :=
  fn_ok tab_ok (envL_ok (l := []) OKs.nil) mixed (ann := (fun _ => false)) (L := L62) (fn := Proofs.Try.f62) (c := bodyC Proofs.Try.f62) (ls := [(0, loopC Proofs.Try.f62 0)]) Proofs.Try.func62 (by kernel_rfl) (by kernel_rfl) (by kernel_rfl) (by kernel_rfl)
    (LoopsP.cons q62_0 (s62_0) rfl (e62_0) LoopsP.nil) (e62)
/-! spec.l1Byte -/
def p72 : List SP := [.box 0 [.r .u8, .int .i64, .int .i64]]
def r72 : List SP := [.one (.int .i64)]
noncomputable def F72 (a : (List Int × Int × Int × Unit) × Unit) : Option ((List Int × Int × Int × Unit) × Int × Unit) :=
  cond (decide (a.1.2.1 < (Int.ofNat (List.length a.1.1)))) (rdL a.1.1 a.1.2.1 fun d1 => some ((a.1.1, (w64 (a.1.2.1 + 1)), (w64 ((w64 (a.1.2.2.1 * 6364136223846793005)) + 1442695040888963407)), ()), (bitsOp .and .i64 (w64 ((bitsOp .and .i64 (bitsOp .xor .i64 (shrOp .i64 (w64 ((w64 (a.1.2.2.1 * 6364136223846793005)) + 1442695040888963407)) 35) (shrOp .i64 (w64 ((w64 (a.1.2.2.1 * 6364136223846793005)) + 1442695040888963407)) 45)) 255) + (w64 d1))) 255), ())) (some ((a.1.1, a.1.2.1, (w64 ((w64 (a.1.2.2.1 * 6364136223846793005)) + 1442695040888963407)), ()), (bitsOp .and .i64 (bitsOp .xor .i64 (shrOp .i64 (w64 ((w64 (a.1.2.2.1 * 6364136223846793005)) + 1442695040888963407)) 35) (shrOp .i64 (w64 ((w64 (a.1.2.2.1 * 6364136223846793005)) + 1442695040888963407)) 45)) 255), ()))
def E72 : Env := envL []
noncomputable def L72 : LEnv (densS (muts p72 ++ r72)) := lenv []
theorem e72 (a : densS p72) : runF (E72) tab (fun _ => false) p72 r72 Proofs.Try.f72 (L72) a = F72 a := by kernel_rfl
theorem ok72 : OK Proofs.Try.prog 72 (mkE p72 r72 true (F72)) :=
  fn_ok tab_ok (envL_ok (l := []) OKs.nil) mixed (ann := (fun _ => false)) (L := L72) (fn := Proofs.Try.f72) (c := bodyC Proofs.Try.f72) (ls := []) Proofs.Try.func72 (by kernel_rfl) (by kernel_rfl) (by kernel_rfl) (by kernel_rfl)
    LoopsP.nil (e72)
/-! spec.l1Below -/
def p68 : List SP := [.box 0 [.r .u8, .int .i64, .int .i64], .one (.int .i64)]
def r68 : List SP := [.one (.int .i64)]
noncomputable def F68 (f72 : (List Int × Int × Int × Unit) × Unit → Option ((List Int × Int × Int × Unit) × Int × Unit)) (a : (List Int × Int × Int × Unit) × Int × Unit) : Option ((List Int × Int × Int × Unit) × Int × Unit) :=
  cond (decide (a.2.1 ≤ 0)) (some ((a.1.1, a.1.2.1, a.1.2.2.1, ()), 0, ())) (cond (decide (a.2.1 ≤ 256)) ((f72 ((a.1.1, a.1.2.1, a.1.2.2.1, ()), ())).bind fun x1 => cond (decide (a.2.1 = 0)) none (some ((x1.1.1, x1.1.2.1, x1.1.2.2.1, ()), (Int.tmod x1.2.1 a.2.1), ()))) ((f72 ((a.1.1, a.1.2.1, a.1.2.2.1, ()), ())).bind fun x2 => (f72 ((x2.1.1, x2.1.2.1, x2.1.2.2.1, ()), ())).bind fun x3 => (f72 ((x3.1.1, x3.1.2.1, x3.1.2.2.1, ()), ())).bind fun x4 => cond (decide (a.2.1 = 0)) none (some ((x4.1.1, x4.1.2.1, x4.1.2.2.1, ()), (Int.tmod (w64 ((w64 ((w64 (x2.2.1 * 65536)) + (w64 (x3.2.1 * 256)))) + x4.2.1)) a.2.1), ()))))
def E68 (f72 : (List Int × Int × Int × Unit) × Unit → Option ((List Int × Int × Int × Unit) × Int × Unit)) : Env := envL [(72, mkE p72 r72 true f72)]
noncomputable def L68 (f72 : (List Int × Int × Int × Unit) × Unit → Option ((List Int × Int × Int × Unit) × Int × Unit)) : LEnv (densS (muts p68 ++ r68)) := lenv []
theorem e68 (f72 : (List Int × Int × Int × Unit) × Unit → Option ((List Int × Int × Int × Unit) × Int × Unit)) (a : densS p68) : runF (E68 f72) tab (fun _ => false) p68 r68 Proofs.Try.f68 (L68 f72) a = F68 f72 a := by kernel_rfl
theorem ok68 {f72 : (List Int × Int × Int × Unit) × Unit → Option ((List Int × Int × Int × Unit) × Int × Unit)} (h72 : OK Proofs.Try.prog 72 (mkE p72 r72 true f72)) : OK Proofs.Try.prog 68 (mkE p68 r68 true (F68 f72)) :=
  fn_ok tab_ok (envL_ok (l := [(72, mkE p72 r72 true f72)]) (OKs.cons h72 OKs.nil)) mixed (ann := (fun _ => false)) (L := L68 f72) (fn := Proofs.Try.f68) (c := bodyC Proofs.Try.f68) (ls := []) Proofs.Try.func68 (by kernel_rfl) (by kernel_rfl) (by kernel_rfl) (by kernel_rfl)
    LoopsP.nil (e68 f72)
/-! spec.l1Int -/
def p69 : List SP := [.box 0 [.r .u8, .int .i64, .int .i64], .one (.r .int)]
def r69 : List SP := [.one (.int .i64)]
noncomputable def F69 (f68 : (List Int × Int × Int × Unit) × Int × Unit → Option ((List Int × Int × Int × Unit) × Int × Unit)) (a : (List Int × Int × Int × Unit) × List Int × Unit) : Option ((List Int × Int × Int × Unit) × Int × Unit) :=
  (f68 ((a.1.1, a.1.2.1, a.1.2.2.1, ()), (Int.ofNat (List.length a.2.1)), ())).bind fun x1 => rdL a.2.1 x1.2.1 fun d2 => some ((x1.1.1, x1.1.2.1, x1.1.2.2.1, ()), d2, ())
def E69 (f68 : (List Int × Int × Int × Unit) × Int × Unit → Option ((List Int × Int × Int × Unit) × Int × Unit)) : Env := envL [(68, mkE p68 r68 true f68)]
noncomputable def L69 (f68 : (List Int × Int × Int × Unit) × Int × Unit → Option ((List Int × Int × Int × Unit) × Int × Unit)) : LEnv (densS (muts p69 ++ r69)) := lenv []
theorem e69 (f68 : (List Int × Int × Int × Unit) × Int × Unit → Option ((List Int × Int × Int × Unit) × Int × Unit)) (a : densS p69) : runF (E69 f68) tab (fun _ => false) p69 r69 Proofs.Try.f69 (L69 f68) a = F69 f68 a := by kernel_rfl
theorem ok69 {f68 : (List Int × Int × Int × Unit) × Int × Unit → Option ((List Int × Int × Int × Unit) × Int × Unit)} (h68 : OK Proofs.Try.prog 68 (mkE p68 r68 true f68)) : OK Proofs.Try.prog 69 (mkE p69 r69 true (F69 f68)) :=
  fn_ok tab_ok (envL_ok (l := [(68, mkE p68 r68 true f68)]) (OKs.cons h68 OKs.nil)) mixed (ann := (fun _ => false)) (L := L69 f68) (fn := Proofs.Try.f69) (c := bodyC Proofs.Try.f69) (ls := []) Proofs.Try.func69 (by kernel_rfl) (by kernel_rfl) (by kernel_rfl) (by kernel_rfl)
    LoopsP.nil (e69 f68)
/-! spec.l1Once -/
def p70 : List SP := [.box 0 [.r .u8, .int .i64, .int .i64], .one (.int .i64)]
def r70 : List SP := [.one (.bool)]
noncomputable def F70 (f68 : (List Int × Int × Int × Unit) × Int × Unit → Option ((List Int × Int × Int × Unit) × Int × Unit)) (a : (List Int × Int × Int × Unit) × Int × Unit) : Option ((List Int × Int × Int × Unit) × Bool × Unit) :=
  (f68 ((a.1.1, a.1.2.1, a.1.2.2.1, ()), a.2.1, ())).bind fun x1 => some ((x1.1.1, x1.1.2.1, x1.1.2.2.1, ()), (decide (x1.2.1 = 0)), ())
def E70 (f68 : (List Int × Int × Int × Unit) × Int × Unit → Option ((List Int × Int × Int × Unit) × Int × Unit)) : Env := envL [(68, mkE p68 r68 true f68)]
noncomputable def L70 (f68 : (List Int × Int × Int × Unit) × Int × Unit → Option ((List Int × Int × Int × Unit) × Int × Unit)) : LEnv (densS (muts p70 ++ r70)) := lenv []
theorem e70 (f68 : (List Int × Int × Int × Unit) × Int × Unit → Option ((List Int × Int × Int × Unit) × Int × Unit)) (a : densS p70) : runF (E70 f68) tab (fun _ => false) p70 r70 Proofs.Try.f70 (L70 f68) a = F70 f68 a := by kernel_rfl
theorem ok70 {f68 : (List Int × Int × Int × Unit) × Int × Unit → Option ((List Int × Int × Int × Unit) × Int × Unit)} (h68 : OK Proofs.Try.prog 68 (mkE p68 r68 true f68)) : OK Proofs.Try.prog 70 (mkE p70 r70 true (F70 f68)) :=
  fn_ok tab_ok (envL_ok (l := [(68, mkE p68 r68 true f68)]) (OKs.cons h68 OKs.nil)) mixed (ann := (fun _ => false)) (L := L70 f68) (fn := Proofs.Try.f70) (c := bodyC Proofs.Try.f70) (ls := []) Proofs.Try.func70 (by kernel_rfl) (by kernel_rfl) (by kernel_rfl) (by kernel_rfl)
    LoopsP.nil (e70 f68)
/-! spec.l8Draw -/
def p61 : List SP := [.box 0 [.r .u8, .int .i64, .int .i64]]
def r61 : List SP := [.one (.o 1 .int)]
def q61_0 : List SP := pat 25 0 [(0, .box 0 [.r .u8, .int .i64, .int .i64]), (3, .one (.o 5000001 .int)), (4, .one (.int .i64)), (5, .one (.int .i64))]
noncomputable def s61_0 (f68 : (List Int × Int × Int × Unit) × Int × Unit → Option ((List Int × Int × Int × Unit) × Int × Unit)) (f69 : (List Int × Int × Int × Unit) × List Int × Unit → Option ((List Int × Int × Int × Unit) × Int × Unit)) (f70 : (List Int × Int × Int × Unit) × Int × Unit → Option ((List Int × Int × Int × Unit) × Bool × Unit)) (t3 : (List Int × Int × Int × Unit) × List Int × Int × Int × Unit) (rec K : (List Int × Int × Int × Unit) × List Int × Int × Int × Unit → Option ((List Int × Int × Int × Unit) × List Int × Unit)) : Option ((List Int × Int × Int × Unit) × List Int × Unit) :=
  cond (decide (t3.2.2.2.1 > 0)) ((f70 ((t3.1.1, t3.1.2.1, t3.1.2.2.1, ()), 3, ())).bind fun x4 => cond x4.2.1 ((f68 ((x4.1.1, x4.1.2.1, x4.1.2.2.1, ()), 33, ())).bind fun x5 => capK (List.length t3.2.1 + List.length ([x5.2.1] : List Int)) (rec ((x5.1.1, x5.1.2.1, x5.1.2.2.1, ()), (t3.2.1 ++ ([x5.2.1] : List Int)), x5.2.1, (w64 (t3.2.2.2.1 - 1)), ()))) (capK (List.length t3.2.1 + List.length ([t3.2.2.1] : List Int)) (rec ((x4.1.1, x4.1.2.1, x4.1.2.2.1, ()), (t3.2.1 ++ ([t3.2.2.1] : List Int)), t3.2.2.1, (w64 (t3.2.2.2.1 - 1)), ())))) (K ((t3.1.1, t3.1.2.1, t3.1.2.2.1, ()), t3.2.1, t3.2.2.1, t3.2.2.2.1, ()))
noncomputable def F61 (f68 : (List Int × Int × Int × Unit) × Int × Unit → Option ((List Int × Int × Int × Unit) × Int × Unit)) (f69 : (List Int × Int × Int × Unit) × List Int × Unit → Option ((List Int × Int × Int × Unit) × Int × Unit)) (f70 : (List Int × Int × Int × Unit) × Int × Unit → Option ((List Int × Int × Int × Unit) × Bool × Unit)) (a : (List Int × Int × Int × Unit) × Unit) : Option ((List Int × Int × Int × Unit) × List Int × Unit) :=
  (f68 ((a.1.1, a.1.2.1, a.1.2.2.1, ()), 33, ())).bind fun x1 => (f69 ((x1.1.1, x1.1.2.1, x1.1.2.2.1, ()), ([0, 1, 7, 8, 9, 15, 16, 17, 20, 24] : List Int), ())).bind fun x2 => iterF (s61_0 f68 f69 f70) fuel ((x2.1.1, x2.1.2.1, x2.1.2.2.1, ()), ([] : List Int), x1.2.1, x2.2.1, ()) fun t6 => some ((t6.1.1, t6.1.2.1, t6.1.2.2.1, ()), t6.2.1, ())
def E61 (f68 : (List Int × Int × Int × Unit) × Int × Unit → Option ((List Int × Int × Int × Unit) × Int × Unit)) (f69 : (List Int × Int × Int × Unit) × List Int × Unit → Option ((List Int × Int × Int × Unit) × Int × Unit)) (f70 : (List Int × Int × Int × Unit) × Int × Unit → Option ((List Int × Int × Int × Unit) × Bool × Unit)) : Env := envL [(68, mkE p68 r68 true f68), (69, mkE p69 r69 true f69), (70, mkE p70 r70 true f70)]
noncomputable def L61 (f68 : (List Int × Int × Int × Unit) × Int × Unit → Option ((List Int × Int × Int × Unit) × Int × Unit)) (f69 : (List Int × Int × Int × Unit) × List Int × Unit → Option ((List Int × Int × Int × Unit) × Int × Unit)) (f70 : (List Int × Int × Int × Unit) × Int × Unit → Option ((List Int × Int × Int × Unit) × Bool × Unit)) : LEnv (densS (muts p61 ++ r61)) := lenv [(0, loopL (R := densS (muts p61 ++ r61)) q61_0 (s61_0 f68 f69 f70))]
theorem e61_0 (f68 : (List Int × Int × Int × Unit) × Int × Unit → Option ((List Int × Int × Int × Unit) × Int × Unit)) (f69 : (List Int × Int × Int × Unit) × List Int × Unit → Option ((List Int × Int × Int × Unit) × Int × Unit)) (f70 : (List Int × Int × Int × Unit) × Int × Unit → Option ((List Int × Int × Int × Unit) × Bool × Unit)) (X : Nat → St → Option (densS (muts p61 ++ r61))) (rec K : densS q61_0 → Option (densS (muts p61 ++ r61))) (t : densS q61_0) :
    ev (E61 f68 f69 f70) tab (fun _ => false) (L61 f68 f69 f70) (retK tab p61 r61 Proofs.Try.f61.results.toList) (loopC Proofs.Try.f61 0) (fun i s => cond (Nat.beq i 0) (decK 100 q61_0 s K) (X i s)) (fun s => decK 100 q61_0 s rec) (enc q61_0 t) = s61_0 f68 f69 f70 t rec K := by kernel_rfl
theorem e61 (f68 : (List Int × Int × Int × Unit) × Int × Unit → Option ((List Int × Int × Int × Unit) × Int × Unit)) (f69 : (List Int × Int × Int × Unit) × List Int × Unit → Option ((List Int × Int × Int × Unit) × Int × Unit)) (f70 : (List Int × Int × Int × Unit) × Int × Unit → Option ((List Int × Int × Int × Unit) × Bool × Unit)) (a : densS p61) : runF (E61 f68 f69 f70) tab (fun _ => false) p61 r61 Proofs.Try.f61 (L61 f68 f69 f70) a = F61 f68 f69 f70 a := by kernel_rfl
theorem ok61 {f68 : (List Int × Int × Int × Unit) × Int × Unit → Option ((List Int × Int × Int × Unit) × Int × Unit)} {f69 : (List Int × Int × Int × Unit) × List Int × Unit → Option ((List Int × Int × Int × Unit) × Int × Unit)} {f70 : (List Int × Int × Int × Unit) × Int × Unit → Option ((List Int × Int × Int × Unit) × Bool × Unit)} (h68 : OK Proofs.Try.prog 68 (mkE p68 r68 true f68)) (h69 : OK Proofs.Try.prog 69 (mkE p69 r69 true f69)) (h70 : OK Proofs.Try.prog 70 (mkE p70 r70 true f70)) : OK Proofs.Try.prog 61 (mkE p61 r61 true (F61 f68 f69 f70)) :=
  fn_ok tab_ok (envL_ok (l := [(68, mkE p68 r68 true f68), (69, mkE p69 r69 true f69), (70, mkE p70 r70 true f70)]) (OKs.cons h68 (OKs.cons h69 (OKs.cons h70 OKs.nil)))) mixed (ann := (fun _ => false)) (L := L61 f68 f69 f70) (fn := Proofs.Try.f61) (c := bodyC Proofs.Try.f61) (ls := [(0, loopC Proofs.Try.f61 0)]) Proofs.Try.func61 (by kernel_rfl) (by kernel_rfl) (by kernel_rfl) (by kernel_rfl)
    (LoopsP.cons q61_0 (s61_0 f68 f69 f70) rfl (e61_0 f68 f69 f70) LoopsP.nil) (e61 f68 f69 f70)
/-! spec.DrawTrack -/
def p30 : List SP := [.one (.r .u8)]
def r30 : List SP := [.one (.o 0 .int)]
noncomputable def F30 (f62 : List Int × Unit → Option ((List Int × Int × Int × Unit) × Unit)) (f61 : (List Int × Int × Int × Unit) × Unit → Option ((List Int × Int × Int × Unit) × List Int × Unit)) (a : List Int × Unit) : Option (List Int × Unit) :=
  (f62 (a.1, ())).bind fun x1 => (f61 ((x1.1.1, x1.1.2.1, x1.1.2.2.1, ()), ())).bind fun x2 => some (x2.2.1, ())
def E30 (f62 : List Int × Unit → Option ((List Int × Int × Int × Unit) × Unit)) (f61 : (List Int × Int × Int × Unit) × Unit → Option ((List Int × Int × Int × Unit) × List Int × Unit)) : Env := envL [(62, mkE p62 r62 true f62), (61, mkE p61 r61 true f61)]
noncomputable def L30 (f62 : List Int × Unit → Option ((List Int × Int × Int × Unit) × Unit)) (f61 : (List Int × Int × Int × Unit) × Unit → Option ((List Int × Int × Int × Unit) × List Int × Unit)) : LEnv (densS (muts p30 ++ r30)) := lenv []
theorem e30 (f62 : List Int × Unit → Option ((List Int × Int × Int × Unit) × Unit)) (f61 : (List Int × Int × Int × Unit) × Unit → Option ((List Int × Int × Int × Unit) × List Int × Unit)) (a : densS p30) : runF (E30 f62 f61) tab (fun _ => false) p30 r30 Proofs.Try.f30 (L30 f62 f61) a = F30 f62 f61 a := by kernel_rfl
theorem ok30 {f62 : List Int × Unit → Option ((List Int × Int × Int × Unit) × Unit)} {f61 : (List Int × Int × Int × Unit) × Unit → Option ((List Int × Int × Int × Unit) × List Int × Unit)} (h62 : OK Proofs.Try.prog 62 (mkE p62 r62 true f62)) (h61 : OK Proofs.Try.prog 61 (mkE p61 r61 true f61)) : OK Proofs.Try.prog 30 (mkE p30 r30 false (F30 f62 f61)) :=
  fn_ok tab_ok (envL_ok (l := [(62, mkE p62 r62 true f62), (61, mkE p61 r61 true f61)]) (OKs.cons h62 (OKs.cons h61 OKs.nil))) mixed (ann := (fun _ => false)) (L := L30 f62 f61) (fn := Proofs.Try.f30) (c := bodyC Proofs.Try.f30) (ls := []) Proofs.Try.func30 (by kernel_rfl) (by kernel_rfl) (by kernel_rfl) (by kernel_rfl)
    LoopsP.nil (e30 f62 f61)
/-! impl.isWithin -/
def p55 : List SP := [.one (.int .i64), .one (.int .i64), .one (.int .i64)]
def r55 : List SP := [.one (.bool)]
noncomputable def F55 (a : Int × Int × Int × Unit) : Option (Bool × Unit) :=
  cond (decide (a.2.1 ≤ a.1)) (some ((decide (a.1 ≤ a.2.2.1)), ())) (some (false, ()))
def E55 : Env := envL []
noncomputable def L55 : LEnv (densS (muts p55 ++ r55)) := lenv []
theorem e55 (a : densS p55) : runF (E55) tab (fun _ => false) p55 r55 Proofs.Try.f55 (L55) a = F55 a := by kernel_rfl
theorem ok55 : OK Proofs.Try.prog 55 (mkE p55 r55 false (F55)) :=
  fn_ok tab_ok (envL_ok (l := []) OKs.nil) mixed (ann := (fun _ => false)) (L := L55) (fn := Proofs.Try.f55) (c := bodyC Proofs.Try.f55) (ls := []) Proofs.Try.func55 (by kernel_rfl) (by kernel_rfl) (by kernel_rfl) (by kernel_rfl)
    LoopsP.nil (e55)
/-! impl.IsTrack -/
def p17 : List SP := [.one (.r .int)]
def r17 : List SP := [.one (.bool)]
def q17_0 : List SP := pat 18 0 [(0, .one (.r .int)), (5, .one (.r .int)), (6, .one (.int .i64)), (7, .one (.int .i64))]
noncomputable def s17_0 (f55 : Int × Int × Int × Unit → Option (Bool × Unit)) (t1 : List Int × List Int × Int × Int × Unit) (rec K : List Int × List Int × Int × Int × Unit → Option (Bool × Unit)) : Option (Bool × Unit) :=
  cond (decide (t1.2.2.2.1 < t1.2.2.1)) (rdL t1.2.1 t1.2.2.2.1 fun d2 => (f55 (d2, 0, 32, ())).bind fun x3 => cond (!x3.1) (some (false, ())) (rec (t1.1, t1.2.1, t1.2.2.1, (w64 (t1.2.2.2.1 + 1)), ()))) (K (t1.1, t1.2.1, t1.2.2.1, t1.2.2.2.1, ()))
noncomputable def F17 (f55 : Int × Int × Int × Unit → Option (Bool × Unit)) (a : List Int × Unit) : Option (Bool × Unit) :=
  iterF (s17_0 f55) fuel (a.1, a.1, (Int.ofNat (List.length a.1)), 0, ()) fun t4 => some ((decide ((Int.ofNat (List.length t4.1)) ≤ 64)), ())
def E17 (f55 : Int × Int × Int × Unit → Option (Bool × Unit)) : Env := envL [(55, mkE p55 r55 false f55)]
noncomputable def L17 (f55 : Int × Int × Int × Unit → Option (Bool × Unit)) : LEnv (densS (muts p17 ++ r17)) := lenv [(0, loopL (R := densS (muts p17 ++ r17)) q17_0 (s17_0 f55))]
theorem e17_0 (f55 : Int × Int × Int × Unit → Option (Bool × Unit)) (X : Nat → St → Option (densS (muts p17 ++ r17))) (rec K : densS q17_0 → Option (densS (muts p17 ++ r17))) (t : densS q17_0) :
    ev (E17 f55) tab (fun _ => false) (L17 f55) (retK tab p17 r17 Proofs.Try.f17.results.toList) (loopC Proofs.Try.f17 0) (fun i s => cond (Nat.beq i 0) (decK 100 q17_0 s K) (X i s)) (fun s => decK 100 q17_0 s rec) (enc q17_0 t) = s17_0 f55 t rec K := by kernel_rfl
theorem e17 (f55 : Int × Int × Int × Unit → Option (Bool × Unit)) (a : densS p17) : runF (E17 f55) tab (fun _ => false) p17 r17 Proofs.Try.f17 (L17 f55) a = F17 f55 a := by kernel_rfl
theorem ok17 {f55 : Int × Int × Int × Unit → Option (Bool × Unit)} (h55 : OK Proofs.Try.prog 55 (mkE p55 r55 false f55)) : OK Proofs.Try.prog 17 (mkE p17 r17 false (F17 f55)) :=
  fn_ok tab_ok (envL_ok (l := [(55, mkE p55 r55 false f55)]) (OKs.cons h55 OKs.nil)) mixed (ann := (fun _ => false)) (L := L17 f55) (fn := Proofs.Try.f17) (c := bodyC Proofs.Try.f17) (ls := [(0, loopC Proofs.Try.f17 0)]) Proofs.Try.func17 (by kernel_rfl) (by kernel_rfl) (by kernel_rfl) (by kernel_rfl)
    (LoopsP.cons q17_0 (s17_0 f55) rfl (e17_0 f55) LoopsP.nil) (e17 f55)
/-! impl.BlocksOf -/
def p31 : List SP := [.one (.r .int)]
def r31 : List SP := [.one (.o 0 .block)]
def q31_2 : List SP := pat 45 0 [(0, .one (.r .int)), (3, .one (.o 5002001 .block)), (4, .one (.int .i64)), (5, .boxt 5002002 .block), (24, .one (.int .i64))]
noncomputable def s31_2 (f17 : List Int × Unit → Option (Bool × Unit)) (t3 : List Int × List Block × Int × Block × Int × Unit) (rec K : List Int × List Block × Int × Block × Int × Unit → Option (List Block × Unit)) : Option (List Block × Unit) :=
  cond (decide (t3.2.2.2.2.1 < 8)) (rdL t3.1 (mn (w64 (t3.2.2.1 + t3.2.2.2.2.1)) (w64 ((Int.ofNat (List.length t3.1)) - 1))) fun d4 => cond (decide (t3.2.2.2.2.1 = 7)) (rec (t3.1, t3.2.1, t3.2.2.1, (⟨t3.2.2.2.1.b0, t3.2.2.2.1.b1, t3.2.2.2.1.b2, t3.2.2.2.1.b3, t3.2.2.2.1.b4, t3.2.2.2.1.b5, t3.2.2.2.1.b6, d4⟩ : Block), (w64 (t3.2.2.2.2.1 + 1)), ())) (cond (decide (t3.2.2.2.2.1 = 6)) (rec (t3.1, t3.2.1, t3.2.2.1, (⟨t3.2.2.2.1.b0, t3.2.2.2.1.b1, t3.2.2.2.1.b2, t3.2.2.2.1.b3, t3.2.2.2.1.b4, t3.2.2.2.1.b5, d4, t3.2.2.2.1.b7⟩ : Block), (w64 (t3.2.2.2.2.1 + 1)), ())) (cond (decide (t3.2.2.2.2.1 = 5)) (rec (t3.1, t3.2.1, t3.2.2.1, (⟨t3.2.2.2.1.b0, t3.2.2.2.1.b1, t3.2.2.2.1.b2, t3.2.2.2.1.b3, t3.2.2.2.1.b4, d4, t3.2.2.2.1.b6, t3.2.2.2.1.b7⟩ : Block), (w64 (t3.2.2.2.2.1 + 1)), ())) (cond (decide (t3.2.2.2.2.1 = 4)) (rec (t3.1, t3.2.1, t3.2.2.1, (⟨t3.2.2.2.1.b0, t3.2.2.2.1.b1, t3.2.2.2.1.b2, t3.2.2.2.1.b3, d4, t3.2.2.2.1.b5, t3.2.2.2.1.b6, t3.2.2.2.1.b7⟩ : Block), (w64 (t3.2.2.2.2.1 + 1)), ())) (cond (decide (t3.2.2.2.2.1 = 3)) (rec (t3.1, t3.2.1, t3.2.2.1, (⟨t3.2.2.2.1.b0, t3.2.2.2.1.b1, t3.2.2.2.1.b2, d4, t3.2.2.2.1.b4, t3.2.2.2.1.b5, t3.2.2.2.1.b6, t3.2.2.2.1.b7⟩ : Block), (w64 (t3.2.2.2.2.1 + 1)), ())) (cond (decide (t3.2.2.2.2.1 = 2)) (rec (t3.1, t3.2.1, t3.2.2.1, (⟨t3.2.2.2.1.b0, t3.2.2.2.1.b1, d4, t3.2.2.2.1.b3, t3.2.2.2.1.b4, t3.2.2.2.1.b5, t3.2.2.2.1.b6, t3.2.2.2.1.b7⟩ : Block), (w64 (t3.2.2.2.2.1 + 1)), ())) (cond (decide (t3.2.2.2.2.1 = 1)) (rec (t3.1, t3.2.1, t3.2.2.1, (⟨t3.2.2.2.1.b0, d4, t3.2.2.2.1.b2, t3.2.2.2.1.b3, t3.2.2.2.1.b4, t3.2.2.2.1.b5, t3.2.2.2.1.b6, t3.2.2.2.1.b7⟩ : Block), (w64 (t3.2.2.2.2.1 + 1)), ())) (cond (decide (t3.2.2.2.2.1 = 0)) (rec (t3.1, t3.2.1, t3.2.2.1, (⟨d4, t3.2.2.2.1.b1, t3.2.2.2.1.b2, t3.2.2.2.1.b3, t3.2.2.2.1.b4, t3.2.2.2.1.b5, t3.2.2.2.1.b6, t3.2.2.2.1.b7⟩ : Block), (w64 (t3.2.2.2.2.1 + 1)), ())) (none))))))))) (K (t3.1, t3.2.1, t3.2.2.1, t3.2.2.2.1, t3.2.2.2.2.1, ()))
def q31_0 : List SP := pat 45 0 [(0, .one (.r .int)), (3, .one (.o 5000001 .block)), (4, .one (.int .i64))]
noncomputable def s31_0 (f17 : List Int × Unit → Option (Bool × Unit)) (t2 : List Int × List Block × Int × Unit) (rec K : List Int × List Block × Int × Unit → Option (List Block × Unit)) : Option (List Block × Unit) :=
  cond (decide (t2.2.2.1 < (Int.ofNat (List.length t2.1)))) (iterF (s31_2 f17) fuel (t2.1, t2.2.1, t2.2.2.1, (⟨0, 0, 0, 0, 0, 0, 0, 0⟩ : Block), 0, ()) fun t5 => capK (List.length t5.2.1 + List.length ([t5.2.2.2.1] : List Block)) (rec (t5.1, (t5.2.1 ++ ([t5.2.2.2.1] : List Block)), (w64 (t5.2.2.1 + 8)), ()))) (K (t2.1, t2.2.1, t2.2.2.1, ()))
noncomputable def F31 (f17 : List Int × Unit → Option (Bool × Unit)) (a : List Int × Unit) : Option (List Block × Unit) :=
  (f17 (a.1, ())).bind fun x1 => cond (!(!x1.1)) (cond (decide ((Int.ofNat (List.length a.1)) = 0)) (some (([] : List Block), ())) (iterF (s31_0 f17) fuel (a.1, ([] : List Block), 0, ()) fun t6 => some (t6.2.1, ()))) (some (([] : List Block), ()))
def E31 (f17 : List Int × Unit → Option (Bool × Unit)) : Env := envL [(17, mkE p17 r17 false f17)]
noncomputable def L31 (f17 : List Int × Unit → Option (Bool × Unit)) : LEnv (densS (muts p31 ++ r31)) := lenv [(0, loopL (R := densS (muts p31 ++ r31)) q31_0 (s31_0 f17)), (2, loopL (R := densS (muts p31 ++ r31)) q31_2 (s31_2 f17))]
theorem e31_0 (f17 : List Int × Unit → Option (Bool × Unit)) (X : Nat → St → Option (densS (muts p31 ++ r31))) (rec K : densS q31_0 → Option (densS (muts p31 ++ r31))) (t : densS q31_0) :
    ev (E31 f17) tab (fun _ => false) (L31 f17) (retK tab p31 r31 Proofs.Try.f31.results.toList) (loopC Proofs.Try.f31 0) (fun i s => cond (Nat.beq i 0) (decK 100 q31_0 s K) (X i s)) (fun s => decK 100 q31_0 s rec) (enc q31_0 t) = s31_0 f17 t rec K := by kernel_rfl
theorem e31_2 (f17 : List Int × Unit → Option (Bool × Unit)) (X : Nat → St → Option (densS (muts p31 ++ r31))) (rec K : densS q31_2 → Option (densS (muts p31 ++ r31))) (t : densS q31_2) :
    ev (E31 f17) tab (fun _ => false) (L31 f17) (retK tab p31 r31 Proofs.Try.f31.results.toList) (loopC Proofs.Try.f31 1) (fun i s => cond (Nat.beq i 2) (decK 100 q31_2 s K) (X i s)) (fun s => decK 100 q31_2 s rec) (enc q31_2 t) = s31_2 f17 t rec K := by kernel_rfl
theorem e31 (f17 : List Int × Unit → Option (Bool × Unit)) (a : densS p31) : runF (E31 f17) tab (fun _ => false) p31 r31 Proofs.Try.f31 (L31 f17) a = F31 f17 a := by kernel_rfl
theorem ok31 {f17 : List Int × Unit → Option (Bool × Unit)} (h17 : OK Proofs.Try.prog 17 (mkE p17 r17 false f17)) : OK Proofs.Try.prog 31 (mkE p31 r31 false (F31 f17)) :=
  fn_ok tab_ok (envL_ok (l := [(17, mkE p17 r17 false f17)]) (OKs.cons h17 OKs.nil)) mixed (ann := (fun _ => false)) (L := L31 f17) (fn := Proofs.Try.f31) (c := bodyC Proofs.Try.f31) (ls := [(0, loopC Proofs.Try.f31 0), (2, loopC Proofs.Try.f31 1)]) Proofs.Try.func31 (by kernel_rfl) (by kernel_rfl) (by kernel_rfl) (by kernel_rfl)
    (LoopsP.cons q31_0 (s31_0 f17) rfl (e31_0 f17) (LoopsP.cons q31_2 (s31_2 f17) rfl (e31_2 f17) LoopsP.nil)) (e31 f17)
/-! impl.TrackFrom -/
def p32 : List SP := [.one (.r .block), .one (.int .i64)]
def r32 : List SP := [.one (.o 0 .int), .one (.bool)]
def q32_0 : List SP := pat 44 0 [(0, .one (.r .block)), (6, .one (.o 5000001 .int)), (23, .one (.int .i64)), (24, .one (.int .i64))]
noncomputable def s32_0 (f17 : List Int × Unit → Option (Bool × Unit)) (t1 : List Block × List Int × Int × Int × Unit) (rec K : List Block × List Int × Int × Int × Unit → Option (List Int × Bool × Unit)) : Option (List Int × Bool × Unit) :=
  cond (decide (t1.2.2.2.1 < t1.2.2.1)) (rdL t1.1 (w64 (Int.tdiv t1.2.2.2.1 8)) fun d2 => rdL [d2.b0, d2.b1, d2.b2, d2.b3, d2.b4, d2.b5, d2.b6, d2.b7] (Int.tmod t1.2.2.2.1 8) fun d3 => capK (List.length t1.2.1 + List.length ([d3] : List Int)) (rec (t1.1, (t1.2.1 ++ ([d3] : List Int)), t1.2.2.1, (w64 (t1.2.2.2.1 + 1)), ()))) (K (t1.1, t1.2.1, t1.2.2.1, t1.2.2.2.1, ()))
noncomputable def F32 (f17 : List Int × Unit → Option (Bool × Unit)) (a : List Block × Int × Unit) : Option (List Int × Bool × Unit) :=
  cond (!(decide (a.2.1 < 0))) (cond (!(decide (a.2.1 > (w64 (8 * (Int.ofNat (List.length a.1))))))) (cond (decide (a.2.1 > 64)) (some (([] : List Int), false, ())) (iterF (s32_0 f17) fuel (a.1, ([] : List Int), a.2.1, 0, ()) fun t4 => (f17 (t4.2.1, ())).bind fun x5 => cond (!x5.1) (some (([] : List Int), false, ())) (some (t4.2.1, true, ())))) (some (([] : List Int), false, ()))) (some (([] : List Int), false, ()))
def E32 (f17 : List Int × Unit → Option (Bool × Unit)) : Env := envL [(17, mkE p17 r17 false f17)]
noncomputable def L32 (f17 : List Int × Unit → Option (Bool × Unit)) : LEnv (densS (muts p32 ++ r32)) := lenv [(0, loopL (R := densS (muts p32 ++ r32)) q32_0 (s32_0 f17))]
theorem e32_0 (f17 : List Int × Unit → Option (Bool × Unit)) (X : Nat → St → Option (densS (muts p32 ++ r32))) (rec K : densS q32_0 → Option (densS (muts p32 ++ r32))) (t : densS q32_0) :
    ev (E32 f17) tab (fun _ => false) (L32 f17) (retK tab p32 r32 Proofs.Try.f32.results.toList) (loopC Proofs.Try.f32 0) (fun i s => cond (Nat.beq i 0) (decK 100 q32_0 s K) (X i s)) (fun s => decK 100 q32_0 s rec) (enc q32_0 t) = s32_0 f17 t rec K := by kernel_rfl
theorem e32 (f17 : List Int × Unit → Option (Bool × Unit)) (a : densS p32) : runF (E32 f17) tab (fun _ => false) p32 r32 Proofs.Try.f32 (L32 f17) a = F32 f17 a := by kernel_rfl
theorem ok32 {f17 : List Int × Unit → Option (Bool × Unit)} (h17 : OK Proofs.Try.prog 17 (mkE p17 r17 false f17)) : OK Proofs.Try.prog 32 (mkE p32 r32 false (F32 f17)) :=
  fn_ok tab_ok (envL_ok (l := [(17, mkE p17 r17 false f17)]) (OKs.cons h17 OKs.nil)) mixed (ann := (fun _ => false)) (L := L32 f17) (fn := Proofs.Try.f32) (c := bodyC Proofs.Try.f32) (ls := [(0, loopC Proofs.Try.f32 0)]) Proofs.Try.func32 (by kernel_rfl) (by kernel_rfl) (by kernel_rfl) (by kernel_rfl)
    (LoopsP.cons q32_0 (s32_0 f17) rfl (e32_0 f17) LoopsP.nil) (e32 f17)
/-! laws.ints -/
def p33 : List SP := [.one (.r .int), .one (.r .int)]
def r33 : List SP := [.one (.bool)]
def q33_0 : List SP := pat 26 0 [(0, .one (.r .int)), (1, .one (.r .int)), (5, .one (.int .i64))]
noncomputable def s33_0 (t1 : List Int × List Int × Int × Unit) (rec K : List Int × List Int × Int × Unit → Option (Bool × Unit)) : Option (Bool × Unit) :=
  cond (decide (t1.2.2.1 < (Int.ofNat (List.length t1.1)))) (rdL t1.1 t1.2.2.1 fun d2 => rdL t1.2.1 t1.2.2.1 fun d3 => cond (!(decide (d2 = d3))) (some (false, ())) (rec (t1.1, t1.2.1, (w64 (t1.2.2.1 + 1)), ()))) (K (t1.1, t1.2.1, t1.2.2.1, ()))
noncomputable def F33 (a : List Int × List Int × Unit) : Option (Bool × Unit) :=
  cond (!(decide ((Int.ofNat (List.length a.1)) = (Int.ofNat (List.length a.2.1))))) (some (false, ())) (iterF (s33_0) fuel (a.1, a.2.1, 0, ()) fun t4 => some (true, ()))
def E33 : Env := envL []
noncomputable def L33 : LEnv (densS (muts p33 ++ r33)) := lenv [(0, loopL (R := densS (muts p33 ++ r33)) q33_0 (s33_0))]
theorem e33_0 (X : Nat → St → Option (densS (muts p33 ++ r33))) (rec K : densS q33_0 → Option (densS (muts p33 ++ r33))) (t : densS q33_0) :
    ev (E33) tab (fun _ => false) (L33) (retK tab p33 r33 Proofs.Try.f33.results.toList) (loopC Proofs.Try.f33 0) (fun i s => cond (Nat.beq i 0) (decK 100 q33_0 s K) (X i s)) (fun s => decK 100 q33_0 s rec) (enc q33_0 t) = s33_0 t rec K := by kernel_rfl
theorem e33 (a : densS p33) : runF (E33) tab (fun _ => false) p33 r33 Proofs.Try.f33 (L33) a = F33 a := by kernel_rfl
theorem ok33 : OK Proofs.Try.prog 33 (mkE p33 r33 false (F33)) :=
  fn_ok tab_ok (envL_ok (l := []) OKs.nil) mixed (ann := (fun _ => false)) (L := L33) (fn := Proofs.Try.f33) (c := bodyC Proofs.Try.f33) (ls := [(0, loopC Proofs.Try.f33 0)]) Proofs.Try.func33 (by kernel_rfl) (by kernel_rfl) (by kernel_rfl) (by kernel_rfl)
    (LoopsP.cons q33_0 (s33_0) rfl (e33_0) LoopsP.nil) (e33)
/-! laws.FnBlocks -/
def p8 : List SP := [.one (.r .u8)]
def r8 : List SP := [.one (.bool)]
def q8_0 : List SP := pat 87 0 [(3, .one (.o 5000001 .int)), (7, .one (.o 5000002 .int)), (8, .one (.bool)), (10, .one (.bool)), (11, .one (.int .i64))]
noncomputable def s8_0 (f29 : List Int × Unit → Option (Bool × Unit)) (f30 : List Int × Unit → Option (List Int × Unit)) (f31 : List Int × Unit → Option (List Block × Unit)) (f32 : List Block × Int × Unit → Option (List Int × Bool × Unit)) (f33 : List Int × List Int × Unit → Option (Bool × Unit)) (t8 : List Int × List Int × Bool × Bool × Int × Unit) (rec K : List Int × List Int × Bool × Bool × Int × Unit → Option (Bool × Unit)) : Option (Bool × Unit) :=
  cond t8.2.2.1 (cond (decide (t8.2.2.2.2.1 < (Int.ofNat (List.length t8.2.1)))) (rdL t8.2.1 t8.2.2.2.2.1 fun _ => (t8.2.1[(Int.toNat t8.2.2.2.2.1)]?).bind fun d9 => rdL t8.1 (w64 ((Int.ofNat (List.length t8.1)) - 1)) fun _ => (t8.1[(Int.toNat (w64 ((Int.ofNat (List.length t8.1)) - 1)))]?).bind fun d10 => cond (!(decide (d9 = d10))) (some (false, ())) (rec (t8.1, t8.2.1, t8.2.2.1, t8.2.2.2.1, (w64 (t8.2.2.2.2.1 + 1)), ()))) (K (t8.1, t8.2.1, t8.2.2.1, t8.2.2.2.1, t8.2.2.2.2.1, ()))) (K (t8.1, t8.2.1, t8.2.2.1, t8.2.2.2.1, t8.2.2.2.2.1, ()))
noncomputable def F8 (f29 : List Int × Unit → Option (Bool × Unit)) (f30 : List Int × Unit → Option (List Int × Unit)) (f31 : List Int × Unit → Option (List Block × Unit)) (f32 : List Block × Int × Unit → Option (List Int × Bool × Unit)) (f33 : List Int × List Int × Unit → Option (Bool × Unit)) (a : List Int × Unit) : Option (Bool × Unit) :=
  (f29 (a.1, ())).bind fun x1 => cond x1.1 (some (true, ())) ((f30 (a.1, ())).bind fun x2 => (f31 (x2.1, ())).bind fun x3 => (f32 (x3.1, (Int.ofNat (List.length x2.1)), ())).bind fun x4 => cond (!(!x4.2.1)) ((f33 (x4.1, x2.1, ())).bind fun x5 => cond (!(!x5.1)) (cond (!(decide ((Int.ofNat (List.length x3.1)) = (w64 (Int.tdiv (w64 ((w64 ((Int.ofNat (List.length x2.1)) + 8)) - 1)) 8))))) (some (false, ())) ((f32 (x3.1, (w64 (8 * (Int.ofNat (List.length x3.1)))), ())).bind fun x6 => (f32 (x3.1, (w64 ((w64 (8 * (Int.ofNat (List.length x3.1)))) + 1)), ())).bind fun x7 => iterF (s8_0 f29 f30 f31 f32 f33) fuel (x2.1, x6.1, x6.2.1, x7.2.1, (Int.ofNat (List.length x2.1)), ()) fun t11 => cond t11.2.2.1 (some ((!t11.2.2.2.1), ())) (some (false, ())))) (some (false, ()))) (some (false, ())))
def E8 (f29 : List Int × Unit → Option (Bool × Unit)) (f30 : List Int × Unit → Option (List Int × Unit)) (f31 : List Int × Unit → Option (List Block × Unit)) (f32 : List Block × Int × Unit → Option (List Int × Bool × Unit)) (f33 : List Int × List Int × Unit → Option (Bool × Unit)) : Env := envL [(29, mkE p29 r29 false f29), (30, mkE p30 r30 false f30), (31, mkE p31 r31 false f31), (32, mkE p32 r32 false f32), (33, mkE p33 r33 false f33)]
noncomputable def L8 (f29 : List Int × Unit → Option (Bool × Unit)) (f30 : List Int × Unit → Option (List Int × Unit)) (f31 : List Int × Unit → Option (List Block × Unit)) (f32 : List Block × Int × Unit → Option (List Int × Bool × Unit)) (f33 : List Int × List Int × Unit → Option (Bool × Unit)) : LEnv (densS (muts p8 ++ r8)) := lenv [(0, loopL (R := densS (muts p8 ++ r8)) q8_0 (s8_0 f29 f30 f31 f32 f33))]
theorem e8_0 (f29 : List Int × Unit → Option (Bool × Unit)) (f30 : List Int × Unit → Option (List Int × Unit)) (f31 : List Int × Unit → Option (List Block × Unit)) (f32 : List Block × Int × Unit → Option (List Int × Bool × Unit)) (f33 : List Int × List Int × Unit → Option (Bool × Unit)) (X : Nat → St → Option (densS (muts p8 ++ r8))) (rec K : densS q8_0 → Option (densS (muts p8 ++ r8))) (t : densS q8_0) :
    ev (E8 f29 f30 f31 f32 f33) tab (fun _ => false) (L8 f29 f30 f31 f32 f33) (retK tab p8 r8 Proofs.Try.f8.results.toList) (loopC Proofs.Try.f8 0) (fun i s => cond (Nat.beq i 0) (decK 100 q8_0 s K) (X i s)) (fun s => decK 100 q8_0 s rec) (enc q8_0 t) = s8_0 f29 f30 f31 f32 f33 t rec K := by kernel_rfl
theorem e8 (f29 : List Int × Unit → Option (Bool × Unit)) (f30 : List Int × Unit → Option (List Int × Unit)) (f31 : List Int × Unit → Option (List Block × Unit)) (f32 : List Block × Int × Unit → Option (List Int × Bool × Unit)) (f33 : List Int × List Int × Unit → Option (Bool × Unit)) (a : densS p8) : runF (E8 f29 f30 f31 f32 f33) tab (fun _ => false) p8 r8 Proofs.Try.f8 (L8 f29 f30 f31 f32 f33) a = F8 f29 f30 f31 f32 f33 a := by kernel_rfl
theorem ok8 {f29 : List Int × Unit → Option (Bool × Unit)} {f30 : List Int × Unit → Option (List Int × Unit)} {f31 : List Int × Unit → Option (List Block × Unit)} {f32 : List Block × Int × Unit → Option (List Int × Bool × Unit)} {f33 : List Int × List Int × Unit → Option (Bool × Unit)} (h29 : OK Proofs.Try.prog 29 (mkE p29 r29 false f29)) (h30 : OK Proofs.Try.prog 30 (mkE p30 r30 false f30)) (h31 : OK Proofs.Try.prog 31 (mkE p31 r31 false f31)) (h32 : OK Proofs.Try.prog 32 (mkE p32 r32 false f32)) (h33 : OK Proofs.Try.prog 33 (mkE p33 r33 false f33)) : OK Proofs.Try.prog 8 (mkE p8 r8 false (F8 f29 f30 f31 f32 f33)) :=
  fn_ok tab_ok (envL_ok (l := [(29, mkE p29 r29 false f29), (30, mkE p30 r30 false f30), (31, mkE p31 r31 false f31), (32, mkE p32 r32 false f32), (33, mkE p33 r33 false f33)]) (OKs.cons h29 (OKs.cons h30 (OKs.cons h31 (OKs.cons h32 (OKs.cons h33 OKs.nil)))))) mixed (ann := (fun _ => false)) (L := L8 f29 f30 f31 f32 f33) (fn := Proofs.Try.f8) (c := bodyC Proofs.Try.f8) (ls := [(0, loopC Proofs.Try.f8 0)]) Proofs.Try.func8 (by kernel_rfl) (by kernel_rfl) (by kernel_rfl) (by kernel_rfl)
    (LoopsP.cons q8_0 (s8_0 f29 f30 f31 f32 f33) rfl (e8_0 f29 f30 f31 f32 f33) LoopsP.nil) (e8 f29 f30 f31 f32 f33)
end Ev
