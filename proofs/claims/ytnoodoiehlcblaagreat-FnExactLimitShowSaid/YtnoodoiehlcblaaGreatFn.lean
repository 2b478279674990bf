/- Functions of the program, as the evaluator sees them. -/
import Derived.Test.YtnoodoiehlcblaaGreatPatA
set_option linter.unusedVariables false
set_option maxRecDepth 100000
namespace Ev
open Go
def tab : Tab := [(3, ⟨1, false, 8, [.int .i64 0], [], .int .i64, false⟩),
  (5, ⟨1, false, 1, [.int .u8 0], [], .int .u8, false⟩),
  (9, ⟨1, false, 16, [.str []], [], .str, false⟩),
  (30, ⟨1, false, 24, [.nils], [], .sl .device, false⟩),
  (31, ⟨1, false, 24, [.nils], [], .sl .cue, false⟩),
  (32, ⟨1, false, 24, [.nils], [], .sl .gust, false⟩),
  (34, ⟨4, true, 80, [.nils, .nils, .nils, .int .i64 0], [(0, 1, false), (1, 1, false), (2, 1, false), (3, 1, false)], .struct, false⟩),
  (48, ⟨2, true, 16, [.int .i64 0, .int .i64 0], [(0, 1, false), (1, 1, false)], .struct, false⟩),
  (76, ⟨1, false, 24, [.nils], [], .sl .throw, false⟩),
  (79, ⟨5, true, 40, [.int .i64 0, .int .i64 0, .int .i64 0, .int .i64 0, .int .i64 0], [(0, 2, true), (2, 1, false), (3, 1, false), (4, 1, false)], .struct, false⟩),
  (81, ⟨7, true, 64, [.str [], .int .i64 0, .int .i64 0, .int .i64 0, .int .i64 0, .int .i64 0, .int .i64 0], [(0, 1, false), (1, 1, false), (2, 5, true)], .struct, false⟩),
  (89, ⟨1, false, 24, [.nils], [], .sl .throw, false⟩),
  (92, ⟨7, true, 64, [.str [], .int .i64 0, .int .i64 0, .int .i64 0, .int .i64 0, .int .i64 0, .int .i64 0], [(0, 1, false), (1, 1, false), (2, 5, true)], .struct, false⟩),
  (116, ⟨3, true, 24, [.int .i64 0, .int .i64 0, .int .i64 0], [(0, 1, false), (1, 2, true)], .struct, false⟩),
  (120, ⟨8, true, 80, [.str [], .int .i64 0, .str [], .int .i64 0, .int .i64 0, .int .i64 0, .int .i64 0, .int .i64 0], [(0, 1, false), (1, 1, false), (2, 1, false), (3, 2, true), (5, 1, false), (6, 1, false), (7, 1, false)], .struct, true⟩),
  (132, ⟨1, false, 24, [.nils], [], .sl .int, false⟩),
  (142, ⟨4, true, 40, [.int .i64 0, .str [], .int .i64 0, .int .i64 0], [(0, 1, false), (1, 1, false), (2, 1, false), (3, 1, false)], .struct, false⟩)]
theorem tab_ok : TabOK Proofs.Tryz.prog tab := tab_of2 (by kernel_rfl) (by kernel_rfl)
theorem mixed : Proofs.Tryz.prog.follows .mixedOrders = true := by kernel_rfl
/-! spec.l1In -/
def p95 : List SP := [.one (.int .i64), .one (.int .i64), .one (.int .i64)]
def r95 : List SP := [.one (.bool)]
noncomputable def F95 (a : Int × Int × Int × Unit) : Option (Bool × Unit) :=
  cond (decide (a.1 ≥ a.2.1)) (some ((decide (a.1 ≤ a.2.2.1)), ())) (some (false, ()))
def E95 : Env := envL []
noncomputable def L95 : LEnv (densS (muts p95 ++ r95)) := lenv []
theorem e95 (a : densS p95) : runF (E95) tab (fun _ => false) p95 r95 Proofs.Tryz.f95 (L95) a = F95 a := by kernel_rfl
theorem ok95 : OK Proofs.Tryz.prog 95 (mkE p95 r95 false (F95)) :=
  fn_ok tab_ok (envL_ok (l := []) OKs.nil) mixed (ann := (fun _ => false)) (L := L95) (fn := Proofs.Tryz.f95) (c := bodyC Proofs.Tryz.f95) (ls := []) Proofs.Tryz.func95 (by kernel_rfl) (by kernel_rfl) (by kernel_rfl) (by kernel_rfl)
    LoopsP.nil (e95)
/-! spec.IsMeasure -/
def p154 : List SP := [.one (.int .i64)]
def r154 : List SP := [.one (.bool)]
noncomputable def F154 (a : Int × Unit) : Option (Bool × Unit) :=
  cond (decide (a.1 ≥ (-4096))) (some ((decide (a.1 ≤ 4096)), ())) (some (false, ()))
def E154 : Env := envL []
noncomputable def L154 : LEnv (densS (muts p154 ++ r154)) := lenv []
theorem e154 (a : densS p154) : runF (E154) tab (fun _ => false) p154 r154 Proofs.Tryz.f154 (L154) a = F154 a := by kernel_rfl
theorem ok154 : OK Proofs.Tryz.prog 154 (mkE p154 r154 false (F154)) :=
  fn_ok tab_ok (envL_ok (l := []) OKs.nil) mixed (ann := (fun _ => false)) (L := L154) (fn := Proofs.Tryz.f154) (c := bodyC Proofs.Tryz.f154) (ls := []) Proofs.Tryz.func154 (by kernel_rfl) (by kernel_rfl) (by kernel_rfl) (by kernel_rfl)
    LoopsP.nil (e154)
/-! spec.l1Floor -/
def p186 : List SP := [.one (.int .i64), .one (.int .i64)]
def r186 : List SP := [.one (.int .i64)]
noncomputable def F186 (a : Int × Int × Unit) : Option (Int × Unit) :=
  cond (decide (a.2.1 = 0)) none (cond (decide (a.2.1 = 0)) none (cond (decide ((Int.tmod a.1 a.2.1) < 0)) (some ((w64 ((w64 (Int.tdiv a.1 a.2.1)) - 1)), ())) (some ((w64 (Int.tdiv a.1 a.2.1)), ()))))
def E186 : Env := envL []
noncomputable def L186 : LEnv (densS (muts p186 ++ r186)) := lenv []
theorem e186 (a : densS p186) : runF (E186) tab (fun _ => false) p186 r186 Proofs.Tryz.f186 (L186) a = F186 a := by kernel_rfl
theorem ok186 : OK Proofs.Tryz.prog 186 (mkE p186 r186 false (F186)) :=
  fn_ok tab_ok (envL_ok (l := []) OKs.nil) mixed (ann := (fun _ => false)) (L := L186) (fn := Proofs.Tryz.f186) (c := bodyC Proofs.Tryz.f186) (ls := []) Proofs.Tryz.func186 (by kernel_rfl) (by kernel_rfl) (by kernel_rfl) (by kernel_rfl)
    LoopsP.nil (e186)
/-! spec.RampAt -/
def p171 : List SP := [.one (.int .i64), .one (.int .i64), .one (.int .i64), .one (.int .i64)]
def r171 : List SP := [.one (.int .i64)]
noncomputable def F171 (f154 : Int × Unit → Option (Bool × Unit)) (f186 : Int × Int × Unit → Option (Int × Unit)) (a : Int × Int × Int × Int × Unit) : Option (Int × Unit) :=
  (f154 (a.1, ())).bind fun x1 => cond (!(!x1.1)) ((f154 (a.2.1, ())).bind fun x2 => cond (!x2.1) (some (0, ())) (cond (decide (a.2.2.1 ≥ a.2.2.2.1)) (some (a.2.1, ())) (cond (!(decide (a.2.2.1 ≤ 0))) (cond (decide (a.2.2.2.1 > 999)) (some (a.1, ())) ((f186 ((w64 ((w64 (a.2.1 - a.1)) * a.2.2.1)), a.2.2.2.1, ())).bind fun x3 => some ((w64 (a.1 + x3.1)), ()))) (some (a.1, ()))))) (some (0, ()))
def E171 (f154 : Int × Unit → Option (Bool × Unit)) (f186 : Int × Int × Unit → Option (Int × Unit)) : Env := envL [(154, mkE p154 r154 false f154), (186, mkE p186 r186 false f186)]
noncomputable def L171 (f154 : Int × Unit → Option (Bool × Unit)) (f186 : Int × Int × Unit → Option (Int × Unit)) : LEnv (densS (muts p171 ++ r171)) := lenv []
theorem e171 (f154 : Int × Unit → Option (Bool × Unit)) (f186 : Int × Int × Unit → Option (Int × Unit)) (a : densS p171) : runF (E171 f154 f186) tab (fun _ => false) p171 r171 Proofs.Tryz.f171 (L171 f154 f186) a = F171 f154 f186 a := by kernel_rfl
theorem ok171 {f154 : Int × Unit → Option (Bool × Unit)} {f186 : Int × Int × Unit → Option (Int × Unit)} (h154 : OK Proofs.Tryz.prog 154 (mkE p154 r154 false f154)) (h186 : OK Proofs.Tryz.prog 186 (mkE p186 r186 false f186)) : OK Proofs.Tryz.prog 171 (mkE p171 r171 false (F171 f154 f186)) :=
  fn_ok tab_ok (envL_ok (l := [(154, mkE p154 r154 false f154), (186, mkE p186 r186 false f186)]) (OKs.cons h154 (OKs.cons h186 OKs.nil))) mixed (ann := (fun _ => false)) (L := L171 f154 f186) (fn := Proofs.Tryz.f171) (c := bodyC Proofs.Tryz.f171) (ls := []) Proofs.Tryz.func171 (by kernel_rfl) (by kernel_rfl) (by kernel_rfl) (by kernel_rfl)
    LoopsP.nil (e171 f154 f186)
/-! spec.l7Level -/
def p145 : List SP := [.one (.r .cue), .one (.str), .one (.int .i64)]
def r145 : List SP := [.one (.int .i64)]
def q145_0 : List SP := pat 51 0 [(1, .one (.str)), (2, .one (.int .i64)), (7, .one (.int .i64)), (8, .boxt 5000001 .cue), (12, .one (.r .cue)), (13, .one (.int .i64)), (14, .one (.int .i64))]
noncomputable def s145_0 (f171 : Int × Int × Int × Int × Unit → Option (Int × Unit)) (t1 : Str × Int × Int × Cue × List Cue × Int × Int × Unit) (rec K : Str × Int × Int × Cue × List Cue × Int × Int × Unit → Option (Int × Unit)) : Option (Int × Unit) :=
  cond (decide (t1.2.2.2.2.2.2.1 < t1.2.2.2.2.2.1)) (rdL t1.2.2.2.2.1 t1.2.2.2.2.2.2.1 fun d2 => cond (decide (d2.Name = t1.1)) (cond (decide (d2.Tick ≤ t1.2.1)) ((f171 (t1.2.2.1, t1.2.2.2.1.Level, (w64 (d2.Tick - t1.2.2.2.1.Tick)), t1.2.2.2.1.Ramp, ())).bind fun x3 => rec (t1.1, t1.2.1, x3.1, d2, t1.2.2.2.2.1, t1.2.2.2.2.2.1, (w64 (t1.2.2.2.2.2.2.1 + 1)), ())) (rec (t1.1, t1.2.1, t1.2.2.1, t1.2.2.2.1, t1.2.2.2.2.1, t1.2.2.2.2.2.1, (w64 (t1.2.2.2.2.2.2.1 + 1)), ()))) (rec (t1.1, t1.2.1, t1.2.2.1, t1.2.2.2.1, t1.2.2.2.2.1, t1.2.2.2.2.2.1, (w64 (t1.2.2.2.2.2.2.1 + 1)), ()))) (K (t1.1, t1.2.1, t1.2.2.1, t1.2.2.2.1, t1.2.2.2.2.1, t1.2.2.2.2.2.1, t1.2.2.2.2.2.2.1, ()))
noncomputable def F145 (f171 : Int × Int × Int × Int × Unit → Option (Int × Unit)) (a : List Cue × Str × Int × Unit) : Option (Int × Unit) :=
  iterF (s145_0 f171) fuel (a.2.1, a.2.2.1, 0, (⟨0, [], 0, 0⟩ : Cue), a.1, (Int.ofNat (List.length a.1)), 0, ()) fun t4 => (f171 (t4.2.2.1, t4.2.2.2.1.Level, (w64 (t4.2.1 - t4.2.2.2.1.Tick)), t4.2.2.2.1.Ramp, ())).bind fun x5 => some (x5.1, ())
def E145 (f171 : Int × Int × Int × Int × Unit → Option (Int × Unit)) : Env := envL [(171, mkE p171 r171 false f171)]
noncomputable def L145 (f171 : Int × Int × Int × Int × Unit → Option (Int × Unit)) : LEnv (densS (muts p145 ++ r145)) := lenv [(0, loopL (R := densS (muts p145 ++ r145)) q145_0 (s145_0 f171))]
theorem e145_0 (f171 : Int × Int × Int × Int × Unit → Option (Int × Unit)) (X : Nat → St → Option (densS (muts p145 ++ r145))) (rec K : densS q145_0 → Option (densS (muts p145 ++ r145))) (t : densS q145_0) :
    ev (E145 f171) tab (fun _ => false) (L145 f171) (retK tab p145 r145 Proofs.Tryz.f145.results.toList) (loopC Proofs.Tryz.f145 0) (fun i s => cond (Nat.beq i 0) (decK 100 q145_0 s K) (X i s)) (fun s => decK 100 q145_0 s rec) (enc q145_0 t) = s145_0 f171 t rec K := by kernel_rfl
theorem e145 (f171 : Int × Int × Int × Int × Unit → Option (Int × Unit)) (a : densS p145) : runF (E145 f171) tab (fun _ => false) p145 r145 Proofs.Tryz.f145 (L145 f171) a = F145 f171 a := by kernel_rfl
theorem ok145 {f171 : Int × Int × Int × Int × Unit → Option (Int × Unit)} (h171 : OK Proofs.Tryz.prog 171 (mkE p171 r171 false f171)) : OK Proofs.Tryz.prog 145 (mkE p145 r145 false (F145 f171)) :=
  fn_ok tab_ok (envL_ok (l := [(171, mkE p171 r171 false f171)]) (OKs.cons h171 OKs.nil)) mixed (ann := (fun _ => false)) (L := L145 f171) (fn := Proofs.Tryz.f145) (c := bodyC Proofs.Tryz.f145) (ls := [(0, loopC Proofs.Tryz.f145 0)]) Proofs.Tryz.func145 (by kernel_rfl) (by kernel_rfl) (by kernel_rfl) (by kernel_rfl)
    (LoopsP.cons q145_0 (s145_0 f171) rfl (e145_0 f171) LoopsP.nil) (e145 f171)
/-! spec.l1Min -/
def p123 : List SP := [.one (.int .i64), .one (.int .i64)]
def r123 : List SP := [.one (.int .i64)]
noncomputable def F123 (a : Int × Int × Unit) : Option (Int × Unit) :=
  cond (decide (a.1 < a.2.1)) (some (a.1, ())) (some (a.2.1, ()))
def E123 : Env := envL []
noncomputable def L123 : LEnv (densS (muts p123 ++ r123)) := lenv []
theorem e123 (a : densS p123) : runF (E123) tab (fun _ => false) p123 r123 Proofs.Tryz.f123 (L123) a = F123 a := by kernel_rfl
theorem ok123 : OK Proofs.Tryz.prog 123 (mkE p123 r123 false (F123)) :=
  fn_ok tab_ok (envL_ok (l := []) OKs.nil) mixed (ann := (fun _ => false)) (L := L123) (fn := Proofs.Tryz.f123) (c := bodyC Proofs.Tryz.f123) (ls := []) Proofs.Tryz.func123 (by kernel_rfl) (by kernel_rfl) (by kernel_rfl) (by kernel_rfl)
    LoopsP.nil (e123)
/-! spec.IsDemands -/
def p172 : List SP := [.one (.r .int)]
def r172 : List SP := [.one (.bool)]
def q172_0 : List SP := pat 18 0 [(0, .one (.r .int)), (5, .one (.r .int)), (6, .one (.int .i64)), (7, .one (.int .i64))]
noncomputable def s172_0 (f95 : Int × Int × Int × Unit → Option (Bool × Unit)) (t1 : List Int × List Int × Int × Int × Unit) (rec K : List Int × List Int × Int × Int × Unit → Option (Bool × Unit)) : Option (Bool × Unit) :=
  cond (decide (t1.2.2.2.1 < t1.2.2.1)) (rdL t1.2.1 t1.2.2.2.1 fun d2 => (f95 (d2, 0, 64, ())).bind fun x3 => cond (!x3.1) (some (false, ())) (rec (t1.1, t1.2.1, t1.2.2.1, (w64 (t1.2.2.2.1 + 1)), ()))) (K (t1.1, t1.2.1, t1.2.2.1, t1.2.2.2.1, ()))
noncomputable def F172 (f95 : Int × Int × Int × Unit → Option (Bool × Unit)) (a : List Int × Unit) : Option (Bool × Unit) :=
  iterF (s172_0 f95) fuel (a.1, a.1, (Int.ofNat (List.length a.1)), 0, ()) fun t4 => some ((decide ((Int.ofNat (List.length t4.1)) ≤ 8)), ())
def E172 (f95 : Int × Int × Int × Unit → Option (Bool × Unit)) : Env := envL [(95, mkE p95 r95 false f95)]
noncomputable def L172 (f95 : Int × Int × Int × Unit → Option (Bool × Unit)) : LEnv (densS (muts p172 ++ r172)) := lenv [(0, loopL (R := densS (muts p172 ++ r172)) q172_0 (s172_0 f95))]
theorem e172_0 (f95 : Int × Int × Int × Unit → Option (Bool × Unit)) (X : Nat → St → Option (densS (muts p172 ++ r172))) (rec K : densS q172_0 → Option (densS (muts p172 ++ r172))) (t : densS q172_0) :
    ev (E172 f95) tab (fun _ => false) (L172 f95) (retK tab p172 r172 Proofs.Tryz.f172.results.toList) (loopC Proofs.Tryz.f172 0) (fun i s => cond (Nat.beq i 0) (decK 100 q172_0 s K) (X i s)) (fun s => decK 100 q172_0 s rec) (enc q172_0 t) = s172_0 f95 t rec K := by kernel_rfl
theorem e172 (f95 : Int × Int × Int × Unit → Option (Bool × Unit)) (a : densS p172) : runF (E172 f95) tab (fun _ => false) p172 r172 Proofs.Tryz.f172 (L172 f95) a = F172 f95 a := by kernel_rfl
theorem ok172 {f95 : Int × Int × Int × Unit → Option (Bool × Unit)} (h95 : OK Proofs.Tryz.prog 95 (mkE p95 r95 false f95)) : OK Proofs.Tryz.prog 172 (mkE p172 r172 false (F172 f95)) :=
  fn_ok tab_ok (envL_ok (l := [(95, mkE p95 r95 false f95)]) (OKs.cons h95 OKs.nil)) mixed (ann := (fun _ => false)) (L := L172 f95) (fn := Proofs.Tryz.f172) (c := bodyC Proofs.Tryz.f172) (ls := [(0, loopC Proofs.Tryz.f172 0)]) Proofs.Tryz.func172 (by kernel_rfl) (by kernel_rfl) (by kernel_rfl) (by kernel_rfl)
    (LoopsP.cons q172_0 (s172_0 f95) rfl (e172_0 f95) LoopsP.nil) (e172 f95)
/-! spec.l5Supply -/
def p166 : List SP := [.one (.int .i64)]
def r166 : List SP := [.one (.bool)]
noncomputable def F166 (f95 : Int × Int × Int × Unit → Option (Bool × Unit)) (a : Int × Unit) : Option (Bool × Unit) :=
  (f95 (a.1, 0, 512, ())).bind fun x1 => some (x1.1, ())
def E166 (f95 : Int × Int × Int × Unit → Option (Bool × Unit)) : Env := envL [(95, mkE p95 r95 false f95)]
noncomputable def L166 (f95 : Int × Int × Int × Unit → Option (Bool × Unit)) : LEnv (densS (muts p166 ++ r166)) := lenv []
theorem e166 (f95 : Int × Int × Int × Unit → Option (Bool × Unit)) (a : densS p166) : runF (E166 f95) tab (fun _ => false) p166 r166 Proofs.Tryz.f166 (L166 f95) a = F166 f95 a := by kernel_rfl
theorem ok166 {f95 : Int × Int × Int × Unit → Option (Bool × Unit)} (h95 : OK Proofs.Tryz.prog 95 (mkE p95 r95 false f95)) : OK Proofs.Tryz.prog 166 (mkE p166 r166 false (F166 f95)) :=
  fn_ok tab_ok (envL_ok (l := [(95, mkE p95 r95 false f95)]) (OKs.cons h95 OKs.nil)) mixed (ann := (fun _ => false)) (L := L166 f95) (fn := Proofs.Tryz.f166) (c := bodyC Proofs.Tryz.f166) (ls := []) Proofs.Tryz.func166 (by kernel_rfl) (by kernel_rfl) (by kernel_rfl) (by kernel_rfl)
    LoopsP.nil (e166 f95)
/-! spec.l5Cut -/
def p174 : List SP := [.one (.r .int), .one (.int .i64)]
def r174 : List SP := [.one (.o 0 .int)]
def q174_0 : List SP := pat 23 0 [(1, .one (.int .i64)), (5, .one (.o 5000001 .int)), (9, .one (.r .int)), (10, .one (.int .i64)), (11, .one (.int .i64))]
noncomputable def s174_0 (f123 : Int × Int × Unit → Option (Int × Unit)) (t1 : Int × List Int × List Int × Int × Int × Unit) (rec K : Int × List Int × List Int × Int × Int × Unit → Option (List Int × Unit)) : Option (List Int × Unit) :=
  cond (decide (t1.2.2.2.2.1 < t1.2.2.2.1)) (rdL t1.2.2.1 t1.2.2.2.2.1 fun d2 => (f123 (d2, t1.1, ())).bind fun x3 => capK (List.length t1.2.1 + List.length ([x3.1] : List Int)) (rec (t1.1, (t1.2.1 ++ ([x3.1] : List Int)), t1.2.2.1, t1.2.2.2.1, (w64 (t1.2.2.2.2.1 + 1)), ()))) (K (t1.1, t1.2.1, t1.2.2.1, t1.2.2.2.1, t1.2.2.2.2.1, ()))
noncomputable def F174 (f123 : Int × Int × Unit → Option (Int × Unit)) (a : List Int × Int × Unit) : Option (List Int × Unit) :=
  iterF (s174_0 f123) fuel (a.2.1, ([] : List Int), a.1, (Int.ofNat (List.length a.1)), 0, ()) fun t4 => some (t4.2.1, ())
def E174 (f123 : Int × Int × Unit → Option (Int × Unit)) : Env := envL [(123, mkE p123 r123 false f123)]
noncomputable def L174 (f123 : Int × Int × Unit → Option (Int × Unit)) : LEnv (densS (muts p174 ++ r174)) := lenv [(0, loopL (R := densS (muts p174 ++ r174)) q174_0 (s174_0 f123))]
theorem e174_0 (f123 : Int × Int × Unit → Option (Int × Unit)) (X : Nat → St → Option (densS (muts p174 ++ r174))) (rec K : densS q174_0 → Option (densS (muts p174 ++ r174))) (t : densS q174_0) :
    ev (E174 f123) tab (fun _ => false) (L174 f123) (retK tab p174 r174 Proofs.Tryz.f174.results.toList) (loopC Proofs.Tryz.f174 0) (fun i s => cond (Nat.beq i 0) (decK 100 q174_0 s K) (X i s)) (fun s => decK 100 q174_0 s rec) (enc q174_0 t) = s174_0 f123 t rec K := by kernel_rfl
theorem e174 (f123 : Int × Int × Unit → Option (Int × Unit)) (a : densS p174) : runF (E174 f123) tab (fun _ => false) p174 r174 Proofs.Tryz.f174 (L174 f123) a = F174 f123 a := by kernel_rfl
theorem ok174 {f123 : Int × Int × Unit → Option (Int × Unit)} (h123 : OK Proofs.Tryz.prog 123 (mkE p123 r123 false f123)) : OK Proofs.Tryz.prog 174 (mkE p174 r174 false (F174 f123)) :=
  fn_ok tab_ok (envL_ok (l := [(123, mkE p123 r123 false f123)]) (OKs.cons h123 OKs.nil)) mixed (ann := (fun _ => false)) (L := L174 f123) (fn := Proofs.Tryz.f174) (c := bodyC Proofs.Tryz.f174) (ls := [(0, loopC Proofs.Tryz.f174 0)]) Proofs.Tryz.func174 (by kernel_rfl) (by kernel_rfl) (by kernel_rfl) (by kernel_rfl)
    (LoopsP.cons q174_0 (s174_0 f123) rfl (e174_0 f123) LoopsP.nil) (e174 f123)
/-! spec.l5Sum -/
def p175 : List SP := [.one (.r .int)]
def r175 : List SP := [.one (.int .i64)]
def q175_0 : List SP := pat 17 0 [(3, .one (.int .i64)), (6, .one (.r .int)), (7, .one (.int .i64)), (8, .one (.int .i64))]
noncomputable def s175_0 (t1 : Int × List Int × Int × Int × Unit) (rec K : Int × List Int × Int × Int × Unit → Option (Int × Unit)) : Option (Int × Unit) :=
  cond (decide (t1.2.2.2.1 < t1.2.2.1)) (rdL t1.2.1 t1.2.2.2.1 fun d2 => rec ((w64 (t1.1 + d2)), t1.2.1, t1.2.2.1, (w64 (t1.2.2.2.1 + 1)), ())) (K (t1.1, t1.2.1, t1.2.2.1, t1.2.2.2.1, ()))
noncomputable def F175 (a : List Int × Unit) : Option (Int × Unit) :=
  iterF (s175_0) fuel (0, a.1, (Int.ofNat (List.length a.1)), 0, ()) fun t3 => some (t3.1, ())
def E175 : Env := envL []
noncomputable def L175 : LEnv (densS (muts p175 ++ r175)) := lenv [(0, loopL (R := densS (muts p175 ++ r175)) q175_0 (s175_0))]
theorem e175_0 (X : Nat → St → Option (densS (muts p175 ++ r175))) (rec K : densS q175_0 → Option (densS (muts p175 ++ r175))) (t : densS q175_0) :
    ev (E175) tab (fun _ => false) (L175) (retK tab p175 r175 Proofs.Tryz.f175.results.toList) (loopC Proofs.Tryz.f175 0) (fun i s => cond (Nat.beq i 0) (decK 100 q175_0 s K) (X i s)) (fun s => decK 100 q175_0 s rec) (enc q175_0 t) = s175_0 t rec K := by kernel_rfl
theorem e175 (a : densS p175) : runF (E175) tab (fun _ => false) p175 r175 Proofs.Tryz.f175 (L175) a = F175 a := by kernel_rfl
theorem ok175 : OK Proofs.Tryz.prog 175 (mkE p175 r175 false (F175)) :=
  fn_ok tab_ok (envL_ok (l := []) OKs.nil) mixed (ann := (fun _ => false)) (L := L175) (fn := Proofs.Tryz.f175) (c := bodyC Proofs.Tryz.f175) (ls := [(0, loopC Proofs.Tryz.f175 0)]) Proofs.Tryz.func175 (by kernel_rfl) (by kernel_rfl) (by kernel_rfl) (by kernel_rfl)
    (LoopsP.cons q175_0 (s175_0) rfl (e175_0) LoopsP.nil) (e175)
/-! spec.LevelFor -/
def p173 : List SP := [.one (.int .i64), .one (.r .int)]
def r173 : List SP := [.one (.int .i64)]
def q173_0 : List SP := pat 27 0 [(0, .one (.int .i64)), (1, .one (.r .int)), (5, .one (.int .i64)), (6, .one (.int .i64))]
noncomputable def s173_0 (f172 : List Int × Unit → Option (Bool × Unit)) (f166 : Int × Unit → Option (Bool × Unit)) (f174 : List Int × Int × Unit → Option (List Int × Unit)) (f175 : List Int × Unit → Option (Int × Unit)) (t1 : Int × List Int × Int × Int × Unit) (rec K : Int × List Int × Int × Int × Unit → Option (Int × Unit)) : Option (Int × Unit) :=
  cond (decide (t1.2.2.2.1 ≤ 64)) ((f172 (t1.2.1, ())).bind fun x2 => cond x2.1 ((f166 (t1.1, ())).bind fun x3 => cond x3.1 ((f174 (t1.2.1, t1.2.2.2.1, ())).bind fun x4 => (f175 (x4.1, ())).bind fun x5 => cond (decide (x5.1 ≤ t1.1)) (rec (t1.1, t1.2.1, t1.2.2.2.1, (w64 (t1.2.2.2.1 + 1)), ())) (rec (t1.1, t1.2.1, t1.2.2.1, (w64 (t1.2.2.2.1 + 1)), ()))) (K (t1.1, t1.2.1, t1.2.2.1, t1.2.2.2.1, ()))) (K (t1.1, t1.2.1, t1.2.2.1, t1.2.2.2.1, ()))) (K (t1.1, t1.2.1, t1.2.2.1, t1.2.2.2.1, ()))
noncomputable def F173 (f172 : List Int × Unit → Option (Bool × Unit)) (f166 : Int × Unit → Option (Bool × Unit)) (f174 : List Int × Int × Unit → Option (List Int × Unit)) (f175 : List Int × Unit → Option (Int × Unit)) (a : Int × List Int × Unit) : Option (Int × Unit) :=
  iterF (s173_0 f172 f166 f174 f175) fuel (a.1, a.2.1, 0, 1, ()) fun t6 => some (t6.2.2.1, ())
def E173 (f172 : List Int × Unit → Option (Bool × Unit)) (f166 : Int × Unit → Option (Bool × Unit)) (f174 : List Int × Int × Unit → Option (List Int × Unit)) (f175 : List Int × Unit → Option (Int × Unit)) : Env := envL [(172, mkE p172 r172 false f172), (166, mkE p166 r166 false f166), (174, mkE p174 r174 false f174), (175, mkE p175 r175 false f175)]
noncomputable def L173 (f172 : List Int × Unit → Option (Bool × Unit)) (f166 : Int × Unit → Option (Bool × Unit)) (f174 : List Int × Int × Unit → Option (List Int × Unit)) (f175 : List Int × Unit → Option (Int × Unit)) : LEnv (densS (muts p173 ++ r173)) := lenv [(0, loopL (R := densS (muts p173 ++ r173)) q173_0 (s173_0 f172 f166 f174 f175))]
theorem e173_0 (f172 : List Int × Unit → Option (Bool × Unit)) (f166 : Int × Unit → Option (Bool × Unit)) (f174 : List Int × Int × Unit → Option (List Int × Unit)) (f175 : List Int × Unit → Option (Int × Unit)) (X : Nat → St → Option (densS (muts p173 ++ r173))) (rec K : densS q173_0 → Option (densS (muts p173 ++ r173))) (t : densS q173_0) :
    ev (E173 f172 f166 f174 f175) tab (fun _ => false) (L173 f172 f166 f174 f175) (retK tab p173 r173 Proofs.Tryz.f173.results.toList) (loopC Proofs.Tryz.f173 0) (fun i s => cond (Nat.beq i 0) (decK 100 q173_0 s K) (X i s)) (fun s => decK 100 q173_0 s rec) (enc q173_0 t) = s173_0 f172 f166 f174 f175 t rec K := by kernel_rfl
theorem e173 (f172 : List Int × Unit → Option (Bool × Unit)) (f166 : Int × Unit → Option (Bool × Unit)) (f174 : List Int × Int × Unit → Option (List Int × Unit)) (f175 : List Int × Unit → Option (Int × Unit)) (a : densS p173) : runF (E173 f172 f166 f174 f175) tab (fun _ => false) p173 r173 Proofs.Tryz.f173 (L173 f172 f166 f174 f175) a = F173 f172 f166 f174 f175 a := by kernel_rfl
theorem ok173 {f172 : List Int × Unit → Option (Bool × Unit)} {f166 : Int × Unit → Option (Bool × Unit)} {f174 : List Int × Int × Unit → Option (List Int × Unit)} {f175 : List Int × Unit → Option (Int × Unit)} (h172 : OK Proofs.Tryz.prog 172 (mkE p172 r172 false f172)) (h166 : OK Proofs.Tryz.prog 166 (mkE p166 r166 false f166)) (h174 : OK Proofs.Tryz.prog 174 (mkE p174 r174 false f174)) (h175 : OK Proofs.Tryz.prog 175 (mkE p175 r175 false f175)) : OK Proofs.Tryz.prog 173 (mkE p173 r173 false (F173 f172 f166 f174 f175)) :=
  fn_ok tab_ok (envL_ok (l := [(172, mkE p172 r172 false f172), (166, mkE p166 r166 false f166), (174, mkE p174 r174 false f174), (175, mkE p175 r175 false f175)]) (OKs.cons h172 (OKs.cons h166 (OKs.cons h174 (OKs.cons h175 OKs.nil))))) mixed (ann := (fun _ => false)) (L := L173 f172 f166 f174 f175) (fn := Proofs.Tryz.f173) (c := bodyC Proofs.Tryz.f173) (ls := [(0, loopC Proofs.Tryz.f173 0)]) Proofs.Tryz.func173 (by kernel_rfl) (by kernel_rfl) (by kernel_rfl) (by kernel_rfl)
    (LoopsP.cons q173_0 (s173_0 f172 f166 f174 f175) rfl (e173_0 f172 f166 f174 f175) LoopsP.nil) (e173 f172 f166 f174 f175)
/-! spec.ShareOut -/
def p146 : List SP := [.one (.int .i64), .one (.r .int)]
def r146 : List SP := [.one (.o 0 .int)]
def q146_0 : List SP := pat 55 0 [(5, .one (.int .i64)), (6, .one (.o 5000001 .int)), (7, .one (.int .i64)), (29, .one (.r .int)), (30, .one (.int .i64)), (31, .one (.int .i64))]
noncomputable def s146_0 (f172 : List Int × Unit → Option (Bool × Unit)) (f166 : Int × Unit → Option (Bool × Unit)) (f173 : Int × List Int × Unit → Option (Int × Unit)) (f174 : List Int × Int × Unit → Option (List Int × Unit)) (f175 : List Int × Unit → Option (Int × Unit)) (t6 : Int × List Int × Int × List Int × Int × Int × Unit) (rec K : Int × List Int × Int × List Int × Int × Int × Unit → Option (List Int × Unit)) : Option (List Int × Unit) :=
  cond (decide (t6.2.2.2.2.2.1 < t6.2.2.2.2.1)) (rdL t6.2.2.2.1 t6.2.2.2.2.2.1 fun d7 => cond (decide (d7 > t6.1)) (cond (decide (t6.2.2.1 > 0)) (rdL t6.2.1 t6.2.2.2.2.2.1 fun _ => (t6.2.1[(Int.toNat t6.2.2.2.2.2.1)]?).bind fun d8 => rdL t6.2.1 t6.2.2.2.2.2.1 fun _ => (t6.2.1[(Int.toNat t6.2.2.2.2.2.1)]?).bind fun d9 => rec (t6.1, (List.set t6.2.1 (Int.toNat t6.2.2.2.2.2.1) (w64 (d8 + 1))), (w64 (t6.2.2.1 - 1)), t6.2.2.2.1, t6.2.2.2.2.1, (w64 (t6.2.2.2.2.2.1 + 1)), ())) (rec (t6.1, t6.2.1, t6.2.2.1, t6.2.2.2.1, t6.2.2.2.2.1, (w64 (t6.2.2.2.2.2.1 + 1)), ()))) (rec (t6.1, t6.2.1, t6.2.2.1, t6.2.2.2.1, t6.2.2.2.2.1, (w64 (t6.2.2.2.2.2.1 + 1)), ()))) (K (t6.1, t6.2.1, t6.2.2.1, t6.2.2.2.1, t6.2.2.2.2.1, t6.2.2.2.2.2.1, ()))
noncomputable def F146 (f172 : List Int × Unit → Option (Bool × Unit)) (f166 : Int × Unit → Option (Bool × Unit)) (f173 : Int × List Int × Unit → Option (Int × Unit)) (f174 : List Int × Int × Unit → Option (List Int × Unit)) (f175 : List Int × Unit → Option (Int × Unit)) (a : Int × List Int × Unit) : Option (List Int × Unit) :=
  (f172 (a.2.1, ())).bind fun x1 => cond (!(!x1.1)) ((f166 (a.1, ())).bind fun x2 => cond (!x2.1) (some (([] : List Int), ())) ((f173 (a.1, a.2.1, ())).bind fun x3 => (f174 (a.2.1, x3.1, ())).bind fun x4 => (f175 (x4.1, ())).bind fun x5 => iterF (s146_0 f172 f166 f173 f174 f175) fuel (x3.1, x4.1, (w64 (a.1 - x5.1)), a.2.1, (Int.ofNat (List.length a.2.1)), 0, ()) fun t10 => some (t10.2.1, ()))) (some (([] : List Int), ()))
def E146 (f172 : List Int × Unit → Option (Bool × Unit)) (f166 : Int × Unit → Option (Bool × Unit)) (f173 : Int × List Int × Unit → Option (Int × Unit)) (f174 : List Int × Int × Unit → Option (List Int × Unit)) (f175 : List Int × Unit → Option (Int × Unit)) : Env := envL [(172, mkE p172 r172 false f172), (166, mkE p166 r166 false f166), (173, mkE p173 r173 false f173), (174, mkE p174 r174 false f174), (175, mkE p175 r175 false f175)]
noncomputable def L146 (f172 : List Int × Unit → Option (Bool × Unit)) (f166 : Int × Unit → Option (Bool × Unit)) (f173 : Int × List Int × Unit → Option (Int × Unit)) (f174 : List Int × Int × Unit → Option (List Int × Unit)) (f175 : List Int × Unit → Option (Int × Unit)) : LEnv (densS (muts p146 ++ r146)) := lenv [(0, loopL (R := densS (muts p146 ++ r146)) q146_0 (s146_0 f172 f166 f173 f174 f175))]
theorem e146_0 (f172 : List Int × Unit → Option (Bool × Unit)) (f166 : Int × Unit → Option (Bool × Unit)) (f173 : Int × List Int × Unit → Option (Int × Unit)) (f174 : List Int × Int × Unit → Option (List Int × Unit)) (f175 : List Int × Unit → Option (Int × Unit)) (X : Nat → St → Option (densS (muts p146 ++ r146))) (rec K : densS q146_0 → Option (densS (muts p146 ++ r146))) (t : densS q146_0) :
    ev (E146 f172 f166 f173 f174 f175) tab (fun _ => false) (L146 f172 f166 f173 f174 f175) (retK tab p146 r146 Proofs.Tryz.f146.results.toList) (loopC Proofs.Tryz.f146 0) (fun i s => cond (Nat.beq i 0) (decK 100 q146_0 s K) (X i s)) (fun s => decK 100 q146_0 s rec) (enc q146_0 t) = s146_0 f172 f166 f173 f174 f175 t rec K := by kernel_rfl
theorem e146 (f172 : List Int × Unit → Option (Bool × Unit)) (f166 : Int × Unit → Option (Bool × Unit)) (f173 : Int × List Int × Unit → Option (Int × Unit)) (f174 : List Int × Int × Unit → Option (List Int × Unit)) (f175 : List Int × Unit → Option (Int × Unit)) (a : densS p146) : runF (E146 f172 f166 f173 f174 f175) tab (fun _ => false) p146 r146 Proofs.Tryz.f146 (L146 f172 f166 f173 f174 f175) a = F146 f172 f166 f173 f174 f175 a := by kernel_rfl
theorem ok146 {f172 : List Int × Unit → Option (Bool × Unit)} {f166 : Int × Unit → Option (Bool × Unit)} {f173 : Int × List Int × Unit → Option (Int × Unit)} {f174 : List Int × Int × Unit → Option (List Int × Unit)} {f175 : List Int × Unit → Option (Int × Unit)} (h172 : OK Proofs.Tryz.prog 172 (mkE p172 r172 false f172)) (h166 : OK Proofs.Tryz.prog 166 (mkE p166 r166 false f166)) (h173 : OK Proofs.Tryz.prog 173 (mkE p173 r173 false f173)) (h174 : OK Proofs.Tryz.prog 174 (mkE p174 r174 false f174)) (h175 : OK Proofs.Tryz.prog 175 (mkE p175 r175 false f175)) : OK Proofs.Tryz.prog 146 (mkE p146 r146 false (F146 f172 f166 f173 f174 f175)) :=
  fn_ok tab_ok (envL_ok (l := [(172, mkE p172 r172 false f172), (166, mkE p166 r166 false f166), (173, mkE p173 r173 false f173), (174, mkE p174 r174 false f174), (175, mkE p175 r175 false f175)]) (OKs.cons h172 (OKs.cons h166 (OKs.cons h173 (OKs.cons h174 (OKs.cons h175 OKs.nil)))))) mixed (ann := (fun _ => false)) (L := L146 f172 f166 f173 f174 f175) (fn := Proofs.Tryz.f146) (c := bodyC Proofs.Tryz.f146) (ls := [(0, loopC Proofs.Tryz.f146 0)]) Proofs.Tryz.func146 (by kernel_rfl) (by kernel_rfl) (by kernel_rfl) (by kernel_rfl)
    (LoopsP.cons q146_0 (s146_0 f172 f166 f173 f174 f175) rfl (e146_0 f172 f166 f173 f174 f175) LoopsP.nil) (e146 f172 f166 f173 f174 f175)
/-! spec.l9Lifts -/
def p96 : List SP := [.agg [.r .device, .r .cue, .r .gust, .int .i64], .one (.int .i64)]
def r96 : List SP := [.one (.o 0 .int)]
def q96_2 : List SP := pat 92 0 [(1, .one (.int .i64)), (2, .box 5002001 [.r .device, .r .cue, .r .gust, .int .i64]), (5, .one (.o 5002002 .int)), (7, .boxt 5002003 .device), (8, .one (.o 5002004 .int)), (9, .one (.o 5002005 .int)), (19, .one (.r .device)), (20, .one (.int .i64)), (21, .one (.int .i64)), (28, .one (.r .device)), (29, .one (.int .i64)), (30, .one (.int .i64))]
noncomputable def s96_2 (f95 : Int × Int × Int × Unit → Option (Bool × Unit)) (f145 : List Cue × Str × Int × Unit → Option (Int × Unit)) (f123 : Int × Int × Unit → Option (Int × Unit)) (f146 : Int × List Int × Unit → Option (List Int × Unit)) (t3 : Int × (List Device × List Cue × List Gust × Int × Unit) × List Int × Device × List Int × List Int × List Device × Int × Int × List Device × Int × Int × Unit) (rec K : Int × (List Device × List Cue × List Gust × Int × Unit) × List Int × Device × List Int × List Int × List Device × Int × Int × List Device × Int × Int × Unit → Option (List Int × Unit)) : Option (List Int × Unit) :=
  cond (decide (t3.2.2.2.2.2.2.2.2.2.2.2.1 < t3.2.2.2.2.2.2.2.2.2.2.1)) (rdL t3.2.2.2.2.2.2.2.2.2.1 t3.2.2.2.2.2.2.2.2.2.2.2.1 fun d4 => cond (decide (d4.Kind = 2)) (cond (decide (d4.Line = t3.2.2.2.1.Name)) ((f95 (t3.1, 0, (w64 (t3.2.1.2.2.2.1 - 1)), ())).bind fun x5 => cond x5.1 ((f145 (t3.2.1.2.1, d4.Name, t3.1, ())).bind fun x6 => (f123 (x6.1, d4.Most, ())).bind fun x7 => capK (List.length t3.2.2.2.2.1 + List.length ([x7.1] : List Int)) (capK (List.length t3.2.2.2.2.2.1 + List.length ([t3.2.2.2.2.2.2.2.2.2.2.2.1] : List Int)) (rec (t3.1, (t3.2.1.1, t3.2.1.2.1, t3.2.1.2.2.1, t3.2.1.2.2.2.1, ()), t3.2.2.1, t3.2.2.2.1, (t3.2.2.2.2.1 ++ ([x7.1] : List Int)), (t3.2.2.2.2.2.1 ++ ([t3.2.2.2.2.2.2.2.2.2.2.2.1] : List Int)), t3.2.2.2.2.2.2.1, t3.2.2.2.2.2.2.2.1, t3.2.2.2.2.2.2.2.2.1, t3.2.2.2.2.2.2.2.2.2.1, t3.2.2.2.2.2.2.2.2.2.2.1, (w64 (t3.2.2.2.2.2.2.2.2.2.2.2.1 + 1)), ())))) (rec (t3.1, (t3.2.1.1, t3.2.1.2.1, t3.2.1.2.2.1, t3.2.1.2.2.2.1, ()), t3.2.2.1, t3.2.2.2.1, t3.2.2.2.2.1, t3.2.2.2.2.2.1, t3.2.2.2.2.2.2.1, t3.2.2.2.2.2.2.2.1, t3.2.2.2.2.2.2.2.2.1, t3.2.2.2.2.2.2.2.2.2.1, t3.2.2.2.2.2.2.2.2.2.2.1, (w64 (t3.2.2.2.2.2.2.2.2.2.2.2.1 + 1)), ()))) (rec (t3.1, (t3.2.1.1, t3.2.1.2.1, t3.2.1.2.2.1, t3.2.1.2.2.2.1, ()), t3.2.2.1, t3.2.2.2.1, t3.2.2.2.2.1, t3.2.2.2.2.2.1, t3.2.2.2.2.2.2.1, t3.2.2.2.2.2.2.2.1, t3.2.2.2.2.2.2.2.2.1, t3.2.2.2.2.2.2.2.2.2.1, t3.2.2.2.2.2.2.2.2.2.2.1, (w64 (t3.2.2.2.2.2.2.2.2.2.2.2.1 + 1)), ()))) (rec (t3.1, (t3.2.1.1, t3.2.1.2.1, t3.2.1.2.2.1, t3.2.1.2.2.2.1, ()), t3.2.2.1, t3.2.2.2.1, t3.2.2.2.2.1, t3.2.2.2.2.2.1, t3.2.2.2.2.2.2.1, t3.2.2.2.2.2.2.2.1, t3.2.2.2.2.2.2.2.2.1, t3.2.2.2.2.2.2.2.2.2.1, t3.2.2.2.2.2.2.2.2.2.2.1, (w64 (t3.2.2.2.2.2.2.2.2.2.2.2.1 + 1)), ()))) (K (t3.1, (t3.2.1.1, t3.2.1.2.1, t3.2.1.2.2.1, t3.2.1.2.2.2.1, ()), t3.2.2.1, t3.2.2.2.1, t3.2.2.2.2.1, t3.2.2.2.2.2.1, t3.2.2.2.2.2.2.1, t3.2.2.2.2.2.2.2.1, t3.2.2.2.2.2.2.2.2.1, t3.2.2.2.2.2.2.2.2.2.1, t3.2.2.2.2.2.2.2.2.2.2.1, t3.2.2.2.2.2.2.2.2.2.2.2.1, ()))
def q96_4 : List SP := pat 92 0 [(1, .one (.int .i64)), (2, .box 5004001 [.r .device, .r .cue, .r .gust, .int .i64]), (5, .one (.o 5004002 .int)), (9, .one (.o 5004003 .int)), (19, .one (.r .device)), (20, .one (.int .i64)), (21, .one (.int .i64)), (75, .one (.o 5004004 .int)), (76, .one (.int .i64)), (77, .one (.int .i64))]
noncomputable def s96_4 (f95 : Int × Int × Int × Unit → Option (Bool × Unit)) (f145 : List Cue × Str × Int × Unit → Option (Int × Unit)) (f123 : Int × Int × Unit → Option (Int × Unit)) (f146 : Int × List Int × Unit → Option (List Int × Unit)) (t10 : Int × (List Device × List Cue × List Gust × Int × Unit) × List Int × List Int × List Device × Int × Int × List Int × Int × Int × Unit) (rec K : Int × (List Device × List Cue × List Gust × Int × Unit) × List Int × List Int × List Device × Int × Int × List Int × Int × Int × Unit → Option (List Int × Unit)) : Option (List Int × Unit) :=
  cond (decide (t10.2.2.2.2.2.2.2.2.2.1 < t10.2.2.2.2.2.2.2.2.1)) (rdL t10.2.2.2.2.2.2.2.1 t10.2.2.2.2.2.2.2.2.2.1 fun _ => (t10.2.2.2.2.2.2.2.1[(Int.toNat t10.2.2.2.2.2.2.2.2.2.1)]?).bind fun d11 => rdL t10.2.2.2.1 t10.2.2.2.2.2.2.2.2.2.1 fun _ => (t10.2.2.2.1[(Int.toNat t10.2.2.2.2.2.2.2.2.2.1)]?).bind fun d12 => rdL t10.2.2.1 d12 fun _ => (t10.2.2.1[(Int.toNat d12)]?).bind fun d13 => rec (t10.1, (t10.2.1.1, t10.2.1.2.1, t10.2.1.2.2.1, t10.2.1.2.2.2.1, ()), (List.set t10.2.2.1 (Int.toNat d12) d11), t10.2.2.2.1, t10.2.2.2.2.1, t10.2.2.2.2.2.1, t10.2.2.2.2.2.2.1, t10.2.2.2.2.2.2.2.1, t10.2.2.2.2.2.2.2.2.1, (w64 (t10.2.2.2.2.2.2.2.2.2.1 + 1)), ())) (K (t10.1, (t10.2.1.1, t10.2.1.2.1, t10.2.1.2.2.1, t10.2.1.2.2.2.1, ()), t10.2.2.1, t10.2.2.2.1, t10.2.2.2.2.1, t10.2.2.2.2.2.1, t10.2.2.2.2.2.2.1, t10.2.2.2.2.2.2.2.1, t10.2.2.2.2.2.2.2.2.1, t10.2.2.2.2.2.2.2.2.2.1, ()))
def q96_0 : List SP := pat 92 0 [(1, .one (.int .i64)), (2, .box 5000001 [.r .device, .r .cue, .r .gust, .int .i64]), (5, .one (.o 5000002 .int)), (19, .one (.r .device)), (20, .one (.int .i64)), (21, .one (.int .i64))]
noncomputable def s96_0 (f95 : Int × Int × Int × Unit → Option (Bool × Unit)) (f145 : List Cue × Str × Int × Unit → Option (Int × Unit)) (f123 : Int × Int × Unit → Option (Int × Unit)) (f146 : Int × List Int × Unit → Option (List Int × Unit)) (t1 : Int × (List Device × List Cue × List Gust × Int × Unit) × List Int × List Device × Int × Int × Unit) (rec K : Int × (List Device × List Cue × List Gust × Int × Unit) × List Int × List Device × Int × Int × Unit → Option (List Int × Unit)) : Option (List Int × Unit) :=
  cond (decide (t1.2.2.2.2.2.1 < t1.2.2.2.2.1)) (rdL t1.2.2.2.1 t1.2.2.2.2.2.1 fun d2 => iterF (s96_2 f95 f145 f123 f146) fuel (t1.1, (t1.2.1.1, t1.2.1.2.1, t1.2.1.2.2.1, t1.2.1.2.2.2.1, ()), t1.2.2.1, d2, ([] : List Int), ([] : List Int), t1.2.2.2.1, t1.2.2.2.2.1, t1.2.2.2.2.2.1, t1.2.1.1, (Int.ofNat (List.length t1.2.1.1)), 0, ()) fun t8 => cond (decide ((Int.ofNat (List.length t8.2.2.2.2.1)) > 0)) ((f146 (t8.2.2.2.1.Most, t8.2.2.2.2.1, ())).bind fun x9 => iterF (s96_4 f95 f145 f123 f146) fuel (t8.1, (t8.2.1.1, t8.2.1.2.1, t8.2.1.2.2.1, t8.2.1.2.2.2.1, ()), t8.2.2.1, t8.2.2.2.2.2.1, t8.2.2.2.2.2.2.1, t8.2.2.2.2.2.2.2.1, t8.2.2.2.2.2.2.2.2.1, x9.1, (Int.ofNat (List.length x9.1)), 0, ()) fun t14 => rec (t14.1, (t14.2.1.1, t14.2.1.2.1, t14.2.1.2.2.1, t14.2.1.2.2.2.1, ()), t14.2.2.1, t14.2.2.2.2.1, t14.2.2.2.2.2.1, (w64 (t14.2.2.2.2.2.2.1 + 1)), ())) (rec (t8.1, (t8.2.1.1, t8.2.1.2.1, t8.2.1.2.2.1, t8.2.1.2.2.2.1, ()), t8.2.2.1, t8.2.2.2.2.2.2.1, t8.2.2.2.2.2.2.2.1, (w64 (t8.2.2.2.2.2.2.2.2.1 + 1)), ()))) (K (t1.1, (t1.2.1.1, t1.2.1.2.1, t1.2.1.2.2.1, t1.2.1.2.2.2.1, ()), t1.2.2.1, t1.2.2.2.1, t1.2.2.2.2.1, t1.2.2.2.2.2.1, ()))
noncomputable def F96 (f95 : Int × Int × Int × Unit → Option (Bool × Unit)) (f145 : List Cue × Str × Int × Unit → Option (Int × Unit)) (f123 : Int × Int × Unit → Option (Int × Unit)) (f146 : Int × List Int × Unit → Option (List Int × Unit)) (a : (List Device × List Cue × List Gust × Int × Unit) × Int × Unit) : Option (List Int × Unit) :=
  okIf (0 ≤ (Int.ofNat (List.length a.1.1))) (capK (Int.toNat (Int.ofNat (List.length a.1.1))) (iterF (s96_0 f95 f145 f123 f146) fuel (a.2.1, (a.1.1, a.1.2.1, a.1.2.2.1, a.1.2.2.2.1, ()), (List.replicate (Int.toNat (Int.ofNat (List.length a.1.1))) (Ty.zero .int)), a.1.1, (Int.ofNat (List.length a.1.1)), 0, ()) fun t15 => some (t15.2.2.1, ())))
def E96 (f95 : Int × Int × Int × Unit → Option (Bool × Unit)) (f145 : List Cue × Str × Int × Unit → Option (Int × Unit)) (f123 : Int × Int × Unit → Option (Int × Unit)) (f146 : Int × List Int × Unit → Option (List Int × Unit)) : Env := envL [(95, mkE p95 r95 false f95), (145, mkE p145 r145 false f145), (123, mkE p123 r123 false f123), (146, mkE p146 r146 false f146)]
noncomputable def L96 (f95 : Int × Int × Int × Unit → Option (Bool × Unit)) (f145 : List Cue × Str × Int × Unit → Option (Int × Unit)) (f123 : Int × Int × Unit → Option (Int × Unit)) (f146 : Int × List Int × Unit → Option (List Int × Unit)) : LEnv (densS (muts p96 ++ r96)) := lenv [(0, loopL (R := densS (muts p96 ++ r96)) q96_0 (s96_0 f95 f145 f123 f146)), (2, loopL (R := densS (muts p96 ++ r96)) q96_2 (s96_2 f95 f145 f123 f146)), (4, loopL (R := densS (muts p96 ++ r96)) q96_4 (s96_4 f95 f145 f123 f146))]
theorem e96_0 (f95 : Int × Int × Int × Unit → Option (Bool × Unit)) (f145 : List Cue × Str × Int × Unit → Option (Int × Unit)) (f123 : Int × Int × Unit → Option (Int × Unit)) (f146 : Int × List Int × Unit → Option (List Int × Unit)) (X : Nat → St → Option (densS (muts p96 ++ r96))) (rec K : densS q96_0 → Option (densS (muts p96 ++ r96))) (t : densS q96_0) :
    ev (E96 f95 f145 f123 f146) tab (fun _ => false) (L96 f95 f145 f123 f146) (retK tab p96 r96 Proofs.Tryz.f96.results.toList) (loopC Proofs.Tryz.f96 0) (fun i s => cond (Nat.beq i 0) (decK 100 q96_0 s K) (X i s)) (fun s => decK 100 q96_0 s rec) (enc q96_0 t) = s96_0 f95 f145 f123 f146 t rec K := by kernel_rfl
theorem e96_2 (f95 : Int × Int × Int × Unit → Option (Bool × Unit)) (f145 : List Cue × Str × Int × Unit → Option (Int × Unit)) (f123 : Int × Int × Unit → Option (Int × Unit)) (f146 : Int × List Int × Unit → Option (List Int × Unit)) (X : Nat → St → Option (densS (muts p96 ++ r96))) (rec K : densS q96_2 → Option (densS (muts p96 ++ r96))) (t : densS q96_2) :
    ev (E96 f95 f145 f123 f146) tab (fun _ => false) (L96 f95 f145 f123 f146) (retK tab p96 r96 Proofs.Tryz.f96.results.toList) (loopC Proofs.Tryz.f96 1) (fun i s => cond (Nat.beq i 2) (decK 100 q96_2 s K) (X i s)) (fun s => decK 100 q96_2 s rec) (enc q96_2 t) = s96_2 f95 f145 f123 f146 t rec K := by kernel_rfl
theorem e96_4 (f95 : Int × Int × Int × Unit → Option (Bool × Unit)) (f145 : List Cue × Str × Int × Unit → Option (Int × Unit)) (f123 : Int × Int × Unit → Option (Int × Unit)) (f146 : Int × List Int × Unit → Option (List Int × Unit)) (X : Nat → St → Option (densS (muts p96 ++ r96))) (rec K : densS q96_4 → Option (densS (muts p96 ++ r96))) (t : densS q96_4) :
    ev (E96 f95 f145 f123 f146) tab (fun _ => false) (L96 f95 f145 f123 f146) (retK tab p96 r96 Proofs.Tryz.f96.results.toList) (loopC Proofs.Tryz.f96 2) (fun i s => cond (Nat.beq i 4) (decK 100 q96_4 s K) (X i s)) (fun s => decK 100 q96_4 s rec) (enc q96_4 t) = s96_4 f95 f145 f123 f146 t rec K := by kernel_rfl
theorem e96 (f95 : Int × Int × Int × Unit → Option (Bool × Unit)) (f145 : List Cue × Str × Int × Unit → Option (Int × Unit)) (f123 : Int × Int × Unit → Option (Int × Unit)) (f146 : Int × List Int × Unit → Option (List Int × Unit)) (a : densS p96) : runF (E96 f95 f145 f123 f146) tab (fun _ => false) p96 r96 Proofs.Tryz.f96 (L96 f95 f145 f123 f146) a = F96 f95 f145 f123 f146 a := by kernel_rfl
theorem ok96 {f95 : Int × Int × Int × Unit → Option (Bool × Unit)} {f145 : List Cue × Str × Int × Unit → Option (Int × Unit)} {f123 : Int × Int × Unit → Option (Int × Unit)} {f146 : Int × List Int × Unit → Option (List Int × Unit)} (h95 : OK Proofs.Tryz.prog 95 (mkE p95 r95 false f95)) (h145 : OK Proofs.Tryz.prog 145 (mkE p145 r145 false f145)) (h123 : OK Proofs.Tryz.prog 123 (mkE p123 r123 false f123)) (h146 : OK Proofs.Tryz.prog 146 (mkE p146 r146 false f146)) : OK Proofs.Tryz.prog 96 (mkE p96 r96 false (F96 f95 f145 f123 f146)) :=
  fn_ok tab_ok (envL_ok (l := [(95, mkE p95 r95 false f95), (145, mkE p145 r145 false f145), (123, mkE p123 r123 false f123), (146, mkE p146 r146 false f146)]) (OKs.cons h95 (OKs.cons h145 (OKs.cons h123 (OKs.cons h146 OKs.nil))))) mixed (ann := (fun _ => false)) (L := L96 f95 f145 f123 f146) (fn := Proofs.Tryz.f96) (c := bodyC Proofs.Tryz.f96) (ls := [(0, loopC Proofs.Tryz.f96 0), (2, loopC Proofs.Tryz.f96 1), (4, loopC Proofs.Tryz.f96 2)]) Proofs.Tryz.func96 (by kernel_rfl) (by kernel_rfl) (by kernel_rfl) (by kernel_rfl)
    (LoopsP.cons q96_0 (s96_0 f95 f145 f123 f146) rfl (e96_0 f95 f145 f123 f146) (LoopsP.cons q96_2 (s96_2 f95 f145 f123 f146) rfl (e96_2 f95 f145 f123 f146) (LoopsP.cons q96_4 (s96_4 f95 f145 f123 f146) rfl (e96_4 f95 f145 f123 f146) LoopsP.nil))) (e96 f95 f145 f123 f146)
/-! spec.l9Jet -/
def p97 : List SP := [.t .device, .one (.int .i64)]
def r97 : List SP := [.t .jet]
noncomputable def F97 (a : Device × Int × Unit) : Option (Jet × Unit) :=
  some ((⟨⟨a.1.At.X, a.1.At.Y⟩, a.1.Heading, a.1.Tilt, a.2.1⟩ : Jet), ())
def E97 : Env := envL []
noncomputable def L97 : LEnv (densS (muts p97 ++ r97)) := lenv []
theorem e97 (a : densS p97) : runF (E97) tab (fun _ => false) p97 r97 Proofs.Tryz.f97 (L97) a = F97 a := by kernel_rfl
theorem ok97 : OK Proofs.Tryz.prog 97 (mkE p97 r97 false (F97)) :=
  fn_ok tab_ok (envL_ok (l := []) OKs.nil) mixed (ann := (fun _ => false)) (L := L97) (fn := Proofs.Tryz.f97) (c := bodyC Proofs.Tryz.f97) (ls := []) Proofs.Tryz.func97 (by kernel_rfl) (by kernel_rfl) (by kernel_rfl) (by kernel_rfl)
    LoopsP.nil (e97)
/-! spec.l9All -/
def p48 : List SP := [.agg [.r .device, .r .cue, .r .gust, .int .i64]]
def r48 : List SP := [.one (.o 0 .throw)]
def q48_2 : List SP := pat 45 0 [(1, .box 5002001 [.r .device, .r .cue, .r .gust, .int .i64]), (3, .one (.o 5002002 .throw)), (4, .one (.int .i64)), (16, .one (.o 5002003 .int)), (17, .one (.int .i64)), (18, .one (.int .i64))]
noncomputable def s48_2 (f96 : (List Device × List Cue × List Gust × Int × Unit) × Int × Unit → Option (List Int × Unit)) (f97 : Device × Int × Unit → Option (Jet × Unit)) (t3 : (List Device × List Cue × List Gust × Int × Unit) × List Throw × Int × List Int × Int × Int × Unit) (rec K : (List Device × List Cue × List Gust × Int × Unit) × List Throw × Int × List Int × Int × Int × Unit → Option (List Throw × Unit)) : Option (List Throw × Unit) :=
  cond (decide (t3.2.2.2.2.2.1 < t3.2.2.2.2.1)) (rdL t3.2.2.2.1 t3.2.2.2.2.2.1 fun _ => (t3.2.2.2.1[(Int.toNat t3.2.2.2.2.2.1)]?).bind fun d4 => cond (decide (d4 > 0)) (rdL t3.1.1 t3.2.2.2.2.2.1 fun d5 => rdL t3.1.1 t3.2.2.2.2.2.1 fun d6 => (f97 (d6, d4, ())).bind fun x7 => capK (List.length t3.2.1 + List.length ([(⟨d5.Name, t3.2.2.1, ⟨⟨x7.1.At.X, x7.1.At.Y⟩, x7.1.Heading, x7.1.Tilt, x7.1.Lift⟩⟩ : Throw)] : List Throw)) (rec ((t3.1.1, t3.1.2.1, t3.1.2.2.1, t3.1.2.2.2.1, ()), (t3.2.1 ++ ([(⟨d5.Name, t3.2.2.1, ⟨⟨x7.1.At.X, x7.1.At.Y⟩, x7.1.Heading, x7.1.Tilt, x7.1.Lift⟩⟩ : Throw)] : List Throw)), t3.2.2.1, t3.2.2.2.1, t3.2.2.2.2.1, (w64 (t3.2.2.2.2.2.1 + 1)), ()))) (rec ((t3.1.1, t3.1.2.1, t3.1.2.2.1, t3.1.2.2.2.1, ()), t3.2.1, t3.2.2.1, t3.2.2.2.1, t3.2.2.2.2.1, (w64 (t3.2.2.2.2.2.1 + 1)), ()))) (K ((t3.1.1, t3.1.2.1, t3.1.2.2.1, t3.1.2.2.2.1, ()), t3.2.1, t3.2.2.1, t3.2.2.2.1, t3.2.2.2.2.1, t3.2.2.2.2.2.1, ()))
def q48_0 : List SP := pat 45 0 [(1, .box 5000001 [.r .device, .r .cue, .r .gust, .int .i64]), (3, .one (.o 5000002 .throw)), (4, .one (.int .i64))]
noncomputable def s48_0 (f96 : (List Device × List Cue × List Gust × Int × Unit) × Int × Unit → Option (List Int × Unit)) (f97 : Device × Int × Unit → Option (Jet × Unit)) (t1 : (List Device × List Cue × List Gust × Int × Unit) × List Throw × Int × Unit) (rec K : (List Device × List Cue × List Gust × Int × Unit) × List Throw × Int × Unit → Option (List Throw × Unit)) : Option (List Throw × Unit) :=
  cond (decide (t1.2.2.1 < t1.1.2.2.2.1)) ((f96 ((t1.1.1, t1.1.2.1, t1.1.2.2.1, t1.1.2.2.2.1, ()), t1.2.2.1, ())).bind fun x2 => iterF (s48_2 f96 f97) fuel ((t1.1.1, t1.1.2.1, t1.1.2.2.1, t1.1.2.2.2.1, ()), t1.2.1, t1.2.2.1, x2.1, (Int.ofNat (List.length x2.1)), 0, ()) fun t8 => rec ((t8.1.1, t8.1.2.1, t8.1.2.2.1, t8.1.2.2.2.1, ()), t8.2.1, (w64 (t8.2.2.1 + 1)), ())) (K ((t1.1.1, t1.1.2.1, t1.1.2.2.1, t1.1.2.2.2.1, ()), t1.2.1, t1.2.2.1, ()))
noncomputable def F48 (f96 : (List Device × List Cue × List Gust × Int × Unit) × Int × Unit → Option (List Int × Unit)) (f97 : Device × Int × Unit → Option (Jet × Unit)) (a : (List Device × List Cue × List Gust × Int × Unit) × Unit) : Option (List Throw × Unit) :=
  iterF (s48_0 f96 f97) fuel ((a.1.1, a.1.2.1, a.1.2.2.1, a.1.2.2.2.1, ()), ([] : List Throw), 0, ()) fun t9 => some (t9.2.1, ())
def E48 (f96 : (List Device × List Cue × List Gust × Int × Unit) × Int × Unit → Option (List Int × Unit)) (f97 : Device × Int × Unit → Option (Jet × Unit)) : Env := envL [(96, mkE p96 r96 false f96), (97, mkE p97 r97 false f97)]
noncomputable def L48 (f96 : (List Device × List Cue × List Gust × Int × Unit) × Int × Unit → Option (List Int × Unit)) (f97 : Device × Int × Unit → Option (Jet × Unit)) : LEnv (densS (muts p48 ++ r48)) := lenv [(0, loopL (R := densS (muts p48 ++ r48)) q48_0 (s48_0 f96 f97)), (2, loopL (R := densS (muts p48 ++ r48)) q48_2 (s48_2 f96 f97))]
theorem e48_0 (f96 : (List Device × List Cue × List Gust × Int × Unit) × Int × Unit → Option (List Int × Unit)) (f97 : Device × Int × Unit → Option (Jet × Unit)) (X : Nat → St → Option (densS (muts p48 ++ r48))) (rec K : densS q48_0 → Option (densS (muts p48 ++ r48))) (t : densS q48_0) :
    ev (E48 f96 f97) tab (fun _ => false) (L48 f96 f97) (retK tab p48 r48 Proofs.Tryz.f48.results.toList) (loopC Proofs.Tryz.f48 0) (fun i s => cond (Nat.beq i 0) (decK 100 q48_0 s K) (X i s)) (fun s => decK 100 q48_0 s rec) (enc q48_0 t) = s48_0 f96 f97 t rec K := by kernel_rfl
theorem e48_2 (f96 : (List Device × List Cue × List Gust × Int × Unit) × Int × Unit → Option (List Int × Unit)) (f97 : Device × Int × Unit → Option (Jet × Unit)) (X : Nat → St → Option (densS (muts p48 ++ r48))) (rec K : densS q48_2 → Option (densS (muts p48 ++ r48))) (t : densS q48_2) :
    ev (E48 f96 f97) tab (fun _ => false) (L48 f96 f97) (retK tab p48 r48 Proofs.Tryz.f48.results.toList) (loopC Proofs.Tryz.f48 1) (fun i s => cond (Nat.beq i 2) (decK 100 q48_2 s K) (X i s)) (fun s => decK 100 q48_2 s rec) (enc q48_2 t) = s48_2 f96 f97 t rec K := by kernel_rfl
theorem e48 (f96 : (List Device × List Cue × List Gust × Int × Unit) × Int × Unit → Option (List Int × Unit)) (f97 : Device × Int × Unit → Option (Jet × Unit)) (a : densS p48) : runF (E48 f96 f97) tab (fun _ => false) p48 r48 Proofs.Tryz.f48 (L48 f96 f97) a = F48 f96 f97 a := by kernel_rfl
theorem ok48 {f96 : (List Device × List Cue × List Gust × Int × Unit) × Int × Unit → Option (List Int × Unit)} {f97 : Device × Int × Unit → Option (Jet × Unit)} (h96 : OK Proofs.Tryz.prog 96 (mkE p96 r96 false f96)) (h97 : OK Proofs.Tryz.prog 97 (mkE p97 r97 false f97)) : OK Proofs.Tryz.prog 48 (mkE p48 r48 false (F48 f96 f97)) :=
  fn_ok tab_ok (envL_ok (l := [(96, mkE p96 r96 false f96), (97, mkE p97 r97 false f97)]) (OKs.cons h96 (OKs.cons h97 OKs.nil))) mixed (ann := (fun _ => false)) (L := L48 f96 f97) (fn := Proofs.Tryz.f48) (c := bodyC Proofs.Tryz.f48) (ls := [(0, loopC Proofs.Tryz.f48 0), (2, loopC Proofs.Tryz.f48 1)]) Proofs.Tryz.func48 (by kernel_rfl) (by kernel_rfl) (by kernel_rfl) (by kernel_rfl)
    (LoopsP.cons q48_0 (s48_0 f96 f97) rfl (e48_0 f96 f97) (LoopsP.cons q48_2 (s48_2 f96 f97) rfl (e48_2 f96 f97) LoopsP.nil)) (e48 f96 f97)
/-! impl.isWithin -/
def p117 : List SP := [.one (.int .i64), .one (.int .i64), .one (.int .i64)]
def r117 : List SP := [.one (.bool)]
noncomputable def F117 (a : Int × Int × Int × Unit) : Option (Bool × Unit) :=
  cond (decide (a.2.1 ≤ a.1)) (some ((decide (a.1 ≤ a.2.2.1)), ())) (some (false, ()))
def E117 : Env := envL []
noncomputable def L117 : LEnv (densS (muts p117 ++ r117)) := lenv []
theorem e117 (a : densS p117) : runF (E117) tab (fun _ => false) p117 r117 Proofs.Tryz.f117 (L117) a = F117 a := by kernel_rfl
theorem ok117 : OK Proofs.Tryz.prog 117 (mkE p117 r117 false (F117)) :=
  fn_ok tab_ok (envL_ok (l := []) OKs.nil) mixed (ann := (fun _ => false)) (L := L117) (fn := Proofs.Tryz.f117) (c := bodyC Proofs.Tryz.f117) (ls := []) Proofs.Tryz.func117 (by kernel_rfl) (by kernel_rfl) (by kernel_rfl) (by kernel_rfl)
    LoopsP.nil (e117)
/-! impl.IsName -/
def p168 : List SP := [.one (.str)]
def r168 : List SP := [.one (.bool)]
def q168_0 : List SP := pat 42 0 [(0, .one (.str)), (6, .one (.int .i64)), (7, .one (.int .i64))]
noncomputable def s168_0 (f117 : Int × Int × Int × Unit → Option (Bool × Unit)) (t1 : Str × Int × Int × Unit) (rec K : Str × Int × Int × Unit → Option (Bool × Unit)) : Option (Bool × Unit) :=
  cond (decide (t1.2.2.1 < t1.2.1)) (rdL t1.1 t1.2.2.1 fun d2 => cond (decide ((Int.ofNat (UInt8.toNat d2)) ≥ 97)) (rdL t1.1 t1.2.2.1 fun d3 => cond (!(decide ((Int.ofNat (UInt8.toNat d3)) ≤ 122))) (cond (!(decide (t1.2.2.1 = 0))) (rdL t1.1 t1.2.2.1 fun d4 => cond (!(decide ((Int.ofNat (UInt8.toNat d4)) < 48))) (rdL t1.1 t1.2.2.1 fun d5 => cond (decide ((Int.ofNat (UInt8.toNat d5)) > 57)) (some (false, ())) (rec (t1.1, t1.2.1, (w64 (t1.2.2.1 + 1)), ()))) (some (false, ()))) (some (false, ()))) (rec (t1.1, t1.2.1, (w64 (t1.2.2.1 + 1)), ()))) (cond (!(decide (t1.2.2.1 = 0))) (rdL t1.1 t1.2.2.1 fun d6 => cond (!(decide ((Int.ofNat (UInt8.toNat d6)) < 48))) (rdL t1.1 t1.2.2.1 fun d7 => cond (decide ((Int.ofNat (UInt8.toNat d7)) > 57)) (some (false, ())) (rec (t1.1, t1.2.1, (w64 (t1.2.2.1 + 1)), ()))) (some (false, ()))) (some (false, ())))) (K (t1.1, t1.2.1, t1.2.2.1, ()))
noncomputable def F168 (f117 : Int × Int × Int × Unit → Option (Bool × Unit)) (a : Str × Unit) : Option (Bool × Unit) :=
  iterF (s168_0 f117) fuel (a.1, (Int.ofNat (List.length a.1)), 0, ()) fun t8 => (f117 ((Int.ofNat (List.length t8.1)), 1, 8, ())).bind fun x9 => some (x9.1, ())
def E168 (f117 : Int × Int × Int × Unit → Option (Bool × Unit)) : Env := envL [(117, mkE p117 r117 false f117)]
noncomputable def L168 (f117 : Int × Int × Int × Unit → Option (Bool × Unit)) : LEnv (densS (muts p168 ++ r168)) := lenv [(0, loopL (R := densS (muts p168 ++ r168)) q168_0 (s168_0 f117))]
theorem e168_0 (f117 : Int × Int × Int × Unit → Option (Bool × Unit)) (X : Nat → St → Option (densS (muts p168 ++ r168))) (rec K : densS q168_0 → Option (densS (muts p168 ++ r168))) (t : densS q168_0) :
    ev (E168 f117) tab (fun _ => false) (L168 f117) (retK tab p168 r168 Proofs.Tryz.f168.results.toList) (loopC Proofs.Tryz.f168 0) (fun i s => cond (Nat.beq i 0) (decK 100 q168_0 s K) (X i s)) (fun s => decK 100 q168_0 s rec) (enc q168_0 t) = s168_0 f117 t rec K := by kernel_rfl
theorem e168 (f117 : Int × Int × Int × Unit → Option (Bool × Unit)) (a : densS p168) : runF (E168 f117) tab (fun _ => false) p168 r168 Proofs.Tryz.f168 (L168 f117) a = F168 f117 a := by kernel_rfl
theorem ok168 {f117 : Int × Int × Int × Unit → Option (Bool × Unit)} (h117 : OK Proofs.Tryz.prog 117 (mkE p117 r117 false f117)) : OK Proofs.Tryz.prog 168 (mkE p168 r168 false (F168 f117)) :=
  fn_ok tab_ok (envL_ok (l := [(117, mkE p117 r117 false f117)]) (OKs.cons h117 OKs.nil)) mixed (ann := (fun _ => false)) (L := L168 f117) (fn := Proofs.Tryz.f168) (c := bodyC Proofs.Tryz.f168) (ls := [(0, loopC Proofs.Tryz.f168 0)]) Proofs.Tryz.func168 (by kernel_rfl) (by kernel_rfl) (by kernel_rfl) (by kernel_rfl)
    (LoopsP.cons q168_0 (s168_0 f117) rfl (e168_0 f117) LoopsP.nil) (e168 f117)
/-! impl.isSupply -/
def p169 : List SP := [.one (.int .i64)]
def r169 : List SP := [.one (.bool)]
noncomputable def F169 (f117 : Int × Int × Int × Unit → Option (Bool × Unit)) (a : Int × Unit) : Option (Bool × Unit) :=
  (f117 (a.1, 0, 512, ())).bind fun x1 => some (x1.1, ())
def E169 (f117 : Int × Int × Int × Unit → Option (Bool × Unit)) : Env := envL [(117, mkE p117 r117 false f117)]
noncomputable def L169 (f117 : Int × Int × Int × Unit → Option (Bool × Unit)) : LEnv (densS (muts p169 ++ r169)) := lenv []
theorem e169 (f117 : Int × Int × Int × Unit → Option (Bool × Unit)) (a : densS p169) : runF (E169 f117) tab (fun _ => false) p169 r169 Proofs.Tryz.f169 (L169 f117) a = F169 f117 a := by kernel_rfl
theorem ok169 {f117 : Int × Int × Int × Unit → Option (Bool × Unit)} (h117 : OK Proofs.Tryz.prog 117 (mkE p117 r117 false f117)) : OK Proofs.Tryz.prog 169 (mkE p169 r169 false (F169 f117)) :=
  fn_ok tab_ok (envL_ok (l := [(117, mkE p117 r117 false f117)]) (OKs.cons h117 OKs.nil)) mixed (ann := (fun _ => false)) (L := L169 f117) (fn := Proofs.Tryz.f169) (c := bodyC Proofs.Tryz.f169) (ls := []) Proofs.Tryz.func169 (by kernel_rfl) (by kernel_rfl) (by kernel_rfl) (by kernel_rfl)
    LoopsP.nil (e169 f117)
/-! impl.IsHeading -/
def p163 : List SP := [.one (.int .i64)]
def r163 : List SP := [.one (.bool)]
noncomputable def F163 (f117 : Int × Int × Int × Unit → Option (Bool × Unit)) (a : Int × Unit) : Option (Bool × Unit) :=
  (f117 (a.1, 0, 3, ())).bind fun x1 => some (x1.1, ())
def E163 (f117 : Int × Int × Int × Unit → Option (Bool × Unit)) : Env := envL [(117, mkE p117 r117 false f117)]
noncomputable def L163 (f117 : Int × Int × Int × Unit → Option (Bool × Unit)) : LEnv (densS (muts p163 ++ r163)) := lenv []
theorem e163 (f117 : Int × Int × Int × Unit → Option (Bool × Unit)) (a : densS p163) : runF (E163 f117) tab (fun _ => false) p163 r163 Proofs.Tryz.f163 (L163 f117) a = F163 f117 a := by kernel_rfl
theorem ok163 {f117 : Int × Int × Int × Unit → Option (Bool × Unit)} (h117 : OK Proofs.Tryz.prog 117 (mkE p117 r117 false f117)) : OK Proofs.Tryz.prog 163 (mkE p163 r163 false (F163 f117)) :=
  fn_ok tab_ok (envL_ok (l := [(117, mkE p117 r117 false f117)]) (OKs.cons h117 OKs.nil)) mixed (ann := (fun _ => false)) (L := L163 f117) (fn := Proofs.Tryz.f163) (c := bodyC Proofs.Tryz.f163) (ls := []) Proofs.Tryz.func163 (by kernel_rfl) (by kernel_rfl) (by kernel_rfl) (by kernel_rfl)
    LoopsP.nil (e163 f117)
/-! impl.IsJet -/
def p150 : List SP := [.t .jet]
def r150 : List SP := [.one (.bool)]
noncomputable def F150 (f117 : Int × Int × Int × Unit → Option (Bool × Unit)) (f163 : Int × Unit → Option (Bool × Unit)) (a : Jet × Unit) : Option (Bool × Unit) :=
  (f117 (a.1.At.X, (-1024), 1024, ())).bind fun x1 => cond x1.1 ((f117 (a.1.At.Y, (-1024), 1024, ())).bind fun x2 => cond x2.1 ((f163 (a.1.Heading, ())).bind fun x3 => cond x3.1 ((f117 (a.1.Tilt, 0, 16, ())).bind fun x4 => cond x4.1 ((f117 (a.1.Lift, 1, 32, ())).bind fun x5 => some (x5.1, ())) (some (false, ()))) (some (false, ()))) (some (false, ()))) (some (false, ()))
def E150 (f117 : Int × Int × Int × Unit → Option (Bool × Unit)) (f163 : Int × Unit → Option (Bool × Unit)) : Env := envL [(117, mkE p117 r117 false f117), (163, mkE p163 r163 false f163)]
noncomputable def L150 (f117 : Int × Int × Int × Unit → Option (Bool × Unit)) (f163 : Int × Unit → Option (Bool × Unit)) : LEnv (densS (muts p150 ++ r150)) := lenv []
theorem e150 (f117 : Int × Int × Int × Unit → Option (Bool × Unit)) (f163 : Int × Unit → Option (Bool × Unit)) (a : densS p150) : runF (E150 f117 f163) tab (fun _ => false) p150 r150 Proofs.Tryz.f150 (L150 f117 f163) a = F150 f117 f163 a := by kernel_rfl
theorem ok150 {f117 : Int × Int × Int × Unit → Option (Bool × Unit)} {f163 : Int × Unit → Option (Bool × Unit)} (h117 : OK Proofs.Tryz.prog 117 (mkE p117 r117 false f117)) (h163 : OK Proofs.Tryz.prog 163 (mkE p163 r163 false f163)) : OK Proofs.Tryz.prog 150 (mkE p150 r150 false (F150 f117 f163)) :=
  fn_ok tab_ok (envL_ok (l := [(117, mkE p117 r117 false f117), (163, mkE p163 r163 false f163)]) (OKs.cons h117 (OKs.cons h163 OKs.nil))) mixed (ann := (fun _ => false)) (L := L150 f117 f163) (fn := Proofs.Tryz.f150) (c := bodyC Proofs.Tryz.f150) (ls := []) Proofs.Tryz.func150 (by kernel_rfl) (by kernel_rfl) (by kernel_rfl) (by kernel_rfl)
    LoopsP.nil (e150 f117 f163)
/-! impl.IsMeasure -/
def p158 : List SP := [.one (.int .i64)]
def r158 : List SP := [.one (.bool)]
noncomputable def F158 (f117 : Int × Int × Int × Unit → Option (Bool × Unit)) (a : Int × Unit) : Option (Bool × Unit) :=
  (f117 (a.1, (-4096), 4096, ())).bind fun x1 => some (x1.1, ())
def E158 (f117 : Int × Int × Int × Unit → Option (Bool × Unit)) : Env := envL [(117, mkE p117 r117 false f117)]
noncomputable def L158 (f117 : Int × Int × Int × Unit → Option (Bool × Unit)) : LEnv (densS (muts p158 ++ r158)) := lenv []
theorem e158 (f117 : Int × Int × Int × Unit → Option (Bool × Unit)) (a : densS p158) : runF (E158 f117) tab (fun _ => false) p158 r158 Proofs.Tryz.f158 (L158 f117) a = F158 f117 a := by kernel_rfl
theorem ok158 {f117 : Int × Int × Int × Unit → Option (Bool × Unit)} (h117 : OK Proofs.Tryz.prog 117 (mkE p117 r117 false f117)) : OK Proofs.Tryz.prog 158 (mkE p158 r158 false (F158 f117)) :=
  fn_ok tab_ok (envL_ok (l := [(117, mkE p117 r117 false f117)]) (OKs.cons h117 OKs.nil)) mixed (ann := (fun _ => false)) (L := L158 f117) (fn := Proofs.Tryz.f158) (c := bodyC Proofs.Tryz.f158) (ls := []) Proofs.Tryz.func158 (by kernel_rfl) (by kernel_rfl) (by kernel_rfl) (by kernel_rfl)
    LoopsP.nil (e158 f117)
/-! impl.IsPlace -/
def p118 : List SP := [.t .place]
def r118 : List SP := [.one (.bool)]
noncomputable def F118 (f158 : Int × Unit → Option (Bool × Unit)) (a : Place × Unit) : Option (Bool × Unit) :=
  (f158 (a.1.X, ())).bind fun x1 => cond x1.1 ((f158 (a.1.Y, ())).bind fun x2 => some (x2.1, ())) (some (false, ()))
def E118 (f158 : Int × Unit → Option (Bool × Unit)) : Env := envL [(158, mkE p158 r158 false f158)]
noncomputable def L118 (f158 : Int × Unit → Option (Bool × Unit)) : LEnv (densS (muts p118 ++ r118)) := lenv []
theorem e118 (f158 : Int × Unit → Option (Bool × Unit)) (a : densS p118) : runF (E118 f158) tab (fun _ => false) p118 r118 Proofs.Tryz.f118 (L118 f158) a = F118 f158 a := by kernel_rfl
theorem ok118 {f158 : Int × Unit → Option (Bool × Unit)} (h158 : OK Proofs.Tryz.prog 158 (mkE p158 r158 false f158)) : OK Proofs.Tryz.prog 118 (mkE p118 r118 false (F118 f158)) :=
  fn_ok tab_ok (envL_ok (l := [(158, mkE p158 r158 false f158)]) (OKs.cons h158 OKs.nil)) mixed (ann := (fun _ => false)) (L := L118 f158) (fn := Proofs.Tryz.f118) (c := bodyC Proofs.Tryz.f118) (ls := []) Proofs.Tryz.func118 (by kernel_rfl) (by kernel_rfl) (by kernel_rfl) (by kernel_rfl)
    LoopsP.nil (e118 f158)
/-! impl.IsDevice -/
def p141 : List SP := [.t .device]
def r141 : List SP := [.one (.bool)]
noncomputable def F141 (f168 : Str × Unit → Option (Bool × Unit)) (f169 : Int × Unit → Option (Bool × Unit)) (f150 : Jet × Unit → Option (Bool × Unit)) (f117 : Int × Int × Int × Unit → Option (Bool × Unit)) (f118 : Place × Unit → Option (Bool × Unit)) (a : Device × Unit) : Option (Bool × Unit) :=
  (f168 (a.1.Name, ())).bind fun x1 => cond (!x1.1) (some (false, ())) (cond (decide (a.1.Kind = 1)) (cond (decide (a.1.Name = a.1.Name) && (decide (a.1.Kind = a.1.Kind) && (decide (a.1.Line = []) && (decide (a.1.At.X = 0) && (decide (a.1.At.Y = 0) && (decide (a.1.Heading = 0) && (decide (a.1.Tilt = 0) && (decide (a.1.Most = a.1.Most) && true)))))))) ((f169 (a.1.Most, ())).bind fun x2 => some (x2.1, ())) (some (false, ()))) (cond (decide (a.1.Kind = 2)) ((f168 (a.1.Line, ())).bind fun x3 => cond x3.1 (cond (!decide (a.1.Line = a.1.Name)) ((f150 ((⟨⟨a.1.At.X, a.1.At.Y⟩, a.1.Heading, a.1.Tilt, 1⟩ : Jet), ())).bind fun x4 => cond x4.1 ((f117 (a.1.Most, 0, 32, ())).bind fun x5 => some (x5.1, ())) (some (false, ()))) (some (false, ()))) (some (false, ()))) (cond (decide (a.1.Kind = 3)) (cond (decide (a.1.Name = a.1.Name) && (decide (a.1.Kind = a.1.Kind) && (decide (a.1.Line = a.1.Line) && (decide (a.1.At.X = a.1.At.X) && (decide (a.1.At.Y = a.1.At.Y) && (decide (a.1.Heading = 0) && (decide (a.1.Tilt = 0) && (decide (a.1.Most = 0) && true)))))))) ((f168 (a.1.Line, ())).bind fun x6 => cond x6.1 (cond (!decide (a.1.Line = a.1.Name)) ((f118 (a.1.At, ())).bind fun x7 => some (x7.1, ())) (some (false, ()))) (some (false, ()))) (some (false, ()))) (some (false, ())))))
def E141 (f168 : Str × Unit → Option (Bool × Unit)) (f169 : Int × Unit → Option (Bool × Unit)) (f150 : Jet × Unit → Option (Bool × Unit)) (f117 : Int × Int × Int × Unit → Option (Bool × Unit)) (f118 : Place × Unit → Option (Bool × Unit)) : Env := envL [(168, mkE p168 r168 false f168), (169, mkE p169 r169 false f169), (150, mkE p150 r150 false f150), (117, mkE p117 r117 false f117), (118, mkE p118 r118 false f118)]
noncomputable def L141 (f168 : Str × Unit → Option (Bool × Unit)) (f169 : Int × Unit → Option (Bool × Unit)) (f150 : Jet × Unit → Option (Bool × Unit)) (f117 : Int × Int × Int × Unit → Option (Bool × Unit)) (f118 : Place × Unit → Option (Bool × Unit)) : LEnv (densS (muts p141 ++ r141)) := lenv []
theorem e141 (f168 : Str × Unit → Option (Bool × Unit)) (f169 : Int × Unit → Option (Bool × Unit)) (f150 : Jet × Unit → Option (Bool × Unit)) (f117 : Int × Int × Int × Unit → Option (Bool × Unit)) (f118 : Place × Unit → Option (Bool × Unit)) (a : densS p141) : runF (E141 f168 f169 f150 f117 f118) tab (fun _ => false) p141 r141 Proofs.Tryz.f141 (L141 f168 f169 f150 f117 f118) a = F141 f168 f169 f150 f117 f118 a := by kernel_rfl
theorem ok141 {f168 : Str × Unit → Option (Bool × Unit)} {f169 : Int × Unit → Option (Bool × Unit)} {f150 : Jet × Unit → Option (Bool × Unit)} {f117 : Int × Int × Int × Unit → Option (Bool × Unit)} {f118 : Place × Unit → Option (Bool × Unit)} (h168 : OK Proofs.Tryz.prog 168 (mkE p168 r168 false f168)) (h169 : OK Proofs.Tryz.prog 169 (mkE p169 r169 false f169)) (h150 : OK Proofs.Tryz.prog 150 (mkE p150 r150 false f150)) (h117 : OK Proofs.Tryz.prog 117 (mkE p117 r117 false f117)) (h118 : OK Proofs.Tryz.prog 118 (mkE p118 r118 false f118)) : OK Proofs.Tryz.prog 141 (mkE p141 r141 false (F141 f168 f169 f150 f117 f118)) :=
  fn_ok tab_ok (envL_ok (l := [(168, mkE p168 r168 false f168), (169, mkE p169 r169 false f169), (150, mkE p150 r150 false f150), (117, mkE p117 r117 false f117), (118, mkE p118 r118 false f118)]) (OKs.cons h168 (OKs.cons h169 (OKs.cons h150 (OKs.cons h117 (OKs.cons h118 OKs.nil)))))) mixed (ann := (fun _ => false)) (L := L141 f168 f169 f150 f117 f118) (fn := Proofs.Tryz.f141) (c := bodyC Proofs.Tryz.f141) (ls := []) Proofs.Tryz.func141 (by kernel_rfl) (by kernel_rfl) (by kernel_rfl) (by kernel_rfl)
    LoopsP.nil (e141 f168 f169 f150 f117 f118)
/-! impl.FindDevice$1 -/
def p189 : List SP := [.t .device, .sp [.str]]
def r189 : List SP := [.one (.bool)]
noncomputable def F189 (a : Device × (Str × Unit) × Unit) : Option (Bool × Unit) :=
  some ((decide (a.1.Name = a.2.1.1)), ())
def E189 : Env := envL []
noncomputable def L189 : LEnv (densS (muts p189 ++ r189)) := lenv []
theorem e189 (a : densS p189) : runF (E189) tab (fun _ => false) p189 r189 Proofs.Tryz.f189 (L189) a = F189 a := by kernel_rfl
theorem ok189 : OK Proofs.Tryz.prog 189 (mkE p189 r189 false (F189)) :=
  fn_ok tab_ok (envL_ok (l := []) OKs.nil) mixed (ann := (fun _ => false)) (L := L189) (fn := Proofs.Tryz.f189) (c := bodyC Proofs.Tryz.f189) (ls := []) Proofs.Tryz.func189 (by kernel_rfl) (by kernel_rfl) (by kernel_rfl) (by kernel_rfl)
    LoopsP.nil (e189)
/-! slices.IndexFunc[[]impl.Device,impl.Device] -/
def p188 : List SP := [.one (.r .device), .fn 189 [.str]]
def r188 : List SP := [.one (.int .i64)]
def q188_0 : List SP := pat 19 0 [(0, .one (.r .device)), (1, .fn 189 [.str]), (7, .one (.int .i64)), (8, .one (.int .i64))]
noncomputable def s188_0 (f189 : Device × (Str × Unit) × Unit → Option (Bool × Unit)) (t1 : List Device × (Str × Unit) × Int × Int × Unit) (rec K : List Device × (Str × Unit) × Int × Int × Unit → Option (Int × Unit)) : Option (Int × Unit) :=
  cond (decide (t1.2.2.2.1 < t1.2.2.1)) (rdL t1.1 t1.2.2.2.1 fun d2 => (f189 (d2, (t1.2.1.1, ()), ())).bind fun x3 => cond x3.1 (some (t1.2.2.2.1, ())) (rec (t1.1, (t1.2.1.1, ()), t1.2.2.1, (w64 (t1.2.2.2.1 + 1)), ()))) (K (t1.1, (t1.2.1.1, ()), t1.2.2.1, t1.2.2.2.1, ()))
noncomputable def F188 (f189 : Device × (Str × Unit) × Unit → Option (Bool × Unit)) (a : List Device × (Str × Unit) × Unit) : Option (Int × Unit) :=
  iterF (s188_0 f189) fuel (a.1, (a.2.1.1, ()), (Int.ofNat (List.length a.1)), 0, ()) fun t4 => some ((-1), ())
def E188 (f189 : Device × (Str × Unit) × Unit → Option (Bool × Unit)) : Env := envL [(189, mkE p189 r189 false f189)]
noncomputable def L188 (f189 : Device × (Str × Unit) × Unit → Option (Bool × Unit)) : LEnv (densS (muts p188 ++ r188)) := lenv [(0, loopL (R := densS (muts p188 ++ r188)) q188_0 (s188_0 f189))]
theorem e188_0 (f189 : Device × (Str × Unit) × Unit → Option (Bool × Unit)) (X : Nat → St → Option (densS (muts p188 ++ r188))) (rec K : densS q188_0 → Option (densS (muts p188 ++ r188))) (t : densS q188_0) :
    ev (E188 f189) tab (fun _ => false) (L188 f189) (retK tab p188 r188 Proofs.Tryz.f188.results.toList) (loopC Proofs.Tryz.f188 0) (fun i s => cond (Nat.beq i 0) (decK 100 q188_0 s K) (X i s)) (fun s => decK 100 q188_0 s rec) (enc q188_0 t) = s188_0 f189 t rec K := by kernel_rfl
theorem e188 (f189 : Device × (Str × Unit) × Unit → Option (Bool × Unit)) (a : densS p188) : runF (E188 f189) tab (fun _ => false) p188 r188 Proofs.Tryz.f188 (L188 f189) a = F188 f189 a := by kernel_rfl
theorem ok188 {f189 : Device × (Str × Unit) × Unit → Option (Bool × Unit)} (h189 : OK Proofs.Tryz.prog 189 (mkE p189 r189 false f189)) : OK Proofs.Tryz.prog 188 (mkE p188 r188 false (F188 f189)) :=
  fn_ok tab_ok (envL_ok (l := [(189, mkE p189 r189 false f189)]) (OKs.cons h189 OKs.nil)) mixed (ann := (fun _ => false)) (L := L188 f189) (fn := Proofs.Tryz.f188) (c := bodyC Proofs.Tryz.f188) (ls := [(0, loopC Proofs.Tryz.f188 0)]) Proofs.Tryz.func188 (by kernel_rfl) (by kernel_rfl) (by kernel_rfl) (by kernel_rfl)
    (LoopsP.cons q188_0 (s188_0 f189) rfl (e188_0 f189) LoopsP.nil) (e188 f189)
/-! impl.FindDevice -/
def p182 : List SP := [.one (.r .device), .one (.str)]
def r182 : List SP := [.one (.int .i64)]
noncomputable def F182 (f188 : List Device × (Str × Unit) × Unit → Option (Int × Unit)) (a : List Device × Str × Unit) : Option (Int × Unit) :=
  (f188 (a.1, (a.2.1, ()), ())).bind fun x1 => some (x1.1, ())
def E182 (f188 : List Device × (Str × Unit) × Unit → Option (Int × Unit)) : Env := envL [(188, mkE p188 r188 false f188)]
noncomputable def L182 (f188 : List Device × (Str × Unit) × Unit → Option (Int × Unit)) : LEnv (densS (muts p182 ++ r182)) := lenv []
theorem e182 (f188 : List Device × (Str × Unit) × Unit → Option (Int × Unit)) (a : densS p182) : runF (E182 f188) tab (fun _ => false) p182 r182 Proofs.Tryz.f182 (L182 f188) a = F182 f188 a := by kernel_rfl
theorem ok182 {f188 : List Device × (Str × Unit) × Unit → Option (Int × Unit)} (h188 : OK Proofs.Tryz.prog 188 (mkE p188 r188 false f188)) : OK Proofs.Tryz.prog 182 (mkE p182 r182 false (F182 f188)) :=
  fn_ok tab_ok (envL_ok (l := [(188, mkE p188 r188 false f188)]) (OKs.cons h188 OKs.nil)) mixed (ann := (fun _ => false)) (L := L182 f188) (fn := Proofs.Tryz.f182) (c := bodyC Proofs.Tryz.f182) (ls := []) Proofs.Tryz.func182 (by kernel_rfl) (by kernel_rfl) (by kernel_rfl) (by kernel_rfl)
    LoopsP.nil (e182 f188)
/-! impl.isHung -/
def p155 : List SP := [.one (.r .device), .t .device]
def r155 : List SP := [.one (.bool)]
noncomputable def F155 (f182 : List Device × Str × Unit → Option (Int × Unit)) (a : List Device × Device × Unit) : Option (Bool × Unit) :=
  cond (decide (a.2.1.Kind = 1)) (some (true, ())) ((f182 (a.1, a.2.1.Line, ())).bind fun x1 => cond (decide (x1.1 ≥ 0)) (rdL a.1 x1.1 fun d2 => some ((decide (d2.Kind = (w64 (a.2.1.Kind - 1)))), ())) (some (false, ())))
def E155 (f182 : List Device × Str × Unit → Option (Int × Unit)) : Env := envL [(182, mkE p182 r182 false f182)]
noncomputable def L155 (f182 : List Device × Str × Unit → Option (Int × Unit)) : LEnv (densS (muts p155 ++ r155)) := lenv []
theorem e155 (f182 : List Device × Str × Unit → Option (Int × Unit)) (a : densS p155) : runF (E155 f182) tab (fun _ => false) p155 r155 Proofs.Tryz.f155 (L155 f182) a = F155 f182 a := by kernel_rfl
theorem ok155 {f182 : List Device × Str × Unit → Option (Int × Unit)} (h182 : OK Proofs.Tryz.prog 182 (mkE p182 r182 false f182)) : OK Proofs.Tryz.prog 155 (mkE p155 r155 false (F155 f182)) :=
  fn_ok tab_ok (envL_ok (l := [(182, mkE p182 r182 false f182)]) (OKs.cons h182 OKs.nil)) mixed (ann := (fun _ => false)) (L := L155 f182) (fn := Proofs.Tryz.f155) (c := bodyC Proofs.Tryz.f155) (ls := []) Proofs.Tryz.func155 (by kernel_rfl) (by kernel_rfl) (by kernel_rfl) (by kernel_rfl)
    LoopsP.nil (e155 f182)
/-! impl.IsRig -/
def p114 : List SP := [.one (.r .device)]
def r114 : List SP := [.one (.bool)]
def q114_0 : List SP := pat 40 0 [(0, .one (.r .device)), (8, .one (.r .device)), (9, .one (.int .i64)), (10, .one (.int .i64))]
noncomputable def s114_0 (f141 : Device × Unit → Option (Bool × Unit)) (f155 : List Device × Device × Unit → Option (Bool × Unit)) (t1 : List Device × List Device × Int × Int × Unit) (rec K : List Device × List Device × Int × Int × Unit → Option (Bool × Unit)) : Option (Bool × Unit) :=
  cond (decide (t1.2.2.2.1 < t1.2.2.1)) (rdL t1.2.1 t1.2.2.2.1 fun d2 => (f141 (d2, ())).bind fun x3 => cond (!(!x3.1)) (cond (decide (t1.2.2.2.1 > 0)) (rdL t1.1 (w64 (t1.2.2.2.1 - 1)) fun d4 => cond (!(Op.bytesLess d2.Name d4.Name || decide (d2.Name = d4.Name))) ((f155 (t1.1, d2, ())).bind fun x5 => cond (!x5.1) (some (false, ())) (rec (t1.1, t1.2.1, t1.2.2.1, (w64 (t1.2.2.2.1 + 1)), ()))) (some (false, ()))) ((f155 (t1.1, d2, ())).bind fun x6 => cond (!x6.1) (some (false, ())) (rec (t1.1, t1.2.1, t1.2.2.1, (w64 (t1.2.2.2.1 + 1)), ())))) (some (false, ()))) (K (t1.1, t1.2.1, t1.2.2.1, t1.2.2.2.1, ()))
noncomputable def F114 (f141 : Device × Unit → Option (Bool × Unit)) (f155 : List Device × Device × Unit → Option (Bool × Unit)) (a : List Device × Unit) : Option (Bool × Unit) :=
  cond (decide ((Int.ofNat (List.length a.1)) > 8)) (some (false, ())) (iterF (s114_0 f141 f155) fuel (a.1, a.1, (Int.ofNat (List.length a.1)), 0, ()) fun t7 => some (true, ()))
def E114 (f141 : Device × Unit → Option (Bool × Unit)) (f155 : List Device × Device × Unit → Option (Bool × Unit)) : Env := envL [(141, mkE p141 r141 false f141), (155, mkE p155 r155 false f155)]
noncomputable def L114 (f141 : Device × Unit → Option (Bool × Unit)) (f155 : List Device × Device × Unit → Option (Bool × Unit)) : LEnv (densS (muts p114 ++ r114)) := lenv [(0, loopL (R := densS (muts p114 ++ r114)) q114_0 (s114_0 f141 f155))]
theorem e114_0 (f141 : Device × Unit → Option (Bool × Unit)) (f155 : List Device × Device × Unit → Option (Bool × Unit)) (X : Nat → St → Option (densS (muts p114 ++ r114))) (rec K : densS q114_0 → Option (densS (muts p114 ++ r114))) (t : densS q114_0) :
    ev (E114 f141 f155) tab (fun _ => false) (L114 f141 f155) (retK tab p114 r114 Proofs.Tryz.f114.results.toList) (loopC Proofs.Tryz.f114 0) (fun i s => cond (Nat.beq i 0) (decK 100 q114_0 s K) (X i s)) (fun s => decK 100 q114_0 s rec) (enc q114_0 t) = s114_0 f141 f155 t rec K := by kernel_rfl
theorem e114 (f141 : Device × Unit → Option (Bool × Unit)) (f155 : List Device × Device × Unit → Option (Bool × Unit)) (a : densS p114) : runF (E114 f141 f155) tab (fun _ => false) p114 r114 Proofs.Tryz.f114 (L114 f141 f155) a = F114 f141 f155 a := by kernel_rfl
theorem ok114 {f141 : Device × Unit → Option (Bool × Unit)} {f155 : List Device × Device × Unit → Option (Bool × Unit)} (h141 : OK Proofs.Tryz.prog 141 (mkE p141 r141 false f141)) (h155 : OK Proofs.Tryz.prog 155 (mkE p155 r155 false f155)) : OK Proofs.Tryz.prog 114 (mkE p114 r114 false (F114 f141 f155)) :=
  fn_ok tab_ok (envL_ok (l := [(141, mkE p141 r141 false f141), (155, mkE p155 r155 false f155)]) (OKs.cons h141 (OKs.cons h155 OKs.nil))) mixed (ann := (fun _ => false)) (L := L114 f141 f155) (fn := Proofs.Tryz.f114) (c := bodyC Proofs.Tryz.f114) (ls := [(0, loopC Proofs.Tryz.f114 0)]) Proofs.Tryz.func114 (by kernel_rfl) (by kernel_rfl) (by kernel_rfl) (by kernel_rfl)
    (LoopsP.cons q114_0 (s114_0 f141 f155) rfl (e114_0 f141 f155) LoopsP.nil) (e114 f141 f155)
/-! impl.IsCue -/
def p156 : List SP := [.t .cue]
def r156 : List SP := [.one (.bool)]
noncomputable def F156 (f117 : Int × Int × Int × Unit → Option (Bool × Unit)) (f168 : Str × Unit → Option (Bool × Unit)) (a : Cue × Unit) : Option (Bool × Unit) :=
  (f117 (a.1.Tick, 0, 64, ())).bind fun x1 => cond x1.1 ((f168 (a.1.Name, ())).bind fun x2 => cond x2.1 ((f117 (a.1.Level, 0, 32, ())).bind fun x3 => cond x3.1 ((f117 (a.1.Ramp, 0, 16, ())).bind fun x4 => some (x4.1, ())) (some (false, ()))) (some (false, ()))) (some (false, ()))
def E156 (f117 : Int × Int × Int × Unit → Option (Bool × Unit)) (f168 : Str × Unit → Option (Bool × Unit)) : Env := envL [(117, mkE p117 r117 false f117), (168, mkE p168 r168 false f168)]
noncomputable def L156 (f117 : Int × Int × Int × Unit → Option (Bool × Unit)) (f168 : Str × Unit → Option (Bool × Unit)) : LEnv (densS (muts p156 ++ r156)) := lenv []
theorem e156 (f117 : Int × Int × Int × Unit → Option (Bool × Unit)) (f168 : Str × Unit → Option (Bool × Unit)) (a : densS p156) : runF (E156 f117 f168) tab (fun _ => false) p156 r156 Proofs.Tryz.f156 (L156 f117 f168) a = F156 f117 f168 a := by kernel_rfl
theorem ok156 {f117 : Int × Int × Int × Unit → Option (Bool × Unit)} {f168 : Str × Unit → Option (Bool × Unit)} (h117 : OK Proofs.Tryz.prog 117 (mkE p117 r117 false f117)) (h168 : OK Proofs.Tryz.prog 168 (mkE p168 r168 false f168)) : OK Proofs.Tryz.prog 156 (mkE p156 r156 false (F156 f117 f168)) :=
  fn_ok tab_ok (envL_ok (l := [(117, mkE p117 r117 false f117), (168, mkE p168 r168 false f168)]) (OKs.cons h117 (OKs.cons h168 OKs.nil))) mixed (ann := (fun _ => false)) (L := L156 f117 f168) (fn := Proofs.Tryz.f156) (c := bodyC Proofs.Tryz.f156) (ls := []) Proofs.Tryz.func156 (by kernel_rfl) (by kernel_rfl) (by kernel_rfl) (by kernel_rfl)
    LoopsP.nil (e156 f117 f168)
/-! cmp.isNaN[int] -/
def p184 : List SP := [.one (.int .i64)]
def r184 : List SP := [.one (.bool)]
noncomputable def F184 (a : Int × Unit) : Option (Bool × Unit) :=
  some ((!(decide (a.1 = a.1))), ())
def E184 : Env := envL []
noncomputable def L184 : LEnv (densS (muts p184 ++ r184)) := lenv []
theorem e184 (a : densS p184) : runF (E184) tab (fun _ => false) p184 r184 Proofs.Tryz.f184 (L184) a = F184 a := by kernel_rfl
theorem ok184 : OK Proofs.Tryz.prog 184 (mkE p184 r184 false (F184)) :=
  fn_ok tab_ok (envL_ok (l := []) OKs.nil) mixed (ann := (fun _ => false)) (L := L184) (fn := Proofs.Tryz.f184) (c := bodyC Proofs.Tryz.f184) (ls := []) Proofs.Tryz.func184 (by kernel_rfl) (by kernel_rfl) (by kernel_rfl) (by kernel_rfl)
    LoopsP.nil (e184)
/-! cmp.Compare[int] -/
def p161 : List SP := [.one (.int .i64), .one (.int .i64)]
def r161 : List SP := [.one (.int .i64)]
noncomputable def F161 (f184 : Int × Unit → Option (Bool × Unit)) (a : Int × Int × Unit) : Option (Int × Unit) :=
  (f184 (a.1, ())).bind fun x1 => (f184 (a.2.1, ())).bind fun x2 => cond x1.1 (cond x2.1 (some (0, ())) (some ((-1), ()))) (cond x2.1 (some (1, ())) (cond (decide (a.1 < a.2.1)) (some ((-1), ())) (cond (decide (a.1 > a.2.1)) (some (1, ())) (some (0, ())))))
def E161 (f184 : Int × Unit → Option (Bool × Unit)) : Env := envL [(184, mkE p184 r184 false f184)]
noncomputable def L161 (f184 : Int × Unit → Option (Bool × Unit)) : LEnv (densS (muts p161 ++ r161)) := lenv []
theorem e161 (f184 : Int × Unit → Option (Bool × Unit)) (a : densS p161) : runF (E161 f184) tab (fun _ => false) p161 r161 Proofs.Tryz.f161 (L161 f184) a = F161 f184 a := by kernel_rfl
theorem ok161 {f184 : Int × Unit → Option (Bool × Unit)} (h184 : OK Proofs.Tryz.prog 184 (mkE p184 r184 false f184)) : OK Proofs.Tryz.prog 161 (mkE p161 r161 false (F161 f184)) :=
  fn_ok tab_ok (envL_ok (l := [(184, mkE p184 r184 false f184)]) (OKs.cons h184 OKs.nil)) mixed (ann := (fun _ => false)) (L := L161 f184) (fn := Proofs.Tryz.f161) (c := bodyC Proofs.Tryz.f161) (ls := []) Proofs.Tryz.func161 (by kernel_rfl) (by kernel_rfl) (by kernel_rfl) (by kernel_rfl)
    LoopsP.nil (e161 f184)
/-! cmp.isNaN[string] -/
def p190 : List SP := [.one (.str)]
def r190 : List SP := [.one (.bool)]
noncomputable def F190 (a : Str × Unit) : Option (Bool × Unit) :=
  some ((!decide (a.1 = a.1)), ())
def E190 : Env := envL []
noncomputable def L190 : LEnv (densS (muts p190 ++ r190)) := lenv []
theorem e190 (a : densS p190) : runF (E190) tab (fun _ => false) p190 r190 Proofs.Tryz.f190 (L190) a = F190 a := by kernel_rfl
theorem ok190 : OK Proofs.Tryz.prog 190 (mkE p190 r190 false (F190)) :=
  fn_ok tab_ok (envL_ok (l := []) OKs.nil) mixed (ann := (fun _ => false)) (L := L190) (fn := Proofs.Tryz.f190) (c := bodyC Proofs.Tryz.f190) (ls := []) Proofs.Tryz.func190 (by kernel_rfl) (by kernel_rfl) (by kernel_rfl) (by kernel_rfl)
    LoopsP.nil (e190)
/-! cmp.Compare[string] -/
def p183 : List SP := [.one (.str), .one (.str)]
def r183 : List SP := [.one (.int .i64)]
noncomputable def F183 (f190 : Str × Unit → Option (Bool × Unit)) (a : Str × Str × Unit) : Option (Int × Unit) :=
  (f190 (a.1, ())).bind fun x1 => (f190 (a.2.1, ())).bind fun x2 => cond x1.1 (cond x2.1 (some (0, ())) (some ((-1), ()))) (cond x2.1 (some (1, ())) (cond (Op.bytesLess a.1 a.2.1) (some ((-1), ())) (cond (!(Op.bytesLess a.1 a.2.1 || decide (a.1 = a.2.1))) (some (1, ())) (some (0, ())))))
def E183 (f190 : Str × Unit → Option (Bool × Unit)) : Env := envL [(190, mkE p190 r190 false f190)]
noncomputable def L183 (f190 : Str × Unit → Option (Bool × Unit)) : LEnv (densS (muts p183 ++ r183)) := lenv []
theorem e183 (f190 : Str × Unit → Option (Bool × Unit)) (a : densS p183) : runF (E183 f190) tab (fun _ => false) p183 r183 Proofs.Tryz.f183 (L183 f190) a = F183 f190 a := by kernel_rfl
theorem ok183 {f190 : Str × Unit → Option (Bool × Unit)} (h190 : OK Proofs.Tryz.prog 190 (mkE p190 r190 false f190)) : OK Proofs.Tryz.prog 183 (mkE p183 r183 false (F183 f190)) :=
  fn_ok tab_ok (envL_ok (l := [(190, mkE p190 r190 false f190)]) (OKs.cons h190 OKs.nil)) mixed (ann := (fun _ => false)) (L := L183 f190) (fn := Proofs.Tryz.f183) (c := bodyC Proofs.Tryz.f183) (ls := []) Proofs.Tryz.func183 (by kernel_rfl) (by kernel_rfl) (by kernel_rfl) (by kernel_rfl)
    LoopsP.nil (e183 f190)
/-! cmp.Or[int] -/
def p160 : List SP := [.one (.r .int)]
def r160 : List SP := [.one (.int .i64)]
def q160_0 : List SP := pat 18 0 [(3, .one (.int .i64)), (6, .one (.r .int)), (7, .one (.int .i64)), (8, .one (.int .i64))]
noncomputable def s160_0 (t1 : Int × List Int × Int × Int × Unit) (rec K : Int × List Int × Int × Int × Unit → Option (Int × Unit)) : Option (Int × Unit) :=
  cond (decide (t1.2.2.2.1 < t1.2.2.1)) (rdL t1.2.1 t1.2.2.2.1 fun d2 => cond (!(decide (d2 = t1.1))) (some (d2, ())) (rec (t1.1, t1.2.1, t1.2.2.1, (w64 (t1.2.2.2.1 + 1)), ()))) (K (t1.1, t1.2.1, t1.2.2.1, t1.2.2.2.1, ()))
noncomputable def F160 (a : List Int × Unit) : Option (Int × Unit) :=
  iterF (s160_0) fuel (0, a.1, (Int.ofNat (List.length a.1)), 0, ()) fun t3 => some (t3.1, ())
def E160 : Env := envL []
noncomputable def L160 : LEnv (densS (muts p160 ++ r160)) := lenv [(0, loopL (R := densS (muts p160 ++ r160)) q160_0 (s160_0))]
theorem e160_0 (X : Nat → St → Option (densS (muts p160 ++ r160))) (rec K : densS q160_0 → Option (densS (muts p160 ++ r160))) (t : densS q160_0) :
    ev (E160) tab (fun _ => false) (L160) (retK tab p160 r160 Proofs.Tryz.f160.results.toList) (loopC Proofs.Tryz.f160 0) (fun i s => cond (Nat.beq i 0) (decK 100 q160_0 s K) (X i s)) (fun s => decK 100 q160_0 s rec) (enc q160_0 t) = s160_0 t rec K := by kernel_rfl
theorem e160 (a : densS p160) : runF (E160) tab (fun _ => false) p160 r160 Proofs.Tryz.f160 (L160) a = F160 a := by kernel_rfl
theorem ok160 : OK Proofs.Tryz.prog 160 (mkE p160 r160 false (F160)) :=
  fn_ok tab_ok (envL_ok (l := []) OKs.nil) mixed (ann := (fun _ => false)) (L := L160) (fn := Proofs.Tryz.f160) (c := bodyC Proofs.Tryz.f160) (ls := [(0, loopC Proofs.Tryz.f160 0)]) Proofs.Tryz.func160 (by kernel_rfl) (by kernel_rfl) (by kernel_rfl) (by kernel_rfl)
    (LoopsP.cons q160_0 (s160_0) rfl (e160_0) LoopsP.nil) (e160)
/-! impl.CompareCues -/
def p157 : List SP := [.t .cue, .t .cue]
def r157 : List SP := [.one (.int .i64)]
noncomputable def F157 (f161 : Int × Int × Unit → Option (Int × Unit)) (f183 : Str × Str × Unit → Option (Int × Unit)) (f160 : List Int × Unit → Option (Int × Unit)) (a : Cue × Cue × Unit) : Option (Int × Unit) :=
  (f161 (a.1.Tick, a.2.1.Tick, ())).bind fun x1 => (f183 (a.1.Name, a.2.1.Name, ())).bind fun x2 => (f160 (([x1.1, x2.1] : List Int), ())).bind fun x3 => some (x3.1, ())
def E157 (f161 : Int × Int × Unit → Option (Int × Unit)) (f183 : Str × Str × Unit → Option (Int × Unit)) (f160 : List Int × Unit → Option (Int × Unit)) : Env := envL [(161, mkE p161 r161 false f161), (183, mkE p183 r183 false f183), (160, mkE p160 r160 false f160)]
noncomputable def L157 (f161 : Int × Int × Unit → Option (Int × Unit)) (f183 : Str × Str × Unit → Option (Int × Unit)) (f160 : List Int × Unit → Option (Int × Unit)) : LEnv (densS (muts p157 ++ r157)) := lenv []
theorem e157 (f161 : Int × Int × Unit → Option (Int × Unit)) (f183 : Str × Str × Unit → Option (Int × Unit)) (f160 : List Int × Unit → Option (Int × Unit)) (a : densS p157) : runF (E157 f161 f183 f160) tab (fun _ => false) p157 r157 Proofs.Tryz.f157 (L157 f161 f183 f160) a = F157 f161 f183 f160 a := by kernel_rfl
theorem ok157 {f161 : Int × Int × Unit → Option (Int × Unit)} {f183 : Str × Str × Unit → Option (Int × Unit)} {f160 : List Int × Unit → Option (Int × Unit)} (h161 : OK Proofs.Tryz.prog 161 (mkE p161 r161 false f161)) (h183 : OK Proofs.Tryz.prog 183 (mkE p183 r183 false f183)) (h160 : OK Proofs.Tryz.prog 160 (mkE p160 r160 false f160)) : OK Proofs.Tryz.prog 157 (mkE p157 r157 false (F157 f161 f183 f160)) :=
  fn_ok tab_ok (envL_ok (l := [(161, mkE p161 r161 false f161), (183, mkE p183 r183 false f183), (160, mkE p160 r160 false f160)]) (OKs.cons h161 (OKs.cons h183 (OKs.cons h160 OKs.nil)))) mixed (ann := (fun _ => false)) (L := L157 f161 f183 f160) (fn := Proofs.Tryz.f157) (c := bodyC Proofs.Tryz.f157) (ls := []) Proofs.Tryz.func157 (by kernel_rfl) (by kernel_rfl) (by kernel_rfl) (by kernel_rfl)
    LoopsP.nil (e157 f161 f183 f160)
/-! impl.IsScore -/
def p115 : List SP := [.one (.r .cue)]
def r115 : List SP := [.one (.bool)]
def q115_0 : List SP := pat 33 0 [(0, .one (.r .cue)), (5, .one (.r .cue)), (6, .one (.int .i64)), (7, .one (.int .i64))]
noncomputable def s115_0 (f156 : Cue × Unit → Option (Bool × Unit)) (f157 : Cue × Cue × Unit → Option (Int × Unit)) (t1 : List Cue × List Cue × Int × Int × Unit) (rec K : List Cue × List Cue × Int × Int × Unit → Option (Bool × Unit)) : Option (Bool × Unit) :=
  cond (decide (t1.2.2.2.1 < t1.2.2.1)) (rdL t1.2.1 t1.2.2.2.1 fun d2 => (f156 (d2, ())).bind fun x3 => cond (!(!x3.1)) (cond (decide (t1.2.2.2.1 > 0)) (rdL t1.1 (w64 (t1.2.2.2.1 - 1)) fun d4 => (f157 (d4, d2, ())).bind fun x5 => cond (decide (x5.1 ≥ 0)) (some (false, ())) (rec (t1.1, t1.2.1, t1.2.2.1, (w64 (t1.2.2.2.1 + 1)), ()))) (rec (t1.1, t1.2.1, t1.2.2.1, (w64 (t1.2.2.2.1 + 1)), ()))) (some (false, ()))) (K (t1.1, t1.2.1, t1.2.2.1, t1.2.2.2.1, ()))
noncomputable def F115 (f156 : Cue × Unit → Option (Bool × Unit)) (f157 : Cue × Cue × Unit → Option (Int × Unit)) (a : List Cue × Unit) : Option (Bool × Unit) :=
  iterF (s115_0 f156 f157) fuel (a.1, a.1, (Int.ofNat (List.length a.1)), 0, ()) fun t6 => some ((decide ((Int.ofNat (List.length t6.1)) ≤ 12)), ())
def E115 (f156 : Cue × Unit → Option (Bool × Unit)) (f157 : Cue × Cue × Unit → Option (Int × Unit)) : Env := envL [(156, mkE p156 r156 false f156), (157, mkE p157 r157 false f157)]
noncomputable def L115 (f156 : Cue × Unit → Option (Bool × Unit)) (f157 : Cue × Cue × Unit → Option (Int × Unit)) : LEnv (densS (muts p115 ++ r115)) := lenv [(0, loopL (R := densS (muts p115 ++ r115)) q115_0 (s115_0 f156 f157))]
theorem e115_0 (f156 : Cue × Unit → Option (Bool × Unit)) (f157 : Cue × Cue × Unit → Option (Int × Unit)) (X : Nat → St → Option (densS (muts p115 ++ r115))) (rec K : densS q115_0 → Option (densS (muts p115 ++ r115))) (t : densS q115_0) :
    ev (E115 f156 f157) tab (fun _ => false) (L115 f156 f157) (retK tab p115 r115 Proofs.Tryz.f115.results.toList) (loopC Proofs.Tryz.f115 0) (fun i s => cond (Nat.beq i 0) (decK 100 q115_0 s K) (X i s)) (fun s => decK 100 q115_0 s rec) (enc q115_0 t) = s115_0 f156 f157 t rec K := by kernel_rfl
theorem e115 (f156 : Cue × Unit → Option (Bool × Unit)) (f157 : Cue × Cue × Unit → Option (Int × Unit)) (a : densS p115) : runF (E115 f156 f157) tab (fun _ => false) p115 r115 Proofs.Tryz.f115 (L115 f156 f157) a = F115 f156 f157 a := by kernel_rfl
theorem ok115 {f156 : Cue × Unit → Option (Bool × Unit)} {f157 : Cue × Cue × Unit → Option (Int × Unit)} (h156 : OK Proofs.Tryz.prog 156 (mkE p156 r156 false f156)) (h157 : OK Proofs.Tryz.prog 157 (mkE p157 r157 false f157)) : OK Proofs.Tryz.prog 115 (mkE p115 r115 false (F115 f156 f157)) :=
  fn_ok tab_ok (envL_ok (l := [(156, mkE p156 r156 false f156), (157, mkE p157 r157 false f157)]) (OKs.cons h156 (OKs.cons h157 OKs.nil))) mixed (ann := (fun _ => false)) (L := L115 f156 f157) (fn := Proofs.Tryz.f115) (c := bodyC Proofs.Tryz.f115) (ls := [(0, loopC Proofs.Tryz.f115 0)]) Proofs.Tryz.func115 (by kernel_rfl) (by kernel_rfl) (by kernel_rfl) (by kernel_rfl)
    (LoopsP.cons q115_0 (s115_0 f156 f157) rfl (e115_0 f156 f157) LoopsP.nil) (e115 f156 f157)
/-! impl.isDrift -/
def p125 : List SP := [.t .place]
def r125 : List SP := [.one (.bool)]
noncomputable def F125 (f117 : Int × Int × Int × Unit → Option (Bool × Unit)) (a : Place × Unit) : Option (Bool × Unit) :=
  (f117 (a.1.X, (-8), 8, ())).bind fun x1 => cond x1.1 ((f117 (a.1.Y, (-8), 8, ())).bind fun x2 => some (x2.1, ())) (some (false, ()))
def E125 (f117 : Int × Int × Int × Unit → Option (Bool × Unit)) : Env := envL [(117, mkE p117 r117 false f117)]
noncomputable def L125 (f117 : Int × Int × Int × Unit → Option (Bool × Unit)) : LEnv (densS (muts p125 ++ r125)) := lenv []
theorem e125 (f117 : Int × Int × Int × Unit → Option (Bool × Unit)) (a : densS p125) : runF (E125 f117) tab (fun _ => false) p125 r125 Proofs.Tryz.f125 (L125 f117) a = F125 f117 a := by kernel_rfl
theorem ok125 {f117 : Int × Int × Int × Unit → Option (Bool × Unit)} (h117 : OK Proofs.Tryz.prog 117 (mkE p117 r117 false f117)) : OK Proofs.Tryz.prog 125 (mkE p125 r125 false (F125 f117)) :=
  fn_ok tab_ok (envL_ok (l := [(117, mkE p117 r117 false f117)]) (OKs.cons h117 OKs.nil)) mixed (ann := (fun _ => false)) (L := L125 f117) (fn := Proofs.Tryz.f125) (c := bodyC Proofs.Tryz.f125) (ls := []) Proofs.Tryz.func125 (by kernel_rfl) (by kernel_rfl) (by kernel_rfl) (by kernel_rfl)
    LoopsP.nil (e125 f117)
/-! impl.IsWind -/
def p116 : List SP := [.one (.r .gust)]
def r116 : List SP := [.one (.bool)]
def q116_0 : List SP := pat 41 0 [(0, .one (.r .gust)), (5, .one (.r .gust)), (6, .one (.int .i64)), (7, .one (.int .i64))]
noncomputable def s116_0 (f117 : Int × Int × Int × Unit → Option (Bool × Unit)) (f125 : Place × Unit → Option (Bool × Unit)) (t1 : List Gust × List Gust × Int × Int × Unit) (rec K : List Gust × List Gust × Int × Int × Unit → Option (Bool × Unit)) : Option (Bool × Unit) :=
  cond (decide (t1.2.2.2.1 < t1.2.2.1)) (rdL t1.2.1 t1.2.2.2.1 fun d2 => (f117 (d2.From, 0, 64, ())).bind fun x3 => cond (!(!x3.1)) ((f125 (d2.Drift, ())).bind fun x4 => cond (!(!x4.1)) (cond (decide (t1.2.2.2.1 > 0)) (rdL t1.1 (w64 (t1.2.2.2.1 - 1)) fun d5 => cond (decide (d2.From ≤ d5.From)) (some (false, ())) (rec (t1.1, t1.2.1, t1.2.2.1, (w64 (t1.2.2.2.1 + 1)), ()))) (rec (t1.1, t1.2.1, t1.2.2.1, (w64 (t1.2.2.2.1 + 1)), ()))) (some (false, ()))) (some (false, ()))) (K (t1.1, t1.2.1, t1.2.2.1, t1.2.2.2.1, ()))
noncomputable def F116 (f117 : Int × Int × Int × Unit → Option (Bool × Unit)) (f125 : Place × Unit → Option (Bool × Unit)) (a : List Gust × Unit) : Option (Bool × Unit) :=
  iterF (s116_0 f117 f125) fuel (a.1, a.1, (Int.ofNat (List.length a.1)), 0, ()) fun t6 => some ((decide ((Int.ofNat (List.length t6.1)) ≤ 8)), ())
def E116 (f117 : Int × Int × Int × Unit → Option (Bool × Unit)) (f125 : Place × Unit → Option (Bool × Unit)) : Env := envL [(117, mkE p117 r117 false f117), (125, mkE p125 r125 false f125)]
noncomputable def L116 (f117 : Int × Int × Int × Unit → Option (Bool × Unit)) (f125 : Place × Unit → Option (Bool × Unit)) : LEnv (densS (muts p116 ++ r116)) := lenv [(0, loopL (R := densS (muts p116 ++ r116)) q116_0 (s116_0 f117 f125))]
theorem e116_0 (f117 : Int × Int × Int × Unit → Option (Bool × Unit)) (f125 : Place × Unit → Option (Bool × Unit)) (X : Nat → St → Option (densS (muts p116 ++ r116))) (rec K : densS q116_0 → Option (densS (muts p116 ++ r116))) (t : densS q116_0) :
    ev (E116 f117 f125) tab (fun _ => false) (L116 f117 f125) (retK tab p116 r116 Proofs.Tryz.f116.results.toList) (loopC Proofs.Tryz.f116 0) (fun i s => cond (Nat.beq i 0) (decK 100 q116_0 s K) (X i s)) (fun s => decK 100 q116_0 s rec) (enc q116_0 t) = s116_0 f117 f125 t rec K := by kernel_rfl
theorem e116 (f117 : Int × Int × Int × Unit → Option (Bool × Unit)) (f125 : Place × Unit → Option (Bool × Unit)) (a : densS p116) : runF (E116 f117 f125) tab (fun _ => false) p116 r116 Proofs.Tryz.f116 (L116 f117 f125) a = F116 f117 f125 a := by kernel_rfl
theorem ok116 {f117 : Int × Int × Int × Unit → Option (Bool × Unit)} {f125 : Place × Unit → Option (Bool × Unit)} (h117 : OK Proofs.Tryz.prog 117 (mkE p117 r117 false f117)) (h125 : OK Proofs.Tryz.prog 125 (mkE p125 r125 false f125)) : OK Proofs.Tryz.prog 116 (mkE p116 r116 false (F116 f117 f125)) :=
  fn_ok tab_ok (envL_ok (l := [(117, mkE p117 r117 false f117), (125, mkE p125 r125 false f125)]) (OKs.cons h117 (OKs.cons h125 OKs.nil))) mixed (ann := (fun _ => false)) (L := L116 f117 f125) (fn := Proofs.Tryz.f116) (c := bodyC Proofs.Tryz.f116) (ls := [(0, loopC Proofs.Tryz.f116 0)]) Proofs.Tryz.func116 (by kernel_rfl) (by kernel_rfl) (by kernel_rfl) (by kernel_rfl)
    (LoopsP.cons q116_0 (s116_0 f117 f125) rfl (e116_0 f117 f125) LoopsP.nil) (e116 f117 f125)
/-! impl.IsShow -/
def p66 : List SP := [.agg [.r .device, .r .cue, .r .gust, .int .i64]]
def r66 : List SP := [.one (.bool)]
noncomputable def F66 (f114 : List Device × Unit → Option (Bool × Unit)) (f115 : List Cue × Unit → Option (Bool × Unit)) (f116 : List Gust × Unit → Option (Bool × Unit)) (f117 : Int × Int × Int × Unit → Option (Bool × Unit)) (a : (List Device × List Cue × List Gust × Int × Unit) × Unit) : Option (Bool × Unit) :=
  (f114 (a.1.1, ())).bind fun x1 => cond x1.1 ((f115 (a.1.2.1, ())).bind fun x2 => cond x2.1 ((f116 (a.1.2.2.1, ())).bind fun x3 => cond x3.1 ((f117 (a.1.2.2.2.1, 0, 64, ())).bind fun x4 => some (x4.1, ())) (some (false, ()))) (some (false, ()))) (some (false, ()))
def E66 (f114 : List Device × Unit → Option (Bool × Unit)) (f115 : List Cue × Unit → Option (Bool × Unit)) (f116 : List Gust × Unit → Option (Bool × Unit)) (f117 : Int × Int × Int × Unit → Option (Bool × Unit)) : Env := envL [(114, mkE p114 r114 false f114), (115, mkE p115 r115 false f115), (116, mkE p116 r116 false f116), (117, mkE p117 r117 false f117)]
noncomputable def L66 (f114 : List Device × Unit → Option (Bool × Unit)) (f115 : List Cue × Unit → Option (Bool × Unit)) (f116 : List Gust × Unit → Option (Bool × Unit)) (f117 : Int × Int × Int × Unit → Option (Bool × Unit)) : LEnv (densS (muts p66 ++ r66)) := lenv []
theorem e66 (f114 : List Device × Unit → Option (Bool × Unit)) (f115 : List Cue × Unit → Option (Bool × Unit)) (f116 : List Gust × Unit → Option (Bool × Unit)) (f117 : Int × Int × Int × Unit → Option (Bool × Unit)) (a : densS p66) : runF (E66 f114 f115 f116 f117) tab (fun _ => false) p66 r66 Proofs.Tryz.f66 (L66 f114 f115 f116 f117) a = F66 f114 f115 f116 f117 a := by kernel_rfl
theorem ok66 {f114 : List Device × Unit → Option (Bool × Unit)} {f115 : List Cue × Unit → Option (Bool × Unit)} {f116 : List Gust × Unit → Option (Bool × Unit)} {f117 : Int × Int × Int × Unit → Option (Bool × Unit)} (h114 : OK Proofs.Tryz.prog 114 (mkE p114 r114 false f114)) (h115 : OK Proofs.Tryz.prog 115 (mkE p115 r115 false f115)) (h116 : OK Proofs.Tryz.prog 116 (mkE p116 r116 false f116)) (h117 : OK Proofs.Tryz.prog 117 (mkE p117 r117 false f117)) : OK Proofs.Tryz.prog 66 (mkE p66 r66 false (F66 f114 f115 f116 f117)) :=
  fn_ok tab_ok (envL_ok (l := [(114, mkE p114 r114 false f114), (115, mkE p115 r115 false f115), (116, mkE p116 r116 false f116), (117, mkE p117 r117 false f117)]) (OKs.cons h114 (OKs.cons h115 (OKs.cons h116 (OKs.cons h117 OKs.nil))))) mixed (ann := (fun _ => false)) (L := L66 f114 f115 f116 f117) (fn := Proofs.Tryz.f66) (c := bodyC Proofs.Tryz.f66) (ls := []) Proofs.Tryz.func66 (by kernel_rfl) (by kernel_rfl) (by kernel_rfl) (by kernel_rfl)
    LoopsP.nil (e66 f114 f115 f116 f117)
/-! impl.floorDiv -/
def p187 : List SP := [.one (.int .i64), .one (.int .i64)]
def r187 : List SP := [.one (.int .i64)]
noncomputable def F187 (a : Int × Int × Unit) : Option (Int × Unit) :=
  cond (decide (a.2.1 = 0)) none (cond (decide (a.2.1 = 0)) none (cond (decide ((Int.tmod a.1 a.2.1) < 0)) (some ((w64 ((w64 (Int.tdiv a.1 a.2.1)) - 1)), ())) (some ((w64 (Int.tdiv a.1 a.2.1)), ()))))
def E187 : Env := envL []
noncomputable def L187 : LEnv (densS (muts p187 ++ r187)) := lenv []
theorem e187 (a : densS p187) : runF (E187) tab (fun _ => false) p187 r187 Proofs.Tryz.f187 (L187) a = F187 a := by kernel_rfl
theorem ok187 : OK Proofs.Tryz.prog 187 (mkE p187 r187 false (F187)) :=
  fn_ok tab_ok (envL_ok (l := []) OKs.nil) mixed (ann := (fun _ => false)) (L := L187) (fn := Proofs.Tryz.f187) (c := bodyC Proofs.Tryz.f187) (ls := []) Proofs.Tryz.func187 (by kernel_rfl) (by kernel_rfl) (by kernel_rfl) (by kernel_rfl)
    LoopsP.nil (e187)
/-! impl.RampAt -/
def p176 : List SP := [.one (.int .i64), .one (.int .i64), .one (.int .i64), .one (.int .i64)]
def r176 : List SP := [.one (.int .i64)]
noncomputable def F176 (f158 : Int × Unit → Option (Bool × Unit)) (f187 : Int × Int × Unit → Option (Int × Unit)) (a : Int × Int × Int × Int × Unit) : Option (Int × Unit) :=
  (f158 (a.1, ())).bind fun x1 => cond (!(!x1.1)) ((f158 (a.2.1, ())).bind fun x2 => cond (!x2.1) (some (0, ())) (cond (decide (a.2.2.1 ≥ a.2.2.2.1)) (some (a.2.1, ())) (cond (!(decide (a.2.2.1 ≤ 0))) (cond (decide (a.2.2.2.1 > 999)) (some (a.1, ())) ((f187 ((w64 (a.2.2.1 * (w64 (a.2.1 - a.1)))), a.2.2.2.1, ())).bind fun x3 => some ((w64 (a.1 + x3.1)), ()))) (some (a.1, ()))))) (some (0, ()))
def E176 (f158 : Int × Unit → Option (Bool × Unit)) (f187 : Int × Int × Unit → Option (Int × Unit)) : Env := envL [(158, mkE p158 r158 false f158), (187, mkE p187 r187 false f187)]
noncomputable def L176 (f158 : Int × Unit → Option (Bool × Unit)) (f187 : Int × Int × Unit → Option (Int × Unit)) : LEnv (densS (muts p176 ++ r176)) := lenv []
theorem e176 (f158 : Int × Unit → Option (Bool × Unit)) (f187 : Int × Int × Unit → Option (Int × Unit)) (a : densS p176) : runF (E176 f158 f187) tab (fun _ => false) p176 r176 Proofs.Tryz.f176 (L176 f158 f187) a = F176 f158 f187 a := by kernel_rfl
theorem ok176 {f158 : Int × Unit → Option (Bool × Unit)} {f187 : Int × Int × Unit → Option (Int × Unit)} (h158 : OK Proofs.Tryz.prog 158 (mkE p158 r158 false f158)) (h187 : OK Proofs.Tryz.prog 187 (mkE p187 r187 false f187)) : OK Proofs.Tryz.prog 176 (mkE p176 r176 false (F176 f158 f187)) :=
  fn_ok tab_ok (envL_ok (l := [(158, mkE p158 r158 false f158), (187, mkE p187 r187 false f187)]) (OKs.cons h158 (OKs.cons h187 OKs.nil))) mixed (ann := (fun _ => false)) (L := L176 f158 f187) (fn := Proofs.Tryz.f176) (c := bodyC Proofs.Tryz.f176) (ls := []) Proofs.Tryz.func176 (by kernel_rfl) (by kernel_rfl) (by kernel_rfl) (by kernel_rfl)
    LoopsP.nil (e176 f158 f187)
/-! impl.LevelAt -/
def p148 : List SP := [.one (.r .cue), .one (.str), .one (.int .i64)]
def r148 : List SP := [.one (.int .i64)]
def q148_0 : List SP := pat 58 0 [(1, .one (.str)), (2, .one (.int .i64)), (7, .one (.int .i64)), (8, .boxt 5000001 .cue), (19, .one (.r .cue)), (20, .one (.int .i64)), (21, .one (.int .i64))]
noncomputable def s148_0 (f115 : List Cue × Unit → Option (Bool × Unit)) (f176 : Int × Int × Int × Int × Unit → Option (Int × Unit)) (t2 : Str × Int × Int × Cue × List Cue × Int × Int × Unit) (rec K : Str × Int × Int × Cue × List Cue × Int × Int × Unit → Option (Int × Unit)) : Option (Int × Unit) :=
  cond (decide (t2.2.2.2.2.2.2.1 < t2.2.2.2.2.2.1)) (rdL t2.2.2.2.2.1 t2.2.2.2.2.2.2.1 fun d3 => cond (decide (d3.Name = t2.1)) (cond (decide (d3.Tick ≤ t2.2.1)) ((f176 (t2.2.2.1, t2.2.2.2.1.Level, (w64 (d3.Tick - t2.2.2.2.1.Tick)), t2.2.2.2.1.Ramp, ())).bind fun x4 => rec (t2.1, t2.2.1, x4.1, d3, t2.2.2.2.2.1, t2.2.2.2.2.2.1, (w64 (t2.2.2.2.2.2.2.1 + 1)), ())) (rec (t2.1, t2.2.1, t2.2.2.1, t2.2.2.2.1, t2.2.2.2.2.1, t2.2.2.2.2.2.1, (w64 (t2.2.2.2.2.2.2.1 + 1)), ()))) (rec (t2.1, t2.2.1, t2.2.2.1, t2.2.2.2.1, t2.2.2.2.2.1, t2.2.2.2.2.2.1, (w64 (t2.2.2.2.2.2.2.1 + 1)), ()))) (K (t2.1, t2.2.1, t2.2.2.1, t2.2.2.2.1, t2.2.2.2.2.1, t2.2.2.2.2.2.1, t2.2.2.2.2.2.2.1, ()))
noncomputable def F148 (f115 : List Cue × Unit → Option (Bool × Unit)) (f176 : Int × Int × Int × Int × Unit → Option (Int × Unit)) (a : List Cue × Str × Int × Unit) : Option (Int × Unit) :=
  (f115 (a.1, ())).bind fun x1 => cond (!(!x1.1)) (cond (decide (a.2.2.1 < 0)) (some (0, ())) (iterF (s148_0 f115 f176) fuel (a.2.1, a.2.2.1, 0, (⟨0, [], 0, 0⟩ : Cue), a.1, (Int.ofNat (List.length a.1)), 0, ()) fun t5 => (f176 (t5.2.2.1, t5.2.2.2.1.Level, (w64 (t5.2.1 - t5.2.2.2.1.Tick)), t5.2.2.2.1.Ramp, ())).bind fun x6 => some (x6.1, ()))) (some (0, ()))
def E148 (f115 : List Cue × Unit → Option (Bool × Unit)) (f176 : Int × Int × Int × Int × Unit → Option (Int × Unit)) : Env := envL [(115, mkE p115 r115 false f115), (176, mkE p176 r176 false f176)]
noncomputable def L148 (f115 : List Cue × Unit → Option (Bool × Unit)) (f176 : Int × Int × Int × Int × Unit → Option (Int × Unit)) : LEnv (densS (muts p148 ++ r148)) := lenv [(0, loopL (R := densS (muts p148 ++ r148)) q148_0 (s148_0 f115 f176))]
theorem e148_0 (f115 : List Cue × Unit → Option (Bool × Unit)) (f176 : Int × Int × Int × Int × Unit → Option (Int × Unit)) (X : Nat → St → Option (densS (muts p148 ++ r148))) (rec K : densS q148_0 → Option (densS (muts p148 ++ r148))) (t : densS q148_0) :
    ev (E148 f115 f176) tab (fun _ => false) (L148 f115 f176) (retK tab p148 r148 Proofs.Tryz.f148.results.toList) (loopC Proofs.Tryz.f148 0) (fun i s => cond (Nat.beq i 0) (decK 100 q148_0 s K) (X i s)) (fun s => decK 100 q148_0 s rec) (enc q148_0 t) = s148_0 f115 f176 t rec K := by kernel_rfl
theorem e148 (f115 : List Cue × Unit → Option (Bool × Unit)) (f176 : Int × Int × Int × Int × Unit → Option (Int × Unit)) (a : densS p148) : runF (E148 f115 f176) tab (fun _ => false) p148 r148 Proofs.Tryz.f148 (L148 f115 f176) a = F148 f115 f176 a := by kernel_rfl
theorem ok148 {f115 : List Cue × Unit → Option (Bool × Unit)} {f176 : Int × Int × Int × Int × Unit → Option (Int × Unit)} (h115 : OK Proofs.Tryz.prog 115 (mkE p115 r115 false f115)) (h176 : OK Proofs.Tryz.prog 176 (mkE p176 r176 false f176)) : OK Proofs.Tryz.prog 148 (mkE p148 r148 false (F148 f115 f176)) :=
  fn_ok tab_ok (envL_ok (l := [(115, mkE p115 r115 false f115), (176, mkE p176 r176 false f176)]) (OKs.cons h115 (OKs.cons h176 OKs.nil))) mixed (ann := (fun _ => false)) (L := L148 f115 f176) (fn := Proofs.Tryz.f148) (c := bodyC Proofs.Tryz.f148) (ls := [(0, loopC Proofs.Tryz.f148 0)]) Proofs.Tryz.func148 (by kernel_rfl) (by kernel_rfl) (by kernel_rfl) (by kernel_rfl)
    (LoopsP.cons q148_0 (s148_0 f115 f176) rfl (e148_0 f115 f176) LoopsP.nil) (e148 f115 f176)
/-! impl.IsDemands -/
def p177 : List SP := [.one (.r .int)]
def r177 : List SP := [.one (.bool)]
def q177_0 : List SP := pat 18 0 [(0, .one (.r .int)), (5, .one (.r .int)), (6, .one (.int .i64)), (7, .one (.int .i64))]
noncomputable def s177_0 (f117 : Int × Int × Int × Unit → Option (Bool × Unit)) (t1 : List Int × List Int × Int × Int × Unit) (rec K : List Int × List Int × Int × Int × Unit → Option (Bool × Unit)) : Option (Bool × Unit) :=
  cond (decide (t1.2.2.2.1 < t1.2.2.1)) (rdL t1.2.1 t1.2.2.2.1 fun d2 => (f117 (d2, 0, 64, ())).bind fun x3 => cond (!x3.1) (some (false, ())) (rec (t1.1, t1.2.1, t1.2.2.1, (w64 (t1.2.2.2.1 + 1)), ()))) (K (t1.1, t1.2.1, t1.2.2.1, t1.2.2.2.1, ()))
noncomputable def F177 (f117 : Int × Int × Int × Unit → Option (Bool × Unit)) (a : List Int × Unit) : Option (Bool × Unit) :=
  iterF (s177_0 f117) fuel (a.1, a.1, (Int.ofNat (List.length a.1)), 0, ()) fun t4 => some ((decide ((Int.ofNat (List.length t4.1)) ≤ 8)), ())
def E177 (f117 : Int × Int × Int × Unit → Option (Bool × Unit)) : Env := envL [(117, mkE p117 r117 false f117)]
noncomputable def L177 (f117 : Int × Int × Int × Unit → Option (Bool × Unit)) : LEnv (densS (muts p177 ++ r177)) := lenv [(0, loopL (R := densS (muts p177 ++ r177)) q177_0 (s177_0 f117))]
theorem e177_0 (f117 : Int × Int × Int × Unit → Option (Bool × Unit)) (X : Nat → St → Option (densS (muts p177 ++ r177))) (rec K : densS q177_0 → Option (densS (muts p177 ++ r177))) (t : densS q177_0) :
    ev (E177 f117) tab (fun _ => false) (L177 f117) (retK tab p177 r177 Proofs.Tryz.f177.results.toList) (loopC Proofs.Tryz.f177 0) (fun i s => cond (Nat.beq i 0) (decK 100 q177_0 s K) (X i s)) (fun s => decK 100 q177_0 s rec) (enc q177_0 t) = s177_0 f117 t rec K := by kernel_rfl
theorem e177 (f117 : Int × Int × Int × Unit → Option (Bool × Unit)) (a : densS p177) : runF (E177 f117) tab (fun _ => false) p177 r177 Proofs.Tryz.f177 (L177 f117) a = F177 f117 a := by kernel_rfl
theorem ok177 {f117 : Int × Int × Int × Unit → Option (Bool × Unit)} (h117 : OK Proofs.Tryz.prog 117 (mkE p117 r117 false f117)) : OK Proofs.Tryz.prog 177 (mkE p177 r177 false (F177 f117)) :=
  fn_ok tab_ok (envL_ok (l := [(117, mkE p117 r117 false f117)]) (OKs.cons h117 OKs.nil)) mixed (ann := (fun _ => false)) (L := L177 f117) (fn := Proofs.Tryz.f177) (c := bodyC Proofs.Tryz.f177) (ls := [(0, loopC Proofs.Tryz.f177 0)]) Proofs.Tryz.func177 (by kernel_rfl) (by kernel_rfl) (by kernel_rfl) (by kernel_rfl)
    (LoopsP.cons q177_0 (s177_0 f117) rfl (e177_0 f117) LoopsP.nil) (e177 f117)
/-! impl.CutAt -/
def p179 : List SP := [.one (.r .int), .one (.int .i64)]
def r179 : List SP := [.one (.o 0 .int)]
def q179_0 : List SP := pat 31 0 [(1, .one (.int .i64)), (5, .one (.o 5000001 .int)), (17, .one (.r .int)), (18, .one (.int .i64)), (19, .one (.int .i64))]
noncomputable def s179_0 (f177 : List Int × Unit → Option (Bool × Unit)) (t2 : Int × List Int × List Int × Int × Int × Unit) (rec K : Int × List Int × List Int × Int × Int × Unit → Option (List Int × Unit)) : Option (List Int × Unit) :=
  cond (decide (t2.2.2.2.2.1 < t2.2.2.2.1)) (rdL t2.2.2.1 t2.2.2.2.2.1 fun d3 => capK (List.length t2.2.1 + List.length ([(mn d3 t2.1)] : List Int)) (rec (t2.1, (t2.2.1 ++ ([(mn d3 t2.1)] : List Int)), t2.2.2.1, t2.2.2.2.1, (w64 (t2.2.2.2.2.1 + 1)), ()))) (K (t2.1, t2.2.1, t2.2.2.1, t2.2.2.2.1, t2.2.2.2.2.1, ()))
noncomputable def F179 (f177 : List Int × Unit → Option (Bool × Unit)) (a : List Int × Int × Unit) : Option (List Int × Unit) :=
  (f177 (a.1, ())).bind fun x1 => cond (!(!x1.1)) (cond (decide (a.2.1 < 0)) (some (([] : List Int), ())) (iterF (s179_0 f177) fuel (a.2.1, ([] : List Int), a.1, (Int.ofNat (List.length a.1)), 0, ()) fun t4 => some (t4.2.1, ()))) (some (([] : List Int), ()))
def E179 (f177 : List Int × Unit → Option (Bool × Unit)) : Env := envL [(177, mkE p177 r177 false f177)]
noncomputable def L179 (f177 : List Int × Unit → Option (Bool × Unit)) : LEnv (densS (muts p179 ++ r179)) := lenv [(0, loopL (R := densS (muts p179 ++ r179)) q179_0 (s179_0 f177))]
theorem e179_0 (f177 : List Int × Unit → Option (Bool × Unit)) (X : Nat → St → Option (densS (muts p179 ++ r179))) (rec K : densS q179_0 → Option (densS (muts p179 ++ r179))) (t : densS q179_0) :
    ev (E179 f177) tab (fun _ => false) (L179 f177) (retK tab p179 r179 Proofs.Tryz.f179.results.toList) (loopC Proofs.Tryz.f179 0) (fun i s => cond (Nat.beq i 0) (decK 100 q179_0 s K) (X i s)) (fun s => decK 100 q179_0 s rec) (enc q179_0 t) = s179_0 f177 t rec K := by kernel_rfl
theorem e179 (f177 : List Int × Unit → Option (Bool × Unit)) (a : densS p179) : runF (E179 f177) tab (fun _ => false) p179 r179 Proofs.Tryz.f179 (L179 f177) a = F179 f177 a := by kernel_rfl
theorem ok179 {f177 : List Int × Unit → Option (Bool × Unit)} (h177 : OK Proofs.Tryz.prog 177 (mkE p177 r177 false f177)) : OK Proofs.Tryz.prog 179 (mkE p179 r179 false (F179 f177)) :=
  fn_ok tab_ok (envL_ok (l := [(177, mkE p177 r177 false f177)]) (OKs.cons h177 OKs.nil)) mixed (ann := (fun _ => false)) (L := L179 f177) (fn := Proofs.Tryz.f179) (c := bodyC Proofs.Tryz.f179) (ls := [(0, loopC Proofs.Tryz.f179 0)]) Proofs.Tryz.func179 (by kernel_rfl) (by kernel_rfl) (by kernel_rfl) (by kernel_rfl)
    (LoopsP.cons q179_0 (s179_0 f177) rfl (e179_0 f177) LoopsP.nil) (e179 f177)
/-! impl.sumOf -/
def p180 : List SP := [.one (.r .int)]
def r180 : List SP := [.one (.int .i64)]
def q180_0 : List SP := pat 17 0 [(3, .one (.int .i64)), (6, .one (.r .int)), (7, .one (.int .i64)), (8, .one (.int .i64))]
noncomputable def s180_0 (t1 : Int × List Int × Int × Int × Unit) (rec K : Int × List Int × Int × Int × Unit → Option (Int × Unit)) : Option (Int × Unit) :=
  cond (decide (t1.2.2.2.1 < t1.2.2.1)) (rdL t1.2.1 t1.2.2.2.1 fun d2 => rec ((w64 (t1.1 + d2)), t1.2.1, t1.2.2.1, (w64 (t1.2.2.2.1 + 1)), ())) (K (t1.1, t1.2.1, t1.2.2.1, t1.2.2.2.1, ()))
noncomputable def F180 (a : List Int × Unit) : Option (Int × Unit) :=
  iterF (s180_0) fuel (0, a.1, (Int.ofNat (List.length a.1)), 0, ()) fun t3 => some (t3.1, ())
def E180 : Env := envL []
noncomputable def L180 : LEnv (densS (muts p180 ++ r180)) := lenv [(0, loopL (R := densS (muts p180 ++ r180)) q180_0 (s180_0))]
theorem e180_0 (X : Nat → St → Option (densS (muts p180 ++ r180))) (rec K : densS q180_0 → Option (densS (muts p180 ++ r180))) (t : densS q180_0) :
    ev (E180) tab (fun _ => false) (L180) (retK tab p180 r180 Proofs.Tryz.f180.results.toList) (loopC Proofs.Tryz.f180 0) (fun i s => cond (Nat.beq i 0) (decK 100 q180_0 s K) (X i s)) (fun s => decK 100 q180_0 s rec) (enc q180_0 t) = s180_0 t rec K := by kernel_rfl
theorem e180 (a : densS p180) : runF (E180) tab (fun _ => false) p180 r180 Proofs.Tryz.f180 (L180) a = F180 a := by kernel_rfl
theorem ok180 : OK Proofs.Tryz.prog 180 (mkE p180 r180 false (F180)) :=
  fn_ok tab_ok (envL_ok (l := []) OKs.nil) mixed (ann := (fun _ => false)) (L := L180) (fn := Proofs.Tryz.f180) (c := bodyC Proofs.Tryz.f180) (ls := [(0, loopC Proofs.Tryz.f180 0)]) Proofs.Tryz.func180 (by kernel_rfl) (by kernel_rfl) (by kernel_rfl) (by kernel_rfl)
    (LoopsP.cons q180_0 (s180_0) rfl (e180_0) LoopsP.nil) (e180)
/-! impl.LevelFor -/
def p178 : List SP := [.one (.int .i64), .one (.r .int)]
def r178 : List SP := [.one (.int .i64)]
def q178_0 : List SP := pat 23 0 [(0, .one (.int .i64)), (1, .one (.r .int)), (5, .one (.int .i64))]
noncomputable def s178_0 (f177 : List Int × Unit → Option (Bool × Unit)) (f169 : Int × Unit → Option (Bool × Unit)) (f179 : List Int × Int × Unit → Option (List Int × Unit)) (f180 : List Int × Unit → Option (Int × Unit)) (t3 : Int × List Int × Int × Unit) (rec K : Int × List Int × Int × Unit → Option (Int × Unit)) : Option (Int × Unit) :=
  (f179 (t3.2.1, t3.2.2.1, ())).bind fun x4 => (f180 (x4.1, ())).bind fun x5 => cond (decide (x5.1 > t3.1)) (rec (t3.1, t3.2.1, (w64 (t3.2.2.1 - 1)), ())) (K (t3.1, t3.2.1, t3.2.2.1, ()))
noncomputable def F178 (f177 : List Int × Unit → Option (Bool × Unit)) (f169 : Int × Unit → Option (Bool × Unit)) (f179 : List Int × Int × Unit → Option (List Int × Unit)) (f180 : List Int × Unit → Option (Int × Unit)) (a : Int × List Int × Unit) : Option (Int × Unit) :=
  (f177 (a.2.1, ())).bind fun x1 => cond (!(!x1.1)) ((f169 (a.1, ())).bind fun x2 => cond (!x2.1) (some (0, ())) (iterF (s178_0 f177 f169 f179 f180) fuel (a.1, a.2.1, 64, ()) fun t6 => some (t6.2.2.1, ()))) (some (0, ()))
def E178 (f177 : List Int × Unit → Option (Bool × Unit)) (f169 : Int × Unit → Option (Bool × Unit)) (f179 : List Int × Int × Unit → Option (List Int × Unit)) (f180 : List Int × Unit → Option (Int × Unit)) : Env := envL [(177, mkE p177 r177 false f177), (169, mkE p169 r169 false f169), (179, mkE p179 r179 false f179), (180, mkE p180 r180 false f180)]
noncomputable def L178 (f177 : List Int × Unit → Option (Bool × Unit)) (f169 : Int × Unit → Option (Bool × Unit)) (f179 : List Int × Int × Unit → Option (List Int × Unit)) (f180 : List Int × Unit → Option (Int × Unit)) : LEnv (densS (muts p178 ++ r178)) := lenv [(0, loopL (R := densS (muts p178 ++ r178)) q178_0 (s178_0 f177 f169 f179 f180))]
theorem e178_0 (f177 : List Int × Unit → Option (Bool × Unit)) (f169 : Int × Unit → Option (Bool × Unit)) (f179 : List Int × Int × Unit → Option (List Int × Unit)) (f180 : List Int × Unit → Option (Int × Unit)) (X : Nat → St → Option (densS (muts p178 ++ r178))) (rec K : densS q178_0 → Option (densS (muts p178 ++ r178))) (t : densS q178_0) :
    ev (E178 f177 f169 f179 f180) tab (fun _ => false) (L178 f177 f169 f179 f180) (retK tab p178 r178 Proofs.Tryz.f178.results.toList) (loopC Proofs.Tryz.f178 0) (fun i s => cond (Nat.beq i 0) (decK 100 q178_0 s K) (X i s)) (fun s => decK 100 q178_0 s rec) (enc q178_0 t) = s178_0 f177 f169 f179 f180 t rec K := by kernel_rfl
theorem e178 (f177 : List Int × Unit → Option (Bool × Unit)) (f169 : Int × Unit → Option (Bool × Unit)) (f179 : List Int × Int × Unit → Option (List Int × Unit)) (f180 : List Int × Unit → Option (Int × Unit)) (a : densS p178) : runF (E178 f177 f169 f179 f180) tab (fun _ => false) p178 r178 Proofs.Tryz.f178 (L178 f177 f169 f179 f180) a = F178 f177 f169 f179 f180 a := by kernel_rfl
theorem ok178 {f177 : List Int × Unit → Option (Bool × Unit)} {f169 : Int × Unit → Option (Bool × Unit)} {f179 : List Int × Int × Unit → Option (List Int × Unit)} {f180 : List Int × Unit → Option (Int × Unit)} (h177 : OK Proofs.Tryz.prog 177 (mkE p177 r177 false f177)) (h169 : OK Proofs.Tryz.prog 169 (mkE p169 r169 false f169)) (h179 : OK Proofs.Tryz.prog 179 (mkE p179 r179 false f179)) (h180 : OK Proofs.Tryz.prog 180 (mkE p180 r180 false f180)) : OK Proofs.Tryz.prog 178 (mkE p178 r178 false (F178 f177 f169 f179 f180)) :=
  fn_ok tab_ok (envL_ok (l := [(177, mkE p177 r177 false f177), (169, mkE p169 r169 false f169), (179, mkE p179 r179 false f179), (180, mkE p180 r180 false f180)]) (OKs.cons h177 (OKs.cons h169 (OKs.cons h179 (OKs.cons h180 OKs.nil))))) mixed (ann := (fun _ => false)) (L := L178 f177 f169 f179 f180) (fn := Proofs.Tryz.f178) (c := bodyC Proofs.Tryz.f178) (ls := [(0, loopC Proofs.Tryz.f178 0)]) Proofs.Tryz.func178 (by kernel_rfl) (by kernel_rfl) (by kernel_rfl) (by kernel_rfl)
    (LoopsP.cons q178_0 (s178_0 f177 f169 f179 f180) rfl (e178_0 f177 f169 f179 f180) LoopsP.nil) (e178 f177 f169 f179 f180)
/-! impl.ShareOut -/
def p149 : List SP := [.one (.int .i64), .one (.r .int)]
def r149 : List SP := [.one (.o 0 .int)]
def q149_0 : List SP := pat 53 0 [(5, .one (.int .i64)), (6, .one (.o 5000001 .int)), (7, .one (.int .i64)), (29, .one (.r .int)), (30, .one (.int .i64)), (31, .one (.int .i64))]
noncomputable def s149_0 (f177 : List Int × Unit → Option (Bool × Unit)) (f169 : Int × Unit → Option (Bool × Unit)) (f178 : Int × List Int × Unit → Option (Int × Unit)) (f179 : List Int × Int × Unit → Option (List Int × Unit)) (f180 : List Int × Unit → Option (Int × Unit)) (t6 : Int × List Int × Int × List Int × Int × Int × Unit) (rec K : Int × List Int × Int × List Int × Int × Int × Unit → Option (List Int × Unit)) : Option (List Int × Unit) :=
  cond (decide (t6.2.2.2.2.2.1 < t6.2.2.2.2.1)) (rdL t6.2.2.2.1 t6.2.2.2.2.2.1 fun d7 => cond (decide (d7 > t6.1)) (cond (decide (t6.2.2.1 > 0)) (rdL t6.2.1 t6.2.2.2.2.2.1 fun _ => (t6.2.1[(Int.toNat t6.2.2.2.2.2.1)]?).bind fun d8 => rdL t6.2.1 t6.2.2.2.2.2.1 fun _ => (t6.2.1[(Int.toNat t6.2.2.2.2.2.1)]?).bind fun d9 => rec (t6.1, (List.set t6.2.1 (Int.toNat t6.2.2.2.2.2.1) (w64 (d8 + 1))), (w64 (t6.2.2.1 - 1)), t6.2.2.2.1, t6.2.2.2.2.1, (w64 (t6.2.2.2.2.2.1 + 1)), ())) (rec (t6.1, t6.2.1, t6.2.2.1, t6.2.2.2.1, t6.2.2.2.2.1, (w64 (t6.2.2.2.2.2.1 + 1)), ()))) (rec (t6.1, t6.2.1, t6.2.2.1, t6.2.2.2.1, t6.2.2.2.2.1, (w64 (t6.2.2.2.2.2.1 + 1)), ()))) (K (t6.1, t6.2.1, t6.2.2.1, t6.2.2.2.1, t6.2.2.2.2.1, t6.2.2.2.2.2.1, ()))
noncomputable def F149 (f177 : List Int × Unit → Option (Bool × Unit)) (f169 : Int × Unit → Option (Bool × Unit)) (f178 : Int × List Int × Unit → Option (Int × Unit)) (f179 : List Int × Int × Unit → Option (List Int × Unit)) (f180 : List Int × Unit → Option (Int × Unit)) (a : Int × List Int × Unit) : Option (List Int × Unit) :=
  (f177 (a.2.1, ())).bind fun x1 => cond (!(!x1.1)) ((f169 (a.1, ())).bind fun x2 => cond (!x2.1) (some (([] : List Int), ())) ((f178 (a.1, a.2.1, ())).bind fun x3 => (f179 (a.2.1, x3.1, ())).bind fun x4 => (f180 (x4.1, ())).bind fun x5 => iterF (s149_0 f177 f169 f178 f179 f180) fuel (x3.1, x4.1, (w64 (a.1 - x5.1)), a.2.1, (Int.ofNat (List.length a.2.1)), 0, ()) fun t10 => some (t10.2.1, ()))) (some (([] : List Int), ()))
def E149 (f177 : List Int × Unit → Option (Bool × Unit)) (f169 : Int × Unit → Option (Bool × Unit)) (f178 : Int × List Int × Unit → Option (Int × Unit)) (f179 : List Int × Int × Unit → Option (List Int × Unit)) (f180 : List Int × Unit → Option (Int × Unit)) : Env := envL [(177, mkE p177 r177 false f177), (169, mkE p169 r169 false f169), (178, mkE p178 r178 false f178), (179, mkE p179 r179 false f179), (180, mkE p180 r180 false f180)]
noncomputable def L149 (f177 : List Int × Unit → Option (Bool × Unit)) (f169 : Int × Unit → Option (Bool × Unit)) (f178 : Int × List Int × Unit → Option (Int × Unit)) (f179 : List Int × Int × Unit → Option (List Int × Unit)) (f180 : List Int × Unit → Option (Int × Unit)) : LEnv (densS (muts p149 ++ r149)) := lenv [(0, loopL (R := densS (muts p149 ++ r149)) q149_0 (s149_0 f177 f169 f178 f179 f180))]
theorem e149_0 (f177 : List Int × Unit → Option (Bool × Unit)) (f169 : Int × Unit → Option (Bool × Unit)) (f178 : Int × List Int × Unit → Option (Int × Unit)) (f179 : List Int × Int × Unit → Option (List Int × Unit)) (f180 : List Int × Unit → Option (Int × Unit)) (X : Nat → St → Option (densS (muts p149 ++ r149))) (rec K : densS q149_0 → Option (densS (muts p149 ++ r149))) (t : densS q149_0) :
    ev (E149 f177 f169 f178 f179 f180) tab (fun _ => false) (L149 f177 f169 f178 f179 f180) (retK tab p149 r149 Proofs.Tryz.f149.results.toList) (loopC Proofs.Tryz.f149 0) (fun i s => cond (Nat.beq i 0) (decK 100 q149_0 s K) (X i s)) (fun s => decK 100 q149_0 s rec) (enc q149_0 t) = s149_0 f177 f169 f178 f179 f180 t rec K := by kernel_rfl
theorem e149 (f177 : List Int × Unit → Option (Bool × Unit)) (f169 : Int × Unit → Option (Bool × Unit)) (f178 : Int × List Int × Unit → Option (Int × Unit)) (f179 : List Int × Int × Unit → Option (List Int × Unit)) (f180 : List Int × Unit → Option (Int × Unit)) (a : densS p149) : runF (E149 f177 f169 f178 f179 f180) tab (fun _ => false) p149 r149 Proofs.Tryz.f149 (L149 f177 f169 f178 f179 f180) a = F149 f177 f169 f178 f179 f180 a := by kernel_rfl
theorem ok149 {f177 : List Int × Unit → Option (Bool × Unit)} {f169 : Int × Unit → Option (Bool × Unit)} {f178 : Int × List Int × Unit → Option (Int × Unit)} {f179 : List Int × Int × Unit → Option (List Int × Unit)} {f180 : List Int × Unit → Option (Int × Unit)} (h177 : OK Proofs.Tryz.prog 177 (mkE p177 r177 false f177)) (h169 : OK Proofs.Tryz.prog 169 (mkE p169 r169 false f169)) (h178 : OK Proofs.Tryz.prog 178 (mkE p178 r178 false f178)) (h179 : OK Proofs.Tryz.prog 179 (mkE p179 r179 false f179)) (h180 : OK Proofs.Tryz.prog 180 (mkE p180 r180 false f180)) : OK Proofs.Tryz.prog 149 (mkE p149 r149 false (F149 f177 f169 f178 f179 f180)) :=
  fn_ok tab_ok (envL_ok (l := [(177, mkE p177 r177 false f177), (169, mkE p169 r169 false f169), (178, mkE p178 r178 false f178), (179, mkE p179 r179 false f179), (180, mkE p180 r180 false f180)]) (OKs.cons h177 (OKs.cons h169 (OKs.cons h178 (OKs.cons h179 (OKs.cons h180 OKs.nil)))))) mixed (ann := (fun _ => false)) (L := L149 f177 f169 f178 f179 f180) (fn := Proofs.Tryz.f149) (c := bodyC Proofs.Tryz.f149) (ls := [(0, loopC Proofs.Tryz.f149 0)]) Proofs.Tryz.func149 (by kernel_rfl) (by kernel_rfl) (by kernel_rfl) (by kernel_rfl)
    (LoopsP.cons q149_0 (s149_0 f177 f169 f178 f179 f180) rfl (e149_0 f177 f169 f178 f179 f180) LoopsP.nil) (e149 f177 f169 f178 f179 f180)
/-! impl.LiftsAt -/
def p106 : List SP := [.agg [.r .device, .r .cue, .r .gust, .int .i64], .one (.int .i64)]
def r106 : List SP := [.one (.o 0 .int)]
def q106_2 : List SP := pat 91 0 [(1, .one (.int .i64)), (2, .box 5002001 [.r .device, .r .cue, .r .gust, .int .i64]), (5, .one (.o 5002002 .int)), (7, .boxt 5002003 .device), (8, .one (.o 5002004 .int)), (9, .one (.o 5002005 .int)), (30, .one (.r .device)), (31, .one (.int .i64)), (32, .one (.int .i64)), (42, .one (.r .device)), (43, .one (.int .i64)), (44, .one (.int .i64))]
noncomputable def s106_2 (f66 : (List Device × List Cue × List Gust × Int × Unit) × Unit → Option (Bool × Unit)) (f117 : Int × Int × Int × Unit → Option (Bool × Unit)) (f148 : List Cue × Str × Int × Unit → Option (Int × Unit)) (f149 : Int × List Int × Unit → Option (List Int × Unit)) (t5 : Int × (List Device × List Cue × List Gust × Int × Unit) × List Int × Device × List Int × List Int × List Device × Int × Int × List Device × Int × Int × Unit) (rec K : Int × (List Device × List Cue × List Gust × Int × Unit) × List Int × Device × List Int × List Int × List Device × Int × Int × List Device × Int × Int × Unit → Option (List Int × Unit)) : Option (List Int × Unit) :=
  cond (decide (t5.2.2.2.2.2.2.2.2.2.2.2.1 < t5.2.2.2.2.2.2.2.2.2.2.1)) (rdL t5.2.2.2.2.2.2.2.2.2.1 t5.2.2.2.2.2.2.2.2.2.2.2.1 fun d6 => cond (decide (d6.Line = t5.2.2.2.1.Name)) (capK (List.length t5.2.2.2.2.1 + List.length ([t5.2.2.2.2.2.2.2.2.2.2.2.1] : List Int)) ((f148 (t5.2.1.2.1, d6.Name, t5.1, ())).bind fun x7 => capK (List.length t5.2.2.2.2.2.1 + List.length ([(mn x7.1 d6.Most)] : List Int)) (rec (t5.1, (t5.2.1.1, t5.2.1.2.1, t5.2.1.2.2.1, t5.2.1.2.2.2.1, ()), t5.2.2.1, t5.2.2.2.1, (t5.2.2.2.2.1 ++ ([t5.2.2.2.2.2.2.2.2.2.2.2.1] : List Int)), (t5.2.2.2.2.2.1 ++ ([(mn x7.1 d6.Most)] : List Int)), t5.2.2.2.2.2.2.1, t5.2.2.2.2.2.2.2.1, t5.2.2.2.2.2.2.2.2.1, t5.2.2.2.2.2.2.2.2.2.1, t5.2.2.2.2.2.2.2.2.2.2.1, (w64 (t5.2.2.2.2.2.2.2.2.2.2.2.1 + 1)), ())))) (rec (t5.1, (t5.2.1.1, t5.2.1.2.1, t5.2.1.2.2.1, t5.2.1.2.2.2.1, ()), t5.2.2.1, t5.2.2.2.1, t5.2.2.2.2.1, t5.2.2.2.2.2.1, t5.2.2.2.2.2.2.1, t5.2.2.2.2.2.2.2.1, t5.2.2.2.2.2.2.2.2.1, t5.2.2.2.2.2.2.2.2.2.1, t5.2.2.2.2.2.2.2.2.2.2.1, (w64 (t5.2.2.2.2.2.2.2.2.2.2.2.1 + 1)), ()))) (K (t5.1, (t5.2.1.1, t5.2.1.2.1, t5.2.1.2.2.1, t5.2.1.2.2.2.1, ()), t5.2.2.1, t5.2.2.2.1, t5.2.2.2.2.1, t5.2.2.2.2.2.1, t5.2.2.2.2.2.2.1, t5.2.2.2.2.2.2.2.1, t5.2.2.2.2.2.2.2.2.1, t5.2.2.2.2.2.2.2.2.2.1, t5.2.2.2.2.2.2.2.2.2.2.1, t5.2.2.2.2.2.2.2.2.2.2.2.1, ()))
def q106_4 : List SP := pat 91 0 [(1, .one (.int .i64)), (2, .box 5004001 [.r .device, .r .cue, .r .gust, .int .i64]), (5, .one (.o 5004002 .int)), (8, .one (.o 5004003 .int)), (30, .one (.r .device)), (31, .one (.int .i64)), (32, .one (.int .i64)), (74, .one (.o 5004004 .int)), (75, .one (.int .i64)), (76, .one (.int .i64))]
noncomputable def s106_4 (f66 : (List Device × List Cue × List Gust × Int × Unit) × Unit → Option (Bool × Unit)) (f117 : Int × Int × Int × Unit → Option (Bool × Unit)) (f148 : List Cue × Str × Int × Unit → Option (Int × Unit)) (f149 : Int × List Int × Unit → Option (List Int × Unit)) (t10 : Int × (List Device × List Cue × List Gust × Int × Unit) × List Int × List Int × List Device × Int × Int × List Int × Int × Int × Unit) (rec K : Int × (List Device × List Cue × List Gust × Int × Unit) × List Int × List Int × List Device × Int × Int × List Int × Int × Int × Unit → Option (List Int × Unit)) : Option (List Int × Unit) :=
  cond (decide (t10.2.2.2.2.2.2.2.2.2.1 < t10.2.2.2.2.2.2.2.2.1)) (rdL t10.2.2.2.2.2.2.2.1 t10.2.2.2.2.2.2.2.2.2.1 fun _ => (t10.2.2.2.2.2.2.2.1[(Int.toNat t10.2.2.2.2.2.2.2.2.2.1)]?).bind fun d11 => rdL t10.2.2.2.1 t10.2.2.2.2.2.2.2.2.2.1 fun _ => (t10.2.2.2.1[(Int.toNat t10.2.2.2.2.2.2.2.2.2.1)]?).bind fun d12 => rdL t10.2.2.1 d12 fun _ => (t10.2.2.1[(Int.toNat d12)]?).bind fun d13 => rec (t10.1, (t10.2.1.1, t10.2.1.2.1, t10.2.1.2.2.1, t10.2.1.2.2.2.1, ()), (List.set t10.2.2.1 (Int.toNat d12) d11), t10.2.2.2.1, t10.2.2.2.2.1, t10.2.2.2.2.2.1, t10.2.2.2.2.2.2.1, t10.2.2.2.2.2.2.2.1, t10.2.2.2.2.2.2.2.2.1, (w64 (t10.2.2.2.2.2.2.2.2.2.1 + 1)), ())) (K (t10.1, (t10.2.1.1, t10.2.1.2.1, t10.2.1.2.2.1, t10.2.1.2.2.2.1, ()), t10.2.2.1, t10.2.2.2.1, t10.2.2.2.2.1, t10.2.2.2.2.2.1, t10.2.2.2.2.2.2.1, t10.2.2.2.2.2.2.2.1, t10.2.2.2.2.2.2.2.2.1, t10.2.2.2.2.2.2.2.2.2.1, ()))
def q106_0 : List SP := pat 91 0 [(1, .one (.int .i64)), (2, .box 5000001 [.r .device, .r .cue, .r .gust, .int .i64]), (5, .one (.o 5000002 .int)), (30, .one (.r .device)), (31, .one (.int .i64)), (32, .one (.int .i64))]
noncomputable def s106_0 (f66 : (List Device × List Cue × List Gust × Int × Unit) × Unit → Option (Bool × Unit)) (f117 : Int × Int × Int × Unit → Option (Bool × Unit)) (f148 : List Cue × Str × Int × Unit → Option (Int × Unit)) (f149 : Int × List Int × Unit → Option (List Int × Unit)) (t3 : Int × (List Device × List Cue × List Gust × Int × Unit) × List Int × List Device × Int × Int × Unit) (rec K : Int × (List Device × List Cue × List Gust × Int × Unit) × List Int × List Device × Int × Int × Unit → Option (List Int × Unit)) : Option (List Int × Unit) :=
  cond (decide (t3.2.2.2.2.2.1 < t3.2.2.2.2.1)) (rdL t3.2.2.2.1 t3.2.2.2.2.2.1 fun d4 => cond (!(decide (d4.Kind = 1))) (rec (t3.1, (t3.2.1.1, t3.2.1.2.1, t3.2.1.2.2.1, t3.2.1.2.2.2.1, ()), t3.2.2.1, t3.2.2.2.1, t3.2.2.2.2.1, (w64 (t3.2.2.2.2.2.1 + 1)), ())) (iterF (s106_2 f66 f117 f148 f149) fuel (t3.1, (t3.2.1.1, t3.2.1.2.1, t3.2.1.2.2.1, t3.2.1.2.2.2.1, ()), t3.2.2.1, d4, ([] : List Int), ([] : List Int), t3.2.2.2.1, t3.2.2.2.2.1, t3.2.2.2.2.2.1, t3.2.1.1, (Int.ofNat (List.length t3.2.1.1)), 0, ()) fun t8 => (f149 (t8.2.2.2.1.Most, t8.2.2.2.2.2.1, ())).bind fun x9 => iterF (s106_4 f66 f117 f148 f149) fuel (t8.1, (t8.2.1.1, t8.2.1.2.1, t8.2.1.2.2.1, t8.2.1.2.2.2.1, ()), t8.2.2.1, t8.2.2.2.2.1, t8.2.2.2.2.2.2.1, t8.2.2.2.2.2.2.2.1, t8.2.2.2.2.2.2.2.2.1, x9.1, (Int.ofNat (List.length x9.1)), 0, ()) fun t14 => rec (t14.1, (t14.2.1.1, t14.2.1.2.1, t14.2.1.2.2.1, t14.2.1.2.2.2.1, ()), t14.2.2.1, t14.2.2.2.2.1, t14.2.2.2.2.2.1, (w64 (t14.2.2.2.2.2.2.1 + 1)), ()))) (K (t3.1, (t3.2.1.1, t3.2.1.2.1, t3.2.1.2.2.1, t3.2.1.2.2.2.1, ()), t3.2.2.1, t3.2.2.2.1, t3.2.2.2.2.1, t3.2.2.2.2.2.1, ()))
noncomputable def F106 (f66 : (List Device × List Cue × List Gust × Int × Unit) × Unit → Option (Bool × Unit)) (f117 : Int × Int × Int × Unit → Option (Bool × Unit)) (f148 : List Cue × Str × Int × Unit → Option (Int × Unit)) (f149 : Int × List Int × Unit → Option (List Int × Unit)) (a : (List Device × List Cue × List Gust × Int × Unit) × Int × Unit) : Option (List Int × Unit) :=
  (f66 ((a.1.1, a.1.2.1, a.1.2.2.1, a.1.2.2.2.1, ()), ())).bind fun x1 => cond (!x1.1) (some (([] : List Int), ())) (okIf (0 ≤ (Int.ofNat (List.length a.1.1))) (capK (Int.toNat (Int.ofNat (List.length a.1.1))) ((f117 (a.2.1, 0, (w64 (a.1.2.2.2.1 - 1)), ())).bind fun x2 => cond (!x2.1) (some ((List.replicate (Int.toNat (Int.ofNat (List.length a.1.1))) (Ty.zero .int)), ())) (iterF (s106_0 f66 f117 f148 f149) fuel (a.2.1, (a.1.1, a.1.2.1, a.1.2.2.1, a.1.2.2.2.1, ()), (List.replicate (Int.toNat (Int.ofNat (List.length a.1.1))) (Ty.zero .int)), a.1.1, (Int.ofNat (List.length a.1.1)), 0, ()) fun t15 => some (t15.2.2.1, ())))))
def E106 (f66 : (List Device × List Cue × List Gust × Int × Unit) × Unit → Option (Bool × Unit)) (f117 : Int × Int × Int × Unit → Option (Bool × Unit)) (f148 : List Cue × Str × Int × Unit → Option (Int × Unit)) (f149 : Int × List Int × Unit → Option (List Int × Unit)) : Env := envL [(66, mkE p66 r66 false f66), (117, mkE p117 r117 false f117), (148, mkE p148 r148 false f148), (149, mkE p149 r149 false f149)]
noncomputable def L106 (f66 : (List Device × List Cue × List Gust × Int × Unit) × Unit → Option (Bool × Unit)) (f117 : Int × Int × Int × Unit → Option (Bool × Unit)) (f148 : List Cue × Str × Int × Unit → Option (Int × Unit)) (f149 : Int × List Int × Unit → Option (List Int × Unit)) : LEnv (densS (muts p106 ++ r106)) := lenv [(0, loopL (R := densS (muts p106 ++ r106)) q106_0 (s106_0 f66 f117 f148 f149)), (2, loopL (R := densS (muts p106 ++ r106)) q106_2 (s106_2 f66 f117 f148 f149)), (4, loopL (R := densS (muts p106 ++ r106)) q106_4 (s106_4 f66 f117 f148 f149))]
theorem e106_0 (f66 : (List Device × List Cue × List Gust × Int × Unit) × Unit → Option (Bool × Unit)) (f117 : Int × Int × Int × Unit → Option (Bool × Unit)) (f148 : List Cue × Str × Int × Unit → Option (Int × Unit)) (f149 : Int × List Int × Unit → Option (List Int × Unit)) (X : Nat → St → Option (densS (muts p106 ++ r106))) (rec K : densS q106_0 → Option (densS (muts p106 ++ r106))) (t : densS q106_0) :
    ev (E106 f66 f117 f148 f149) tab (fun _ => false) (L106 f66 f117 f148 f149) (retK tab p106 r106 Proofs.Tryz.f106.results.toList) (loopC Proofs.Tryz.f106 0) (fun i s => cond (Nat.beq i 0) (decK 100 q106_0 s K) (X i s)) (fun s => decK 100 q106_0 s rec) (enc q106_0 t) = s106_0 f66 f117 f148 f149 t rec K := by kernel_rfl
theorem e106_2 (f66 : (List Device × List Cue × List Gust × Int × Unit) × Unit → Option (Bool × Unit)) (f117 : Int × Int × Int × Unit → Option (Bool × Unit)) (f148 : List Cue × Str × Int × Unit → Option (Int × Unit)) (f149 : Int × List Int × Unit → Option (List Int × Unit)) (X : Nat → St → Option (densS (muts p106 ++ r106))) (rec K : densS q106_2 → Option (densS (muts p106 ++ r106))) (t : densS q106_2) :
    ev (E106 f66 f117 f148 f149) tab (fun _ => false) (L106 f66 f117 f148 f149) (retK tab p106 r106 Proofs.Tryz.f106.results.toList) (loopC Proofs.Tryz.f106 1) (fun i s => cond (Nat.beq i 2) (decK 100 q106_2 s K) (X i s)) (fun s => decK 100 q106_2 s rec) (enc q106_2 t) = s106_2 f66 f117 f148 f149 t rec K := by kernel_rfl
theorem e106_4 (f66 : (List Device × List Cue × List Gust × Int × Unit) × Unit → Option (Bool × Unit)) (f117 : Int × Int × Int × Unit → Option (Bool × Unit)) (f148 : List Cue × Str × Int × Unit → Option (Int × Unit)) (f149 : Int × List Int × Unit → Option (List Int × Unit)) (X : Nat → St → Option (densS (muts p106 ++ r106))) (rec K : densS q106_4 → Option (densS (muts p106 ++ r106))) (t : densS q106_4) :
    ev (E106 f66 f117 f148 f149) tab (fun _ => false) (L106 f66 f117 f148 f149) (retK tab p106 r106 Proofs.Tryz.f106.results.toList) (loopC Proofs.Tryz.f106 2) (fun i s => cond (Nat.beq i 4) (decK 100 q106_4 s K) (X i s)) (fun s => decK 100 q106_4 s rec) (enc q106_4 t) = s106_4 f66 f117 f148 f149 t rec K := by kernel_rfl
theorem e106 (f66 : (List Device × List Cue × List Gust × Int × Unit) × Unit → Option (Bool × Unit)) (f117 : Int × Int × Int × Unit → Option (Bool × Unit)) (f148 : List Cue × Str × Int × Unit → Option (Int × Unit)) (f149 : Int × List Int × Unit → Option (List Int × Unit)) (a : densS p106) : runF (E106 f66 f117 f148 f149) tab (fun _ => false) p106 r106 Proofs.Tryz.f106 (L106 f66 f117 f148 f149) a = F106 f66 f117 f148 f149 a := by kernel_rfl
theorem ok106 {f66 : (List Device × List Cue × List Gust × Int × Unit) × Unit → Option (Bool × Unit)} {f117 : Int × Int × Int × Unit → Option (Bool × Unit)} {f148 : List Cue × Str × Int × Unit → Option (Int × Unit)} {f149 : Int × List Int × Unit → Option (List Int × Unit)} (h66 : OK Proofs.Tryz.prog 66 (mkE p66 r66 false f66)) (h117 : OK Proofs.Tryz.prog 117 (mkE p117 r117 false f117)) (h148 : OK Proofs.Tryz.prog 148 (mkE p148 r148 false f148)) (h149 : OK Proofs.Tryz.prog 149 (mkE p149 r149 false f149)) : OK Proofs.Tryz.prog 106 (mkE p106 r106 false (F106 f66 f117 f148 f149)) :=
  fn_ok tab_ok (envL_ok (l := [(66, mkE p66 r66 false f66), (117, mkE p117 r117 false f117), (148, mkE p148 r148 false f148), (149, mkE p149 r149 false f149)]) (OKs.cons h66 (OKs.cons h117 (OKs.cons h148 (OKs.cons h149 OKs.nil))))) mixed (ann := (fun _ => false)) (L := L106 f66 f117 f148 f149) (fn := Proofs.Tryz.f106) (c := bodyC Proofs.Tryz.f106) (ls := [(0, loopC Proofs.Tryz.f106 0), (2, loopC Proofs.Tryz.f106 1), (4, loopC Proofs.Tryz.f106 2)]) Proofs.Tryz.func106 (by kernel_rfl) (by kernel_rfl) (by kernel_rfl) (by kernel_rfl)
    (LoopsP.cons q106_0 (s106_0 f66 f117 f148 f149) rfl (e106_0 f66 f117 f148 f149) (LoopsP.cons q106_2 (s106_2 f66 f117 f148 f149) rfl (e106_2 f66 f117 f148 f149) (LoopsP.cons q106_4 (s106_4 f66 f117 f148 f149) rfl (e106_4 f66 f117 f148 f149) LoopsP.nil))) (e106 f66 f117 f148 f149)
/-! impl.throwsOf -/
def p54 : List SP := [.agg [.r .device, .r .cue, .r .gust, .int .i64]]
def r54 : List SP := [.one (.o 0 .throw)]
def q54_2 : List SP := pat 52 0 [(1, .box 5002001 [.r .device, .r .cue, .r .gust, .int .i64]), (3, .one (.o 5002002 .throw)), (4, .one (.int .i64)), (14, .one (.int .i64)), (15, .one (.int .i64)), (20, .one (.o 5002003 .int)), (21, .one (.int .i64)), (22, .one (.int .i64))]
noncomputable def s54_2 (f66 : (List Device × List Cue × List Gust × Int × Unit) × Unit → Option (Bool × Unit)) (f106 : (List Device × List Cue × List Gust × Int × Unit) × Int × Unit → Option (List Int × Unit)) (t4 : (List Device × List Cue × List Gust × Int × Unit) × List Throw × Int × Int × Int × List Int × Int × Int × Unit) (rec K : (List Device × List Cue × List Gust × Int × Unit) × List Throw × Int × Int × Int × List Int × Int × Int × Unit → Option (List Throw × Unit)) : Option (List Throw × Unit) :=
  cond (decide (t4.2.2.2.2.2.2.2.1 < t4.2.2.2.2.2.2.1)) (rdL t4.2.2.2.2.2.1 t4.2.2.2.2.2.2.2.1 fun _ => (t4.2.2.2.2.2.1[(Int.toNat t4.2.2.2.2.2.2.2.1)]?).bind fun d5 => cond (decide (d5 > 0)) (rdL t4.1.1 t4.2.2.2.2.2.2.2.1 fun d6 => capK (List.length t4.2.1 + List.length ([(⟨d6.Name, t4.2.2.1, ⟨⟨d6.At.X, d6.At.Y⟩, d6.Heading, d6.Tilt, d5⟩⟩ : Throw)] : List Throw)) (rec ((t4.1.1, t4.1.2.1, t4.1.2.2.1, t4.1.2.2.2.1, ()), (t4.2.1 ++ ([(⟨d6.Name, t4.2.2.1, ⟨⟨d6.At.X, d6.At.Y⟩, d6.Heading, d6.Tilt, d5⟩⟩ : Throw)] : List Throw)), t4.2.2.1, t4.2.2.2.1, t4.2.2.2.2.1, t4.2.2.2.2.2.1, t4.2.2.2.2.2.2.1, (w64 (t4.2.2.2.2.2.2.2.1 + 1)), ()))) (rec ((t4.1.1, t4.1.2.1, t4.1.2.2.1, t4.1.2.2.2.1, ()), t4.2.1, t4.2.2.1, t4.2.2.2.1, t4.2.2.2.2.1, t4.2.2.2.2.2.1, t4.2.2.2.2.2.2.1, (w64 (t4.2.2.2.2.2.2.2.1 + 1)), ()))) (K ((t4.1.1, t4.1.2.1, t4.1.2.2.1, t4.1.2.2.2.1, ()), t4.2.1, t4.2.2.1, t4.2.2.2.1, t4.2.2.2.2.1, t4.2.2.2.2.2.1, t4.2.2.2.2.2.2.1, t4.2.2.2.2.2.2.2.1, ()))
def q54_0 : List SP := pat 52 0 [(1, .box 5000001 [.r .device, .r .cue, .r .gust, .int .i64]), (3, .one (.o 5000002 .throw)), (14, .one (.int .i64)), (15, .one (.int .i64))]
noncomputable def s54_0 (f66 : (List Device × List Cue × List Gust × Int × Unit) × Unit → Option (Bool × Unit)) (f106 : (List Device × List Cue × List Gust × Int × Unit) × Int × Unit → Option (List Int × Unit)) (t2 : (List Device × List Cue × List Gust × Int × Unit) × List Throw × Int × Int × Unit) (rec K : (List Device × List Cue × List Gust × Int × Unit) × List Throw × Int × Int × Unit → Option (List Throw × Unit)) : Option (List Throw × Unit) :=
  cond (decide (t2.2.2.2.1 < t2.2.2.1)) ((f106 ((t2.1.1, t2.1.2.1, t2.1.2.2.1, t2.1.2.2.2.1, ()), t2.2.2.2.1, ())).bind fun x3 => iterF (s54_2 f66 f106) fuel ((t2.1.1, t2.1.2.1, t2.1.2.2.1, t2.1.2.2.2.1, ()), t2.2.1, t2.2.2.2.1, t2.2.2.1, t2.2.2.2.1, x3.1, (Int.ofNat (List.length x3.1)), 0, ()) fun t7 => rec ((t7.1.1, t7.1.2.1, t7.1.2.2.1, t7.1.2.2.2.1, ()), t7.2.1, t7.2.2.2.1, (w64 (t7.2.2.2.2.1 + 1)), ())) (K ((t2.1.1, t2.1.2.1, t2.1.2.2.1, t2.1.2.2.2.1, ()), t2.2.1, t2.2.2.1, t2.2.2.2.1, ()))
noncomputable def F54 (f66 : (List Device × List Cue × List Gust × Int × Unit) × Unit → Option (Bool × Unit)) (f106 : (List Device × List Cue × List Gust × Int × Unit) × Int × Unit → Option (List Int × Unit)) (a : (List Device × List Cue × List Gust × Int × Unit) × Unit) : Option (List Throw × Unit) :=
  (f66 ((a.1.1, a.1.2.1, a.1.2.2.1, a.1.2.2.2.1, ()), ())).bind fun x1 => cond (!x1.1) (some (([] : List Throw), ())) (iterF (s54_0 f66 f106) fuel ((a.1.1, a.1.2.1, a.1.2.2.1, a.1.2.2.2.1, ()), ([] : List Throw), a.1.2.2.2.1, 0, ()) fun t8 => some (t8.2.1, ()))
def E54 (f66 : (List Device × List Cue × List Gust × Int × Unit) × Unit → Option (Bool × Unit)) (f106 : (List Device × List Cue × List Gust × Int × Unit) × Int × Unit → Option (List Int × Unit)) : Env := envL [(66, mkE p66 r66 false f66), (106, mkE p106 r106 false f106)]
noncomputable def L54 (f66 : (List Device × List Cue × List Gust × Int × Unit) × Unit → Option (Bool × Unit)) (f106 : (List Device × List Cue × List Gust × Int × Unit) × Int × Unit → Option (List Int × Unit)) : LEnv (densS (muts p54 ++ r54)) := lenv [(0, loopL (R := densS (muts p54 ++ r54)) q54_0 (s54_0 f66 f106)), (2, loopL (R := densS (muts p54 ++ r54)) q54_2 (s54_2 f66 f106))]
theorem e54_0 (f66 : (List Device × List Cue × List Gust × Int × Unit) × Unit → Option (Bool × Unit)) (f106 : (List Device × List Cue × List Gust × Int × Unit) × Int × Unit → Option (List Int × Unit)) (X : Nat → St → Option (densS (muts p54 ++ r54))) (rec K : densS q54_0 → Option (densS (muts p54 ++ r54))) (t : densS q54_0) :
    ev (E54 f66 f106) tab (fun _ => false) (L54 f66 f106) (retK tab p54 r54 Proofs.Tryz.f54.results.toList) (loopC Proofs.Tryz.f54 0) (fun i s => cond (Nat.beq i 0) (decK 100 q54_0 s K) (X i s)) (fun s => decK 100 q54_0 s rec) (enc q54_0 t) = s54_0 f66 f106 t rec K := by kernel_rfl
theorem e54_2 (f66 : (List Device × List Cue × List Gust × Int × Unit) × Unit → Option (Bool × Unit)) (f106 : (List Device × List Cue × List Gust × Int × Unit) × Int × Unit → Option (List Int × Unit)) (X : Nat → St → Option (densS (muts p54 ++ r54))) (rec K : densS q54_2 → Option (densS (muts p54 ++ r54))) (t : densS q54_2) :
    ev (E54 f66 f106) tab (fun _ => false) (L54 f66 f106) (retK tab p54 r54 Proofs.Tryz.f54.results.toList) (loopC Proofs.Tryz.f54 1) (fun i s => cond (Nat.beq i 2) (decK 100 q54_2 s K) (X i s)) (fun s => decK 100 q54_2 s rec) (enc q54_2 t) = s54_2 f66 f106 t rec K := by kernel_rfl
theorem e54 (f66 : (List Device × List Cue × List Gust × Int × Unit) × Unit → Option (Bool × Unit)) (f106 : (List Device × List Cue × List Gust × Int × Unit) × Int × Unit → Option (List Int × Unit)) (a : densS p54) : runF (E54 f66 f106) tab (fun _ => false) p54 r54 Proofs.Tryz.f54 (L54 f66 f106) a = F54 f66 f106 a := by kernel_rfl
theorem ok54 {f66 : (List Device × List Cue × List Gust × Int × Unit) × Unit → Option (Bool × Unit)} {f106 : (List Device × List Cue × List Gust × Int × Unit) × Int × Unit → Option (List Int × Unit)} (h66 : OK Proofs.Tryz.prog 66 (mkE p66 r66 false f66)) (h106 : OK Proofs.Tryz.prog 106 (mkE p106 r106 false f106)) : OK Proofs.Tryz.prog 54 (mkE p54 r54 false (F54 f66 f106)) :=
  fn_ok tab_ok (envL_ok (l := [(66, mkE p66 r66 false f66), (106, mkE p106 r106 false f106)]) (OKs.cons h66 (OKs.cons h106 OKs.nil))) mixed (ann := (fun _ => false)) (L := L54 f66 f106) (fn := Proofs.Tryz.f54) (c := bodyC Proofs.Tryz.f54) (ls := [(0, loopC Proofs.Tryz.f54 0), (2, loopC Proofs.Tryz.f54 1)]) Proofs.Tryz.func54 (by kernel_rfl) (by kernel_rfl) (by kernel_rfl) (by kernel_rfl)
    (LoopsP.cons q54_0 (s54_0 f66 f106) rfl (e54_0 f66 f106) (LoopsP.cons q54_2 (s54_2 f66 f106) rfl (e54_2 f66 f106) LoopsP.nil)) (e54 f66 f106)
end Ev
