/- Functions of the program, as the evaluator sees them. -/
import Derived.Test.YtgjppgkbkhiofaaFlat
set_option linter.unusedVariables false
set_option maxRecDepth 100000
namespace Ev
open Go
def tab : Tab := [(3, ⟨1, false, 8, [.int .i64 0], [], .int .i64, false⟩),
  (4, ⟨1, false, 1, [.bool false], [], .bool, false⟩),
  (5, ⟨1, false, 1, [.int .u8 0], [], .int .u8, false⟩),
  (9, ⟨1, false, 16, [.str []], [], .str, false⟩),
  (22, ⟨1, false, 24, [.nils], [], .sl .device, false⟩),
  (23, ⟨1, false, 24, [.nils], [], .sl .cue, false⟩),
  (24, ⟨1, false, 24, [.nils], [], .sl .gust, false⟩),
  (26, ⟨4, true, 80, [.nils, .nils, .nils, .int .i64 0], [(0, 1, false), (1, 1, false), (2, 1, false), (3, 1, false)], .struct, false⟩),
  (27, ⟨1, false, 24, [.nils], [], .sl .place, false⟩),
  (29, ⟨2, true, 16, [.int .i64 0, .int .i64 0], [(0, 1, false), (1, 1, false)], .struct, false⟩),
  (31, ⟨4, true, 32, [.int .i64 0, .int .i64 0, .int .i64 0, .int .i64 0], [(0, 2, true), (2, 2, true)], .struct, false⟩),
  (33, ⟨9, true, 136, [.nils, .nils, .nils, .int .i64 0, .nils, .int .i64 0, .int .i64 0, .int .i64 0, .int .i64 0], [(0, 4, true), (4, 1, false), (5, 4, true)], .struct, false⟩),
  (36, ⟨1, false, 24, [.nils], [], .sl .device, false⟩),
  (37, ⟨1, false, 24, [.nils], [], .sl .cue, false⟩),
  (38, ⟨1, false, 24, [.nils], [], .sl .gust, false⟩),
  (40, ⟨4, true, 80, [.nils, .nils, .nils, .int .i64 0], [(0, 1, false), (1, 1, false), (2, 1, false), (3, 1, false)], .struct, false⟩),
  (41, ⟨1, false, 24, [.nils], [], .sl .place, false⟩),
  (42, ⟨2, true, 16, [.int .i64 0, .int .i64 0], [(0, 1, false), (1, 1, false)], .struct, true⟩),
  (44, ⟨4, true, 32, [.int .i64 0, .int .i64 0, .int .i64 0, .int .i64 0], [(0, 2, true), (2, 2, true)], .struct, false⟩),
  (46, ⟨9, true, 136, [.nils, .nils, .nils, .int .i64 0, .nils, .int .i64 0, .int .i64 0, .int .i64 0, .int .i64 0], [(0, 4, true), (4, 1, false), (5, 4, true)], .struct, false⟩),
  (87, ⟨4, true, 40, [.int .i64 0, .str [], .int .i64 0, .int .i64 0], [(0, 1, false), (1, 1, false), (2, 1, false), (3, 1, false)], .struct, false⟩),
  (97, ⟨8, true, 80, [.str [], .int .i64 0, .str [], .int .i64 0, .int .i64 0, .int .i64 0, .int .i64 0, .int .i64 0], [(0, 1, false), (1, 1, false), (2, 1, false), (3, 2, true), (5, 1, false), (6, 1, false), (7, 1, false)], .struct, false⟩),
  (99, ⟨4, true, 40, [.int .i64 0, .str [], .int .i64 0, .int .i64 0], [(0, 1, false), (1, 1, false), (2, 1, false), (3, 1, false)], .struct, false⟩),
  (103, ⟨8, true, 80, [.str [], .int .i64 0, .str [], .int .i64 0, .int .i64 0, .int .i64 0, .int .i64 0, .int .i64 0], [(0, 1, false), (1, 1, false), (2, 1, false), (3, 2, true), (5, 1, false), (6, 1, false), (7, 1, false)], .struct, true⟩),
  (107, ⟨3, true, 24, [.int .i64 0, .int .i64 0, .int .i64 0], [(0, 1, false), (1, 2, true)], .struct, false⟩),
  (110, ⟨3, true, 24, [.int .i64 0, .int .i64 0, .int .i64 0], [(0, 1, false), (1, 2, true)], .struct, false⟩),
  (131, ⟨5, true, 40, [.int .i64 0, .int .i64 0, .int .i64 0, .int .i64 0, .int .i64 0], [(0, 2, true), (2, 1, false), (3, 1, false), (4, 1, false)], .struct, false⟩),
  (132, ⟨1, false, 24, [.nils], [], .sl .u8, false⟩),
  (136, ⟨1, false, 24, [.nils], [], .sl .int, false⟩)]
theorem tab_ok : TabOK Proofs.Try.prog tab := tab_of2 (by kernel_rfl) (by kernel_rfl)
theorem mixed : Proofs.Try.prog.follows .mixedOrders = true := by kernel_rfl
/-! laws.szDevice -/
def p72 : List SP := [.t .device, .one (.int .i64)]
def r72 : List SP := [.one (.int .i64)]
noncomputable def F72 (a : Device × Int × Unit) : Option (Int × Unit) :=
  cond (decide ((w64 (a.2.1 - (Int.ofNat (List.length a.1.Name)))) < 0)) (some ((-1), ())) (cond (decide ((w64 ((w64 (a.2.1 - (Int.ofNat (List.length a.1.Name)))) - (Int.ofNat (List.length a.1.Line)))) < 0)) (some ((-1), ())) (some ((w64 ((w64 (a.2.1 - (Int.ofNat (List.length a.1.Name)))) - (Int.ofNat (List.length a.1.Line)))), ())))
def E72 : Env := envL []
noncomputable def L72 : LEnv (densS (muts p72 ++ r72)) := lenv []
theorem e72 (a : densS p72) : runF (E72) tab (fun _ => false) p72 r72 Proofs.Try.f72 (L72) a = F72 a := by kernel_rfl
theorem ok72 : OK Proofs.Try.prog 72 (mkE p72 r72 false (F72)) :=
  fn_ok tab_ok (envL_ok (l := []) OKs.nil) mixed (ann := (fun _ => false)) (L := L72) (fn := Proofs.Try.f72) (c := bodyC Proofs.Try.f72) (ls := []) Proofs.Try.func72 (by kernel_rfl) (by kernel_rfl) (by kernel_rfl) (by kernel_rfl)
    LoopsP.nil (e72)
/-! laws.szDeviceS -/
def p32 : List SP := [.one (.r .device), .one (.int .i64)]
def r32 : List SP := [.one (.int .i64)]
def q32_0 : List SP := pat 27 0 [(0, .one (.r .device)), (1, .one (.int .i64)), (5, .one (.int .i64))]
noncomputable def s32_0 (f72 : Device × Int × Unit → Option (Int × Unit)) (t1 : List Device × Int × Int × Unit) (rec K : List Device × Int × Int × Unit → Option (Int × Unit)) : Option (Int × Unit) :=
  cond (decide (t1.2.2.1 < (Int.ofNat (List.length t1.1)))) (rdL t1.1 t1.2.2.1 fun d2 => (f72 (d2, t1.2.1, ())).bind fun x3 => cond (decide (x3.1 < 0)) (some ((-1), ())) (rec (t1.1, x3.1, (w64 (t1.2.2.1 + 1)), ()))) (K (t1.1, t1.2.1, t1.2.2.1, ()))
noncomputable def F32 (f72 : Device × Int × Unit → Option (Int × Unit)) (a : List Device × Int × Unit) : Option (Int × Unit) :=
  cond (decide ((w64 (a.2.1 - (Int.ofNat (List.length a.1)))) < 0)) (some ((-1), ())) (iterF (s32_0 f72) fuel (a.1, (w64 (a.2.1 - (Int.ofNat (List.length a.1)))), 0, ()) fun t4 => some (t4.2.1, ()))
def E32 (f72 : Device × Int × Unit → Option (Int × Unit)) : Env := envL [(72, mkE p72 r72 false f72)]
noncomputable def L32 (f72 : Device × Int × Unit → Option (Int × Unit)) : LEnv (densS (muts p32 ++ r32)) := lenv [(0, loopL (R := densS (muts p32 ++ r32)) q32_0 (s32_0 f72))]
theorem e32_0 (f72 : Device × Int × Unit → Option (Int × Unit)) (X : Nat → St → Option (densS (muts p32 ++ r32))) (rec K : densS q32_0 → Option (densS (muts p32 ++ r32))) (t : densS q32_0) :
    ev (E32 f72) tab (fun _ => false) (L32 f72) (retK tab p32 r32 Proofs.Try.f32.results.toList) (loopC Proofs.Try.f32 0) (fun i s => cond (Nat.beq i 0) (decK 100 q32_0 s K) (X i s)) (fun s => decK 100 q32_0 s rec) (enc q32_0 t) = s32_0 f72 t rec K := by kernel_rfl
theorem e32 (f72 : Device × Int × Unit → Option (Int × Unit)) (a : densS p32) : runF (E32 f72) tab (fun _ => false) p32 r32 Proofs.Try.f32 (L32 f72) a = F32 f72 a := by kernel_rfl
theorem ok32 {f72 : Device × Int × Unit → Option (Int × Unit)} (h72 : OK Proofs.Try.prog 72 (mkE p72 r72 false f72)) : OK Proofs.Try.prog 32 (mkE p32 r32 false (F32 f72)) :=
  fn_ok tab_ok (envL_ok (l := [(72, mkE p72 r72 false f72)]) (OKs.cons h72 OKs.nil)) mixed (ann := (fun _ => false)) (L := L32 f72) (fn := Proofs.Try.f32) (c := bodyC Proofs.Try.f32) (ls := [(0, loopC Proofs.Try.f32 0)]) Proofs.Try.func32 (by kernel_rfl) (by kernel_rfl) (by kernel_rfl) (by kernel_rfl)
    (LoopsP.cons q32_0 (s32_0 f72) rfl (e32_0 f72) LoopsP.nil) (e32 f72)
/-! laws.szCue -/
def p73 : List SP := [.t .cue, .one (.int .i64)]
def r73 : List SP := [.one (.int .i64)]
noncomputable def F73 (a : Cue × Int × Unit) : Option (Int × Unit) :=
  cond (decide ((w64 (a.2.1 - (Int.ofNat (List.length a.1.Name)))) < 0)) (some ((-1), ())) (some ((w64 (a.2.1 - (Int.ofNat (List.length a.1.Name)))), ()))
def E73 : Env := envL []
noncomputable def L73 : LEnv (densS (muts p73 ++ r73)) := lenv []
theorem e73 (a : densS p73) : runF (E73) tab (fun _ => false) p73 r73 Proofs.Try.f73 (L73) a = F73 a := by kernel_rfl
theorem ok73 : OK Proofs.Try.prog 73 (mkE p73 r73 false (F73)) :=
  fn_ok tab_ok (envL_ok (l := []) OKs.nil) mixed (ann := (fun _ => false)) (L := L73) (fn := Proofs.Try.f73) (c := bodyC Proofs.Try.f73) (ls := []) Proofs.Try.func73 (by kernel_rfl) (by kernel_rfl) (by kernel_rfl) (by kernel_rfl)
    LoopsP.nil (e73)
/-! laws.szCueS -/
def p33 : List SP := [.one (.r .cue), .one (.int .i64)]
def r33 : List SP := [.one (.int .i64)]
def q33_0 : List SP := pat 27 0 [(0, .one (.r .cue)), (1, .one (.int .i64)), (5, .one (.int .i64))]
noncomputable def s33_0 (f73 : Cue × Int × Unit → Option (Int × Unit)) (t1 : List Cue × Int × Int × Unit) (rec K : List Cue × Int × Int × Unit → Option (Int × Unit)) : Option (Int × Unit) :=
  cond (decide (t1.2.2.1 < (Int.ofNat (List.length t1.1)))) (rdL t1.1 t1.2.2.1 fun d2 => (f73 (d2, t1.2.1, ())).bind fun x3 => cond (decide (x3.1 < 0)) (some ((-1), ())) (rec (t1.1, x3.1, (w64 (t1.2.2.1 + 1)), ()))) (K (t1.1, t1.2.1, t1.2.2.1, ()))
noncomputable def F33 (f73 : Cue × Int × Unit → Option (Int × Unit)) (a : List Cue × Int × Unit) : Option (Int × Unit) :=
  cond (decide ((w64 (a.2.1 - (Int.ofNat (List.length a.1)))) < 0)) (some ((-1), ())) (iterF (s33_0 f73) fuel (a.1, (w64 (a.2.1 - (Int.ofNat (List.length a.1)))), 0, ()) fun t4 => some (t4.2.1, ()))
def E33 (f73 : Cue × Int × Unit → Option (Int × Unit)) : Env := envL [(73, mkE p73 r73 false f73)]
noncomputable def L33 (f73 : Cue × Int × Unit → Option (Int × Unit)) : LEnv (densS (muts p33 ++ r33)) := lenv [(0, loopL (R := densS (muts p33 ++ r33)) q33_0 (s33_0 f73))]
theorem e33_0 (f73 : Cue × Int × Unit → Option (Int × Unit)) (X : Nat → St → Option (densS (muts p33 ++ r33))) (rec K : densS q33_0 → Option (densS (muts p33 ++ r33))) (t : densS q33_0) :
    ev (E33 f73) tab (fun _ => false) (L33 f73) (retK tab p33 r33 Proofs.Try.f33.results.toList) (loopC Proofs.Try.f33 0) (fun i s => cond (Nat.beq i 0) (decK 100 q33_0 s K) (X i s)) (fun s => decK 100 q33_0 s rec) (enc q33_0 t) = s33_0 f73 t rec K := by kernel_rfl
theorem e33 (f73 : Cue × Int × Unit → Option (Int × Unit)) (a : densS p33) : runF (E33 f73) tab (fun _ => false) p33 r33 Proofs.Try.f33 (L33 f73) a = F33 f73 a := by kernel_rfl
theorem ok33 {f73 : Cue × Int × Unit → Option (Int × Unit)} (h73 : OK Proofs.Try.prog 73 (mkE p73 r73 false f73)) : OK Proofs.Try.prog 33 (mkE p33 r33 false (F33 f73)) :=
  fn_ok tab_ok (envL_ok (l := [(73, mkE p73 r73 false f73)]) (OKs.cons h73 OKs.nil)) mixed (ann := (fun _ => false)) (L := L33 f73) (fn := Proofs.Try.f33) (c := bodyC Proofs.Try.f33) (ls := [(0, loopC Proofs.Try.f33 0)]) Proofs.Try.func33 (by kernel_rfl) (by kernel_rfl) (by kernel_rfl) (by kernel_rfl)
    (LoopsP.cons q33_0 (s33_0 f73) rfl (e33_0 f73) LoopsP.nil) (e33 f73)
/-! laws.szGustS -/
def p34 : List SP := [.one (.r .gust), .one (.int .i64)]
def r34 : List SP := [.one (.int .i64)]
noncomputable def F34 (a : List Gust × Int × Unit) : Option (Int × Unit) :=
  cond (decide ((w64 (a.2.1 - (Int.ofNat (List.length a.1)))) < 0)) (some ((-1), ())) (some ((w64 (a.2.1 - (Int.ofNat (List.length a.1)))), ()))
def E34 : Env := envL []
noncomputable def L34 : LEnv (densS (muts p34 ++ r34)) := lenv []
theorem e34 (a : densS p34) : runF (E34) tab (fun _ => false) p34 r34 Proofs.Try.f34 (L34) a = F34 a := by kernel_rfl
theorem ok34 : OK Proofs.Try.prog 34 (mkE p34 r34 false (F34)) :=
  fn_ok tab_ok (envL_ok (l := []) OKs.nil) mixed (ann := (fun _ => false)) (L := L34) (fn := Proofs.Try.f34) (c := bodyC Proofs.Try.f34) (ls := []) Proofs.Try.func34 (by kernel_rfl) (by kernel_rfl) (by kernel_rfl) (by kernel_rfl)
    LoopsP.nil (e34)
/-! laws.szShow -/
def p11 : List SP := [.agg [.r .device, .r .cue, .r .gust, .int .i64], .one (.int .i64)]
def r11 : List SP := [.one (.int .i64)]
noncomputable def F11 (f32 : List Device × Int × Unit → Option (Int × Unit)) (f33 : List Cue × Int × Unit → Option (Int × Unit)) (f34 : List Gust × Int × Unit → Option (Int × Unit)) (a : (List Device × List Cue × List Gust × Int × Unit) × Int × Unit) : Option (Int × Unit) :=
  (f32 (a.1.1, a.2.1, ())).bind fun x1 => cond (decide (x1.1 < 0)) (some ((-1), ())) ((f33 (a.1.2.1, x1.1, ())).bind fun x2 => cond (decide (x2.1 < 0)) (some ((-1), ())) ((f34 (a.1.2.2.1, x2.1, ())).bind fun x3 => cond (decide (x3.1 < 0)) (some ((-1), ())) (some (x3.1, ()))))
def E11 (f32 : List Device × Int × Unit → Option (Int × Unit)) (f33 : List Cue × Int × Unit → Option (Int × Unit)) (f34 : List Gust × Int × Unit → Option (Int × Unit)) : Env := envL [(32, mkE p32 r32 false f32), (33, mkE p33 r33 false f33), (34, mkE p34 r34 false f34)]
noncomputable def L11 (f32 : List Device × Int × Unit → Option (Int × Unit)) (f33 : List Cue × Int × Unit → Option (Int × Unit)) (f34 : List Gust × Int × Unit → Option (Int × Unit)) : LEnv (densS (muts p11 ++ r11)) := lenv []
theorem e11 (f32 : List Device × Int × Unit → Option (Int × Unit)) (f33 : List Cue × Int × Unit → Option (Int × Unit)) (f34 : List Gust × Int × Unit → Option (Int × Unit)) (a : densS p11) : runF (E11 f32 f33 f34) tab (fun _ => false) p11 r11 Proofs.Try.f11 (L11 f32 f33 f34) a = F11 f32 f33 f34 a := by kernel_rfl
theorem ok11 {f32 : List Device × Int × Unit → Option (Int × Unit)} {f33 : List Cue × Int × Unit → Option (Int × Unit)} {f34 : List Gust × Int × Unit → Option (Int × Unit)} (h32 : OK Proofs.Try.prog 32 (mkE p32 r32 false f32)) (h33 : OK Proofs.Try.prog 33 (mkE p33 r33 false f33)) (h34 : OK Proofs.Try.prog 34 (mkE p34 r34 false f34)) : OK Proofs.Try.prog 11 (mkE p11 r11 false (F11 f32 f33 f34)) :=
  fn_ok tab_ok (envL_ok (l := [(32, mkE p32 r32 false f32), (33, mkE p33 r33 false f33), (34, mkE p34 r34 false f34)]) (OKs.cons h32 (OKs.cons h33 (OKs.cons h34 OKs.nil)))) mixed (ann := (fun _ => false)) (L := L11 f32 f33 f34) (fn := Proofs.Try.f11) (c := bodyC Proofs.Try.f11) (ls := []) Proofs.Try.func11 (by kernel_rfl) (by kernel_rfl) (by kernel_rfl) (by kernel_rfl)
    LoopsP.nil (e11 f32 f33 f34)
/-! laws.szPlaceS -/
def p21 : List SP := [.one (.r .place), .one (.int .i64)]
def r21 : List SP := [.one (.int .i64)]
noncomputable def F21 (a : List Place × Int × Unit) : Option (Int × Unit) :=
  cond (decide ((w64 (a.2.1 - (Int.ofNat (List.length a.1)))) < 0)) (some ((-1), ())) (some ((w64 (a.2.1 - (Int.ofNat (List.length a.1)))), ()))
def E21 : Env := envL []
noncomputable def L21 : LEnv (densS (muts p21 ++ r21)) := lenv []
theorem e21 (a : densS p21) : runF (E21) tab (fun _ => false) p21 r21 Proofs.Try.f21 (L21) a = F21 a := by kernel_rfl
theorem ok21 : OK Proofs.Try.prog 21 (mkE p21 r21 false (F21)) :=
  fn_ok tab_ok (envL_ok (l := []) OKs.nil) mixed (ann := (fun _ => false)) (L := L21) (fn := Proofs.Try.f21) (c := bodyC Proofs.Try.f21) (ls := []) Proofs.Try.func21 (by kernel_rfl) (by kernel_rfl) (by kernel_rfl) (by kernel_rfl)
    LoopsP.nil (e21)
/-! laws.szDesk -/
def p6 : List SP := [.agg [.r .device, .r .cue, .r .gust, .int .i64, .r .place, .int .i64, .int .i64, .int .i64, .int .i64], .one (.int .i64)]
def r6 : List SP := [.one (.int .i64)]
noncomputable def F6 (f11 : (List Device × List Cue × List Gust × Int × Unit) × Int × Unit → Option (Int × Unit)) (f21 : List Place × Int × Unit → Option (Int × Unit)) (a : (List Device × List Cue × List Gust × Int × List Place × Int × Int × Int × Int × Unit) × Int × Unit) : Option (Int × Unit) :=
  (f11 ((a.1.1, a.1.2.1, a.1.2.2.1, a.1.2.2.2.1, ()), a.2.1, ())).bind fun x1 => cond (decide (x1.1 < 0)) (some ((-1), ())) ((f21 (a.1.2.2.2.2.1, x1.1, ())).bind fun x2 => cond (decide (x2.1 < 0)) (some ((-1), ())) (some (x2.1, ())))
def E6 (f11 : (List Device × List Cue × List Gust × Int × Unit) × Int × Unit → Option (Int × Unit)) (f21 : List Place × Int × Unit → Option (Int × Unit)) : Env := envL [(11, mkE p11 r11 false f11), (21, mkE p21 r21 false f21)]
noncomputable def L6 (f11 : (List Device × List Cue × List Gust × Int × Unit) × Int × Unit → Option (Int × Unit)) (f21 : List Place × Int × Unit → Option (Int × Unit)) : LEnv (densS (muts p6 ++ r6)) := lenv []
theorem e6 (f11 : (List Device × List Cue × List Gust × Int × Unit) × Int × Unit → Option (Int × Unit)) (f21 : List Place × Int × Unit → Option (Int × Unit)) (a : densS p6) : runF (E6 f11 f21) tab (fun _ => false) p6 r6 Proofs.Try.f6 (L6 f11 f21) a = F6 f11 f21 a := by kernel_rfl
theorem ok6 {f11 : (List Device × List Cue × List Gust × Int × Unit) × Int × Unit → Option (Int × Unit)} {f21 : List Place × Int × Unit → Option (Int × Unit)} (h11 : OK Proofs.Try.prog 11 (mkE p11 r11 false f11)) (h21 : OK Proofs.Try.prog 21 (mkE p21 r21 false f21)) : OK Proofs.Try.prog 6 (mkE p6 r6 false (F6 f11 f21)) :=
  fn_ok tab_ok (envL_ok (l := [(11, mkE p11 r11 false f11), (21, mkE p21 r21 false f21)]) (OKs.cons h11 (OKs.cons h21 OKs.nil))) mixed (ann := (fun _ => false)) (L := L6 f11 f21) (fn := Proofs.Try.f6) (c := bodyC Proofs.Try.f6) (ls := []) Proofs.Try.func6 (by kernel_rfl) (by kernel_rfl) (by kernel_rfl) (by kernel_rfl)
    LoopsP.nil (e6 f11 f21)
/-! laws.toPlace -/
def p14 : List SP := [.t .place]
def r14 : List SP := [.t .place]
noncomputable def F14 (a : Place × Unit) : Option (Place × Unit) :=
  some (a.1, ())
def E14 : Env := envL []
noncomputable def L14 : LEnv (densS (muts p14 ++ r14)) := lenv []
theorem e14 (a : densS p14) : runF (E14) tab (fun _ => false) p14 r14 Proofs.Try.f14 (L14) a = F14 a := by kernel_rfl
theorem ok14 : OK Proofs.Try.prog 14 (mkE p14 r14 false (F14)) :=
  fn_ok tab_ok (envL_ok (l := []) OKs.nil) mixed (ann := (fun _ => false)) (L := L14) (fn := Proofs.Try.f14) (c := bodyC Proofs.Try.f14) (ls := []) Proofs.Try.func14 (by kernel_rfl) (by kernel_rfl) (by kernel_rfl) (by kernel_rfl)
    LoopsP.nil (e14)
/-! laws.toDevice -/
def p76 : List SP := [.t .device]
def r76 : List SP := [.t .device]
noncomputable def F76 (f14 : Place × Unit → Option (Place × Unit)) (a : Device × Unit) : Option (Device × Unit) :=
  (f14 (a.1.At, ())).bind fun x1 => some ((⟨a.1.Name, a.1.Kind, a.1.Line, ⟨x1.1.X, x1.1.Y⟩, a.1.Heading, a.1.Tilt, a.1.Most⟩ : Device), ())
def E76 (f14 : Place × Unit → Option (Place × Unit)) : Env := envL [(14, mkE p14 r14 false f14)]
noncomputable def L76 (f14 : Place × Unit → Option (Place × Unit)) : LEnv (densS (muts p76 ++ r76)) := lenv []
theorem e76 (f14 : Place × Unit → Option (Place × Unit)) (a : densS p76) : runF (E76 f14) tab (fun _ => false) p76 r76 Proofs.Try.f76 (L76 f14) a = F76 f14 a := by kernel_rfl
theorem ok76 {f14 : Place × Unit → Option (Place × Unit)} (h14 : OK Proofs.Try.prog 14 (mkE p14 r14 false f14)) : OK Proofs.Try.prog 76 (mkE p76 r76 false (F76 f14)) :=
  fn_ok tab_ok (envL_ok (l := [(14, mkE p14 r14 false f14)]) (OKs.cons h14 OKs.nil)) mixed (ann := (fun _ => false)) (L := L76 f14) (fn := Proofs.Try.f76) (c := bodyC Proofs.Try.f76) (ls := []) Proofs.Try.func76 (by kernel_rfl) (by kernel_rfl) (by kernel_rfl) (by kernel_rfl)
    LoopsP.nil (e76 f14)
/-! laws.toDeviceS -/
def p37 : List SP := [.one (.r .device)]
def r37 : List SP := [.one (.o 0 .device)]
def q37_0 : List SP := pat 23 0 [(0, .one (.r .device)), (3, .one (.o 5000001 .device)), (4, .one (.int .i64))]
noncomputable def s37_0 (f76 : Device × Unit → Option (Device × Unit)) (t1 : List Device × List Device × Int × Unit) (rec K : List Device × List Device × Int × Unit → Option (List Device × Unit)) : Option (List Device × Unit) :=
  cond (decide (t1.2.2.1 < (Int.ofNat (List.length t1.1)))) (rdL t1.1 t1.2.2.1 fun d2 => (f76 (d2, ())).bind fun x3 => rdL t1.2.1 t1.2.2.1 fun _ => (t1.2.1[(Int.toNat t1.2.2.1)]?).bind fun d4 => rec (t1.1, (List.set t1.2.1 (Int.toNat t1.2.2.1) x3.1), (w64 (t1.2.2.1 + 1)), ())) (K (t1.1, t1.2.1, t1.2.2.1, ()))
noncomputable def F37 (f76 : Device × Unit → Option (Device × Unit)) (a : List Device × Unit) : Option (List Device × Unit) :=
  okIf (0 ≤ (Int.ofNat (List.length a.1))) (capK (Int.toNat (Int.ofNat (List.length a.1))) (iterF (s37_0 f76) fuel (a.1, (List.replicate (Int.toNat (Int.ofNat (List.length a.1))) (Ty.zero .device)), 0, ()) fun t5 => some (t5.2.1, ())))
def E37 (f76 : Device × Unit → Option (Device × Unit)) : Env := envL [(76, mkE p76 r76 false f76)]
noncomputable def L37 (f76 : Device × Unit → Option (Device × Unit)) : LEnv (densS (muts p37 ++ r37)) := lenv [(0, loopL (R := densS (muts p37 ++ r37)) q37_0 (s37_0 f76))]
theorem e37_0 (f76 : Device × Unit → Option (Device × Unit)) (X : Nat → St → Option (densS (muts p37 ++ r37))) (rec K : densS q37_0 → Option (densS (muts p37 ++ r37))) (t : densS q37_0) :
    ev (E37 f76) tab (fun _ => false) (L37 f76) (retK tab p37 r37 Proofs.Try.f37.results.toList) (loopC Proofs.Try.f37 0) (fun i s => cond (Nat.beq i 0) (decK 100 q37_0 s K) (X i s)) (fun s => decK 100 q37_0 s rec) (enc q37_0 t) = s37_0 f76 t rec K := by kernel_rfl
theorem e37 (f76 : Device × Unit → Option (Device × Unit)) (a : densS p37) : runF (E37 f76) tab (fun _ => false) p37 r37 Proofs.Try.f37 (L37 f76) a = F37 f76 a := by kernel_rfl
theorem ok37 {f76 : Device × Unit → Option (Device × Unit)} (h76 : OK Proofs.Try.prog 76 (mkE p76 r76 false f76)) : OK Proofs.Try.prog 37 (mkE p37 r37 false (F37 f76)) :=
  fn_ok tab_ok (envL_ok (l := [(76, mkE p76 r76 false f76)]) (OKs.cons h76 OKs.nil)) mixed (ann := (fun _ => false)) (L := L37 f76) (fn := Proofs.Try.f37) (c := bodyC Proofs.Try.f37) (ls := [(0, loopC Proofs.Try.f37 0)]) Proofs.Try.func37 (by kernel_rfl) (by kernel_rfl) (by kernel_rfl) (by kernel_rfl)
    (LoopsP.cons q37_0 (s37_0 f76) rfl (e37_0 f76) LoopsP.nil) (e37 f76)
/-! laws.toCue -/
def p77 : List SP := [.t .cue]
def r77 : List SP := [.t .cue]
noncomputable def F77 (a : Cue × Unit) : Option (Cue × Unit) :=
  some (a.1, ())
def E77 : Env := envL []
noncomputable def L77 : LEnv (densS (muts p77 ++ r77)) := lenv []
theorem e77 (a : densS p77) : runF (E77) tab (fun _ => false) p77 r77 Proofs.Try.f77 (L77) a = F77 a := by kernel_rfl
theorem ok77 : OK Proofs.Try.prog 77 (mkE p77 r77 false (F77)) :=
  fn_ok tab_ok (envL_ok (l := []) OKs.nil) mixed (ann := (fun _ => false)) (L := L77) (fn := Proofs.Try.f77) (c := bodyC Proofs.Try.f77) (ls := []) Proofs.Try.func77 (by kernel_rfl) (by kernel_rfl) (by kernel_rfl) (by kernel_rfl)
    LoopsP.nil (e77)
/-! laws.toCueS -/
def p38 : List SP := [.one (.r .cue)]
def r38 : List SP := [.one (.o 0 .cue)]
def q38_0 : List SP := pat 23 0 [(0, .one (.r .cue)), (3, .one (.o 5000001 .cue)), (4, .one (.int .i64))]
noncomputable def s38_0 (f77 : Cue × Unit → Option (Cue × Unit)) (t1 : List Cue × List Cue × Int × Unit) (rec K : List Cue × List Cue × Int × Unit → Option (List Cue × Unit)) : Option (List Cue × Unit) :=
  cond (decide (t1.2.2.1 < (Int.ofNat (List.length t1.1)))) (rdL t1.1 t1.2.2.1 fun d2 => (f77 (d2, ())).bind fun x3 => rdL t1.2.1 t1.2.2.1 fun _ => (t1.2.1[(Int.toNat t1.2.2.1)]?).bind fun d4 => rec (t1.1, (List.set t1.2.1 (Int.toNat t1.2.2.1) x3.1), (w64 (t1.2.2.1 + 1)), ())) (K (t1.1, t1.2.1, t1.2.2.1, ()))
noncomputable def F38 (f77 : Cue × Unit → Option (Cue × Unit)) (a : List Cue × Unit) : Option (List Cue × Unit) :=
  okIf (0 ≤ (Int.ofNat (List.length a.1))) (capK (Int.toNat (Int.ofNat (List.length a.1))) (iterF (s38_0 f77) fuel (a.1, (List.replicate (Int.toNat (Int.ofNat (List.length a.1))) (Ty.zero .cue)), 0, ()) fun t5 => some (t5.2.1, ())))
def E38 (f77 : Cue × Unit → Option (Cue × Unit)) : Env := envL [(77, mkE p77 r77 false f77)]
noncomputable def L38 (f77 : Cue × Unit → Option (Cue × Unit)) : LEnv (densS (muts p38 ++ r38)) := lenv [(0, loopL (R := densS (muts p38 ++ r38)) q38_0 (s38_0 f77))]
theorem e38_0 (f77 : Cue × Unit → Option (Cue × Unit)) (X : Nat → St → Option (densS (muts p38 ++ r38))) (rec K : densS q38_0 → Option (densS (muts p38 ++ r38))) (t : densS q38_0) :
    ev (E38 f77) tab (fun _ => false) (L38 f77) (retK tab p38 r38 Proofs.Try.f38.results.toList) (loopC Proofs.Try.f38 0) (fun i s => cond (Nat.beq i 0) (decK 100 q38_0 s K) (X i s)) (fun s => decK 100 q38_0 s rec) (enc q38_0 t) = s38_0 f77 t rec K := by kernel_rfl
theorem e38 (f77 : Cue × Unit → Option (Cue × Unit)) (a : densS p38) : runF (E38 f77) tab (fun _ => false) p38 r38 Proofs.Try.f38 (L38 f77) a = F38 f77 a := by kernel_rfl
theorem ok38 {f77 : Cue × Unit → Option (Cue × Unit)} (h77 : OK Proofs.Try.prog 77 (mkE p77 r77 false f77)) : OK Proofs.Try.prog 38 (mkE p38 r38 false (F38 f77)) :=
  fn_ok tab_ok (envL_ok (l := [(77, mkE p77 r77 false f77)]) (OKs.cons h77 OKs.nil)) mixed (ann := (fun _ => false)) (L := L38 f77) (fn := Proofs.Try.f38) (c := bodyC Proofs.Try.f38) (ls := [(0, loopC Proofs.Try.f38 0)]) Proofs.Try.func38 (by kernel_rfl) (by kernel_rfl) (by kernel_rfl) (by kernel_rfl)
    (LoopsP.cons q38_0 (s38_0 f77) rfl (e38_0 f77) LoopsP.nil) (e38 f77)
/-! laws.toGust -/
def p78 : List SP := [.t .gust]
def r78 : List SP := [.t .gust]
noncomputable def F78 (f14 : Place × Unit → Option (Place × Unit)) (a : Gust × Unit) : Option (Gust × Unit) :=
  (f14 (a.1.Drift, ())).bind fun x1 => some ((⟨a.1.From, ⟨x1.1.X, x1.1.Y⟩⟩ : Gust), ())
def E78 (f14 : Place × Unit → Option (Place × Unit)) : Env := envL [(14, mkE p14 r14 false f14)]
noncomputable def L78 (f14 : Place × Unit → Option (Place × Unit)) : LEnv (densS (muts p78 ++ r78)) := lenv []
theorem e78 (f14 : Place × Unit → Option (Place × Unit)) (a : densS p78) : runF (E78 f14) tab (fun _ => false) p78 r78 Proofs.Try.f78 (L78 f14) a = F78 f14 a := by kernel_rfl
theorem ok78 {f14 : Place × Unit → Option (Place × Unit)} (h14 : OK Proofs.Try.prog 14 (mkE p14 r14 false f14)) : OK Proofs.Try.prog 78 (mkE p78 r78 false (F78 f14)) :=
  fn_ok tab_ok (envL_ok (l := [(14, mkE p14 r14 false f14)]) (OKs.cons h14 OKs.nil)) mixed (ann := (fun _ => false)) (L := L78 f14) (fn := Proofs.Try.f78) (c := bodyC Proofs.Try.f78) (ls := []) Proofs.Try.func78 (by kernel_rfl) (by kernel_rfl) (by kernel_rfl) (by kernel_rfl)
    LoopsP.nil (e78 f14)
/-! laws.toGustS -/
def p39 : List SP := [.one (.r .gust)]
def r39 : List SP := [.one (.o 0 .gust)]
def q39_0 : List SP := pat 23 0 [(0, .one (.r .gust)), (3, .one (.o 5000001 .gust)), (4, .one (.int .i64))]
noncomputable def s39_0 (f78 : Gust × Unit → Option (Gust × Unit)) (t1 : List Gust × List Gust × Int × Unit) (rec K : List Gust × List Gust × Int × Unit → Option (List Gust × Unit)) : Option (List Gust × Unit) :=
  cond (decide (t1.2.2.1 < (Int.ofNat (List.length t1.1)))) (rdL t1.1 t1.2.2.1 fun d2 => (f78 (d2, ())).bind fun x3 => rdL t1.2.1 t1.2.2.1 fun _ => (t1.2.1[(Int.toNat t1.2.2.1)]?).bind fun d4 => rec (t1.1, (List.set t1.2.1 (Int.toNat t1.2.2.1) x3.1), (w64 (t1.2.2.1 + 1)), ())) (K (t1.1, t1.2.1, t1.2.2.1, ()))
noncomputable def F39 (f78 : Gust × Unit → Option (Gust × Unit)) (a : List Gust × Unit) : Option (List Gust × Unit) :=
  okIf (0 ≤ (Int.ofNat (List.length a.1))) (capK (Int.toNat (Int.ofNat (List.length a.1))) (iterF (s39_0 f78) fuel (a.1, (List.replicate (Int.toNat (Int.ofNat (List.length a.1))) (Ty.zero .gust)), 0, ()) fun t5 => some (t5.2.1, ())))
def E39 (f78 : Gust × Unit → Option (Gust × Unit)) : Env := envL [(78, mkE p78 r78 false f78)]
noncomputable def L39 (f78 : Gust × Unit → Option (Gust × Unit)) : LEnv (densS (muts p39 ++ r39)) := lenv [(0, loopL (R := densS (muts p39 ++ r39)) q39_0 (s39_0 f78))]
theorem e39_0 (f78 : Gust × Unit → Option (Gust × Unit)) (X : Nat → St → Option (densS (muts p39 ++ r39))) (rec K : densS q39_0 → Option (densS (muts p39 ++ r39))) (t : densS q39_0) :
    ev (E39 f78) tab (fun _ => false) (L39 f78) (retK tab p39 r39 Proofs.Try.f39.results.toList) (loopC Proofs.Try.f39 0) (fun i s => cond (Nat.beq i 0) (decK 100 q39_0 s K) (X i s)) (fun s => decK 100 q39_0 s rec) (enc q39_0 t) = s39_0 f78 t rec K := by kernel_rfl
theorem e39 (f78 : Gust × Unit → Option (Gust × Unit)) (a : densS p39) : runF (E39 f78) tab (fun _ => false) p39 r39 Proofs.Try.f39 (L39 f78) a = F39 f78 a := by kernel_rfl
theorem ok39 {f78 : Gust × Unit → Option (Gust × Unit)} (h78 : OK Proofs.Try.prog 78 (mkE p78 r78 false f78)) : OK Proofs.Try.prog 39 (mkE p39 r39 false (F39 f78)) :=
  fn_ok tab_ok (envL_ok (l := [(78, mkE p78 r78 false f78)]) (OKs.cons h78 OKs.nil)) mixed (ann := (fun _ => false)) (L := L39 f78) (fn := Proofs.Try.f39) (c := bodyC Proofs.Try.f39) (ls := [(0, loopC Proofs.Try.f39 0)]) Proofs.Try.func39 (by kernel_rfl) (by kernel_rfl) (by kernel_rfl) (by kernel_rfl)
    (LoopsP.cons q39_0 (s39_0 f78) rfl (e39_0 f78) LoopsP.nil) (e39 f78)
/-! laws.toShow -/
def p13 : List SP := [.agg [.r .device, .r .cue, .r .gust, .int .i64]]
def r13 : List SP := [.agg [.o 0 .device, .o 1 .cue, .o 2 .gust, .int .i64]]
noncomputable def F13 (f37 : List Device × Unit → Option (List Device × Unit)) (f38 : List Cue × Unit → Option (List Cue × Unit)) (f39 : List Gust × Unit → Option (List Gust × Unit)) (a : (List Device × List Cue × List Gust × Int × Unit) × Unit) : Option ((List Device × List Cue × List Gust × Int × Unit) × Unit) :=
  (f37 (a.1.1, ())).bind fun x1 => (f38 (a.1.2.1, ())).bind fun x2 => (f39 (a.1.2.2.1, ())).bind fun x3 => some ((x1.1, x2.1, x3.1, a.1.2.2.2.1, ()), ())
def E13 (f37 : List Device × Unit → Option (List Device × Unit)) (f38 : List Cue × Unit → Option (List Cue × Unit)) (f39 : List Gust × Unit → Option (List Gust × Unit)) : Env := envL [(37, mkE p37 r37 false f37), (38, mkE p38 r38 false f38), (39, mkE p39 r39 false f39)]
noncomputable def L13 (f37 : List Device × Unit → Option (List Device × Unit)) (f38 : List Cue × Unit → Option (List Cue × Unit)) (f39 : List Gust × Unit → Option (List Gust × Unit)) : LEnv (densS (muts p13 ++ r13)) := lenv []
theorem e13 (f37 : List Device × Unit → Option (List Device × Unit)) (f38 : List Cue × Unit → Option (List Cue × Unit)) (f39 : List Gust × Unit → Option (List Gust × Unit)) (a : densS p13) : runF (E13 f37 f38 f39) tab (fun _ => false) p13 r13 Proofs.Try.f13 (L13 f37 f38 f39) a = F13 f37 f38 f39 a := by kernel_rfl
theorem ok13 {f37 : List Device × Unit → Option (List Device × Unit)} {f38 : List Cue × Unit → Option (List Cue × Unit)} {f39 : List Gust × Unit → Option (List Gust × Unit)} (h37 : OK Proofs.Try.prog 37 (mkE p37 r37 false f37)) (h38 : OK Proofs.Try.prog 38 (mkE p38 r38 false f38)) (h39 : OK Proofs.Try.prog 39 (mkE p39 r39 false f39)) : OK Proofs.Try.prog 13 (mkE p13 r13 false (F13 f37 f38 f39)) :=
  fn_ok tab_ok (envL_ok (l := [(37, mkE p37 r37 false f37), (38, mkE p38 r38 false f38), (39, mkE p39 r39 false f39)]) (OKs.cons h37 (OKs.cons h38 (OKs.cons h39 OKs.nil)))) mixed (ann := (fun _ => false)) (L := L13 f37 f38 f39) (fn := Proofs.Try.f13) (c := bodyC Proofs.Try.f13) (ls := []) Proofs.Try.func13 (by kernel_rfl) (by kernel_rfl) (by kernel_rfl) (by kernel_rfl)
    LoopsP.nil (e13 f37 f38 f39)
/-! laws.toPlaceS -/
def p25 : List SP := [.one (.r .place)]
def r25 : List SP := [.one (.o 0 .place)]
def q25_0 : List SP := pat 23 0 [(0, .one (.r .place)), (3, .one (.o 5000001 .place)), (4, .one (.int .i64))]
noncomputable def s25_0 (f14 : Place × Unit → Option (Place × Unit)) (t1 : List Place × List Place × Int × Unit) (rec K : List Place × List Place × Int × Unit → Option (List Place × Unit)) : Option (List Place × Unit) :=
  cond (decide (t1.2.2.1 < (Int.ofNat (List.length t1.1)))) (rdL t1.1 t1.2.2.1 fun d2 => (f14 (d2, ())).bind fun x3 => rdL t1.2.1 t1.2.2.1 fun _ => (t1.2.1[(Int.toNat t1.2.2.1)]?).bind fun d4 => rec (t1.1, (List.set t1.2.1 (Int.toNat t1.2.2.1) x3.1), (w64 (t1.2.2.1 + 1)), ())) (K (t1.1, t1.2.1, t1.2.2.1, ()))
noncomputable def F25 (f14 : Place × Unit → Option (Place × Unit)) (a : List Place × Unit) : Option (List Place × Unit) :=
  okIf (0 ≤ (Int.ofNat (List.length a.1))) (capK (Int.toNat (Int.ofNat (List.length a.1))) (iterF (s25_0 f14) fuel (a.1, (List.replicate (Int.toNat (Int.ofNat (List.length a.1))) (Ty.zero .place)), 0, ()) fun t5 => some (t5.2.1, ())))
def E25 (f14 : Place × Unit → Option (Place × Unit)) : Env := envL [(14, mkE p14 r14 false f14)]
noncomputable def L25 (f14 : Place × Unit → Option (Place × Unit)) : LEnv (densS (muts p25 ++ r25)) := lenv [(0, loopL (R := densS (muts p25 ++ r25)) q25_0 (s25_0 f14))]
theorem e25_0 (f14 : Place × Unit → Option (Place × Unit)) (X : Nat → St → Option (densS (muts p25 ++ r25))) (rec K : densS q25_0 → Option (densS (muts p25 ++ r25))) (t : densS q25_0) :
    ev (E25 f14) tab (fun _ => false) (L25 f14) (retK tab p25 r25 Proofs.Try.f25.results.toList) (loopC Proofs.Try.f25 0) (fun i s => cond (Nat.beq i 0) (decK 100 q25_0 s K) (X i s)) (fun s => decK 100 q25_0 s rec) (enc q25_0 t) = s25_0 f14 t rec K := by kernel_rfl
theorem e25 (f14 : Place × Unit → Option (Place × Unit)) (a : densS p25) : runF (E25 f14) tab (fun _ => false) p25 r25 Proofs.Try.f25 (L25 f14) a = F25 f14 a := by kernel_rfl
theorem ok25 {f14 : Place × Unit → Option (Place × Unit)} (h14 : OK Proofs.Try.prog 14 (mkE p14 r14 false f14)) : OK Proofs.Try.prog 25 (mkE p25 r25 false (F25 f14)) :=
  fn_ok tab_ok (envL_ok (l := [(14, mkE p14 r14 false f14)]) (OKs.cons h14 OKs.nil)) mixed (ann := (fun _ => false)) (L := L25 f14) (fn := Proofs.Try.f25) (c := bodyC Proofs.Try.f25) (ls := [(0, loopC Proofs.Try.f25 0)]) Proofs.Try.func25 (by kernel_rfl) (by kernel_rfl) (by kernel_rfl) (by kernel_rfl)
    (LoopsP.cons q25_0 (s25_0 f14) rfl (e25_0 f14) LoopsP.nil) (e25 f14)
/-! laws.toBox -/
def p26 : List SP := [.t .box]
def r26 : List SP := [.t .box]
noncomputable def F26 (f14 : Place × Unit → Option (Place × Unit)) (a : Box × Unit) : Option (Box × Unit) :=
  (f14 (a.1.Low, ())).bind fun x1 => (f14 (a.1.High, ())).bind fun x2 => some ((⟨⟨x1.1.X, x1.1.Y⟩, ⟨x2.1.X, x2.1.Y⟩⟩ : Box), ())
def E26 (f14 : Place × Unit → Option (Place × Unit)) : Env := envL [(14, mkE p14 r14 false f14)]
noncomputable def L26 (f14 : Place × Unit → Option (Place × Unit)) : LEnv (densS (muts p26 ++ r26)) := lenv []
theorem e26 (f14 : Place × Unit → Option (Place × Unit)) (a : densS p26) : runF (E26 f14) tab (fun _ => false) p26 r26 Proofs.Try.f26 (L26 f14) a = F26 f14 a := by kernel_rfl
theorem ok26 {f14 : Place × Unit → Option (Place × Unit)} (h14 : OK Proofs.Try.prog 14 (mkE p14 r14 false f14)) : OK Proofs.Try.prog 26 (mkE p26 r26 false (F26 f14)) :=
  fn_ok tab_ok (envL_ok (l := [(14, mkE p14 r14 false f14)]) (OKs.cons h14 OKs.nil)) mixed (ann := (fun _ => false)) (L := L26 f14) (fn := Proofs.Try.f26) (c := bodyC Proofs.Try.f26) (ls := []) Proofs.Try.func26 (by kernel_rfl) (by kernel_rfl) (by kernel_rfl) (by kernel_rfl)
    LoopsP.nil (e26 f14)
/-! laws.toDesk -/
def p8 : List SP := [.agg [.r .device, .r .cue, .r .gust, .int .i64, .r .place, .int .i64, .int .i64, .int .i64, .int .i64]]
def r8 : List SP := [.agg [.o 0 .device, .o 1 .cue, .o 2 .gust, .int .i64, .o 3 .place, .int .i64, .int .i64, .int .i64, .int .i64]]
noncomputable def F8 (f13 : (List Device × List Cue × List Gust × Int × Unit) × Unit → Option ((List Device × List Cue × List Gust × Int × Unit) × Unit)) (f25 : List Place × Unit → Option (List Place × Unit)) (f26 : Box × Unit → Option (Box × Unit)) (a : (List Device × List Cue × List Gust × Int × List Place × Int × Int × Int × Int × Unit) × Unit) : Option ((List Device × List Cue × List Gust × Int × List Place × Int × Int × Int × Int × Unit) × Unit) :=
  (f13 ((a.1.1, a.1.2.1, a.1.2.2.1, a.1.2.2.2.1, ()), ())).bind fun x1 => (f25 (a.1.2.2.2.2.1, ())).bind fun x2 => (f26 ((⟨⟨a.1.2.2.2.2.2.1, a.1.2.2.2.2.2.2.1⟩, ⟨a.1.2.2.2.2.2.2.2.1, a.1.2.2.2.2.2.2.2.2.1⟩⟩ : Box), ())).bind fun x3 => some ((x1.1.1, x1.1.2.1, x1.1.2.2.1, x1.1.2.2.2.1, x2.1, x3.1.Low.X, x3.1.Low.Y, x3.1.High.X, x3.1.High.Y, ()), ())
def E8 (f13 : (List Device × List Cue × List Gust × Int × Unit) × Unit → Option ((List Device × List Cue × List Gust × Int × Unit) × Unit)) (f25 : List Place × Unit → Option (List Place × Unit)) (f26 : Box × Unit → Option (Box × Unit)) : Env := envL [(13, mkE p13 r13 false f13), (25, mkE p25 r25 false f25), (26, mkE p26 r26 false f26)]
noncomputable def L8 (f13 : (List Device × List Cue × List Gust × Int × Unit) × Unit → Option ((List Device × List Cue × List Gust × Int × Unit) × Unit)) (f25 : List Place × Unit → Option (List Place × Unit)) (f26 : Box × Unit → Option (Box × Unit)) : LEnv (densS (muts p8 ++ r8)) := lenv []
theorem e8 (f13 : (List Device × List Cue × List Gust × Int × Unit) × Unit → Option ((List Device × List Cue × List Gust × Int × Unit) × Unit)) (f25 : List Place × Unit → Option (List Place × Unit)) (f26 : Box × Unit → Option (Box × Unit)) (a : densS p8) : runF (E8 f13 f25 f26) tab (fun _ => false) p8 r8 Proofs.Try.f8 (L8 f13 f25 f26) a = F8 f13 f25 f26 a := by kernel_rfl
theorem ok8 {f13 : (List Device × List Cue × List Gust × Int × Unit) × Unit → Option ((List Device × List Cue × List Gust × Int × Unit) × Unit)} {f25 : List Place × Unit → Option (List Place × Unit)} {f26 : Box × Unit → Option (Box × Unit)} (h13 : OK Proofs.Try.prog 13 (mkE p13 r13 false f13)) (h25 : OK Proofs.Try.prog 25 (mkE p25 r25 false f25)) (h26 : OK Proofs.Try.prog 26 (mkE p26 r26 false f26)) : OK Proofs.Try.prog 8 (mkE p8 r8 false (F8 f13 f25 f26)) :=
  fn_ok tab_ok (envL_ok (l := [(13, mkE p13 r13 false f13), (25, mkE p25 r25 false f25), (26, mkE p26 r26 false f26)]) (OKs.cons h13 (OKs.cons h25 (OKs.cons h26 OKs.nil)))) mixed (ann := (fun _ => false)) (L := L8 f13 f25 f26) (fn := Proofs.Try.f8) (c := bodyC Proofs.Try.f8) (ls := []) Proofs.Try.func8 (by kernel_rfl) (by kernel_rfl) (by kernel_rfl) (by kernel_rfl)
    LoopsP.nil (e8 f13 f25 f26)
/-! spec.IsName -/
def p110 : List SP := [.one (.str)]
def r110 : List SP := [.one (.bool)]
def q110_0 : List SP := pat 50 0 [(0, .one (.str)), (3, .one (.int .i64))]
noncomputable def s110_0 (t1 : Str × Int × Unit) (rec K : Str × Int × Unit → Option (Bool × Unit)) : Option (Bool × Unit) :=
  cond (decide (t1.2.1 < (Int.ofNat (List.length t1.1)))) (rdL t1.1 t1.2.1 fun d2 => cond (decide ((Int.ofNat (UInt8.toNat d2)) ≥ 97)) (rdL t1.1 t1.2.1 fun d3 => rdL t1.1 t1.2.1 fun d4 => cond (decide ((Int.ofNat (UInt8.toNat d4)) ≥ 48)) (rdL t1.1 t1.2.1 fun d5 => cond (!(decide ((Int.ofNat (UInt8.toNat d3)) ≤ 122))) (cond (!(!(decide ((Int.ofNat (UInt8.toNat d5)) ≤ 57)))) (cond (decide (t1.2.1 = 0)) (some (false, ())) (rec (t1.1, (w64 (t1.2.1 + 1)), ()))) (some (false, ()))) (rec (t1.1, (w64 (t1.2.1 + 1)), ()))) (cond (!(decide ((Int.ofNat (UInt8.toNat d3)) ≤ 122))) (some (false, ())) (rec (t1.1, (w64 (t1.2.1 + 1)), ())))) (rdL t1.1 t1.2.1 fun d6 => cond (decide ((Int.ofNat (UInt8.toNat d6)) ≥ 48)) (rdL t1.1 t1.2.1 fun d7 => cond (!(!(decide ((Int.ofNat (UInt8.toNat d7)) ≤ 57)))) (cond (decide (t1.2.1 = 0)) (some (false, ())) (rec (t1.1, (w64 (t1.2.1 + 1)), ()))) (some (false, ()))) (some (false, ())))) (K (t1.1, t1.2.1, ()))
noncomputable def F110 (a : Str × Unit) : Option (Bool × Unit) :=
  iterF (s110_0) fuel (a.1, 0, ()) fun t8 => cond (decide ((Int.ofNat (List.length t8.1)) > 0)) (some ((decide ((Int.ofNat (List.length t8.1)) ≤ 8)), ())) (some (false, ()))
def E110 : Env := envL []
noncomputable def L110 : LEnv (densS (muts p110 ++ r110)) := lenv [(0, loopL (R := densS (muts p110 ++ r110)) q110_0 (s110_0))]
theorem e110_0 (X : Nat → St → Option (densS (muts p110 ++ r110))) (rec K : densS q110_0 → Option (densS (muts p110 ++ r110))) (t : densS q110_0) :
    ev (E110) tab (fun _ => false) (L110) (retK tab p110 r110 Proofs.Try.f110.results.toList) (loopC Proofs.Try.f110 0) (fun i s => cond (Nat.beq i 0) (decK 100 q110_0 s K) (X i s)) (fun s => decK 100 q110_0 s rec) (enc q110_0 t) = s110_0 t rec K := by kernel_rfl
theorem e110 (a : densS p110) : runF (E110) tab (fun _ => false) p110 r110 Proofs.Try.f110 (L110) a = F110 a := by kernel_rfl
theorem ok110 : OK Proofs.Try.prog 110 (mkE p110 r110 false (F110)) :=
  fn_ok tab_ok (envL_ok (l := []) OKs.nil) mixed (ann := (fun _ => false)) (L := L110) (fn := Proofs.Try.f110) (c := bodyC Proofs.Try.f110) (ls := [(0, loopC Proofs.Try.f110 0)]) Proofs.Try.func110 (by kernel_rfl) (by kernel_rfl) (by kernel_rfl) (by kernel_rfl)
    (LoopsP.cons q110_0 (s110_0) rfl (e110_0) LoopsP.nil) (e110)
/-! spec.l1In -/
def p60 : List SP := [.one (.int .i64), .one (.int .i64), .one (.int .i64)]
def r60 : List SP := [.one (.bool)]
noncomputable def F60 (a : Int × Int × Int × Unit) : Option (Bool × Unit) :=
  cond (decide (a.1 ≥ a.2.1)) (some ((decide (a.1 ≤ a.2.2.1)), ())) (some (false, ()))
def E60 : Env := envL []
noncomputable def L60 : LEnv (densS (muts p60 ++ r60)) := lenv []
theorem e60 (a : densS p60) : runF (E60) tab (fun _ => false) p60 r60 Proofs.Try.f60 (L60) a = F60 a := by kernel_rfl
theorem ok60 : OK Proofs.Try.prog 60 (mkE p60 r60 false (F60)) :=
  fn_ok tab_ok (envL_ok (l := []) OKs.nil) mixed (ann := (fun _ => false)) (L := L60) (fn := Proofs.Try.f60) (c := bodyC Proofs.Try.f60) (ls := []) Proofs.Try.func60 (by kernel_rfl) (by kernel_rfl) (by kernel_rfl) (by kernel_rfl)
    LoopsP.nil (e60)
/-! spec.l5Supply -/
def p111 : List SP := [.one (.int .i64)]
def r111 : List SP := [.one (.bool)]
noncomputable def F111 (f60 : Int × Int × Int × Unit → Option (Bool × Unit)) (a : Int × Unit) : Option (Bool × Unit) :=
  (f60 (a.1, 0, 512, ())).bind fun x1 => some (x1.1, ())
def E111 (f60 : Int × Int × Int × Unit → Option (Bool × Unit)) : Env := envL [(60, mkE p60 r60 false f60)]
noncomputable def L111 (f60 : Int × Int × Int × Unit → Option (Bool × Unit)) : LEnv (densS (muts p111 ++ r111)) := lenv []
theorem e111 (f60 : Int × Int × Int × Unit → Option (Bool × Unit)) (a : densS p111) : runF (E111 f60) tab (fun _ => false) p111 r111 Proofs.Try.f111 (L111 f60) a = F111 f60 a := by kernel_rfl
theorem ok111 {f60 : Int × Int × Int × Unit → Option (Bool × Unit)} (h60 : OK Proofs.Try.prog 60 (mkE p60 r60 false f60)) : OK Proofs.Try.prog 111 (mkE p111 r111 false (F111 f60)) :=
  fn_ok tab_ok (envL_ok (l := [(60, mkE p60 r60 false f60)]) (OKs.cons h60 OKs.nil)) mixed (ann := (fun _ => false)) (L := L111 f60) (fn := Proofs.Try.f111) (c := bodyC Proofs.Try.f111) (ls := []) Proofs.Try.func111 (by kernel_rfl) (by kernel_rfl) (by kernel_rfl) (by kernel_rfl)
    LoopsP.nil (e111 f60)
/-! spec.IsHeading -/
def p117 : List SP := [.one (.int .i64)]
def r117 : List SP := [.one (.bool)]
noncomputable def F117 (a : Int × Unit) : Option (Bool × Unit) :=
  cond (decide (a.1 ≥ 0)) (some ((decide (a.1 ≤ 3)), ())) (some (false, ()))
def E117 : Env := envL []
noncomputable def L117 : LEnv (densS (muts p117 ++ r117)) := lenv []
theorem e117 (a : densS p117) : runF (E117) tab (fun _ => false) p117 r117 Proofs.Try.f117 (L117) a = F117 a := by kernel_rfl
theorem ok117 : OK Proofs.Try.prog 117 (mkE p117 r117 false (F117)) :=
  fn_ok tab_ok (envL_ok (l := []) OKs.nil) mixed (ann := (fun _ => false)) (L := L117) (fn := Proofs.Try.f117) (c := bodyC Proofs.Try.f117) (ls := []) Proofs.Try.func117 (by kernel_rfl) (by kernel_rfl) (by kernel_rfl) (by kernel_rfl)
    LoopsP.nil (e117)
/-! spec.IsJet -/
def p118 : List SP := [.t .jet]
def r118 : List SP := [.one (.bool)]
noncomputable def F118 (f60 : Int × Int × Int × Unit → Option (Bool × Unit)) (f117 : Int × Unit → Option (Bool × Unit)) (a : Jet × Unit) : Option (Bool × Unit) :=
  (f60 (a.1.At.X, (-1024), 1024, ())).bind fun x1 => cond x1.1 ((f60 (a.1.At.Y, (-1024), 1024, ())).bind fun x2 => cond x2.1 ((f117 (a.1.Heading, ())).bind fun x3 => cond x3.1 ((f60 (a.1.Tilt, 0, 16, ())).bind fun x4 => cond x4.1 ((f60 (a.1.Lift, 1, 32, ())).bind fun x5 => some (x5.1, ())) (some (false, ()))) (some (false, ()))) (some (false, ()))) (some (false, ()))
def E118 (f60 : Int × Int × Int × Unit → Option (Bool × Unit)) (f117 : Int × Unit → Option (Bool × Unit)) : Env := envL [(60, mkE p60 r60 false f60), (117, mkE p117 r117 false f117)]
noncomputable def L118 (f60 : Int × Int × Int × Unit → Option (Bool × Unit)) (f117 : Int × Unit → Option (Bool × Unit)) : LEnv (densS (muts p118 ++ r118)) := lenv []
theorem e118 (f60 : Int × Int × Int × Unit → Option (Bool × Unit)) (f117 : Int × Unit → Option (Bool × Unit)) (a : densS p118) : runF (E118 f60 f117) tab (fun _ => false) p118 r118 Proofs.Try.f118 (L118 f60 f117) a = F118 f60 f117 a := by kernel_rfl
theorem ok118 {f60 : Int × Int × Int × Unit → Option (Bool × Unit)} {f117 : Int × Unit → Option (Bool × Unit)} (h60 : OK Proofs.Try.prog 60 (mkE p60 r60 false f60)) (h117 : OK Proofs.Try.prog 117 (mkE p117 r117 false f117)) : OK Proofs.Try.prog 118 (mkE p118 r118 false (F118 f60 f117)) :=
  fn_ok tab_ok (envL_ok (l := [(60, mkE p60 r60 false f60), (117, mkE p117 r117 false f117)]) (OKs.cons h60 (OKs.cons h117 OKs.nil))) mixed (ann := (fun _ => false)) (L := L118 f60 f117) (fn := Proofs.Try.f118) (c := bodyC Proofs.Try.f118) (ls := []) Proofs.Try.func118 (by kernel_rfl) (by kernel_rfl) (by kernel_rfl) (by kernel_rfl)
    LoopsP.nil (e118 f60 f117)
/-! spec.l6Jet -/
def p112 : List SP := [.t .device]
def r112 : List SP := [.one (.bool)]
noncomputable def F112 (f118 : Jet × Unit → Option (Bool × Unit)) (a : Device × Unit) : Option (Bool × Unit) :=
  (f118 ((⟨⟨a.1.At.X, a.1.At.Y⟩, a.1.Heading, a.1.Tilt, 1⟩ : Jet), ())).bind fun x1 => some (x1.1, ())
def E112 (f118 : Jet × Unit → Option (Bool × Unit)) : Env := envL [(118, mkE p118 r118 false f118)]
noncomputable def L112 (f118 : Jet × Unit → Option (Bool × Unit)) : LEnv (densS (muts p112 ++ r112)) := lenv []
theorem e112 (f118 : Jet × Unit → Option (Bool × Unit)) (a : densS p112) : runF (E112 f118) tab (fun _ => false) p112 r112 Proofs.Try.f112 (L112 f118) a = F112 f118 a := by kernel_rfl
theorem ok112 {f118 : Jet × Unit → Option (Bool × Unit)} (h118 : OK Proofs.Try.prog 118 (mkE p118 r118 false f118)) : OK Proofs.Try.prog 112 (mkE p112 r112 false (F112 f118)) :=
  fn_ok tab_ok (envL_ok (l := [(118, mkE p118 r118 false f118)]) (OKs.cons h118 OKs.nil)) mixed (ann := (fun _ => false)) (L := L112 f118) (fn := Proofs.Try.f112) (c := bodyC Proofs.Try.f112) (ls := []) Proofs.Try.func112 (by kernel_rfl) (by kernel_rfl) (by kernel_rfl) (by kernel_rfl)
    LoopsP.nil (e112 f118)
/-! spec.IsMeasure -/
def p94 : List SP := [.one (.int .i64)]
def r94 : List SP := [.one (.bool)]
noncomputable def F94 (a : Int × Unit) : Option (Bool × Unit) :=
  cond (decide (a.1 ≥ (-4096))) (some ((decide (a.1 ≤ 4096)), ())) (some (false, ()))
def E94 : Env := envL []
noncomputable def L94 : LEnv (densS (muts p94 ++ r94)) := lenv []
theorem e94 (a : densS p94) : runF (E94) tab (fun _ => false) p94 r94 Proofs.Try.f94 (L94) a = F94 a := by kernel_rfl
theorem ok94 : OK Proofs.Try.prog 94 (mkE p94 r94 false (F94)) :=
  fn_ok tab_ok (envL_ok (l := []) OKs.nil) mixed (ann := (fun _ => false)) (L := L94) (fn := Proofs.Try.f94) (c := bodyC Proofs.Try.f94) (ls := []) Proofs.Try.func94 (by kernel_rfl) (by kernel_rfl) (by kernel_rfl) (by kernel_rfl)
    LoopsP.nil (e94)
/-! spec.IsPlace -/
def p63 : List SP := [.t .place]
def r63 : List SP := [.one (.bool)]
noncomputable def F63 (f94 : Int × Unit → Option (Bool × Unit)) (a : Place × Unit) : Option (Bool × Unit) :=
  (f94 (a.1.X, ())).bind fun x1 => cond x1.1 ((f94 (a.1.Y, ())).bind fun x2 => some (x2.1, ())) (some (false, ()))
def E63 (f94 : Int × Unit → Option (Bool × Unit)) : Env := envL [(94, mkE p94 r94 false f94)]
noncomputable def L63 (f94 : Int × Unit → Option (Bool × Unit)) : LEnv (densS (muts p63 ++ r63)) := lenv []
theorem e63 (f94 : Int × Unit → Option (Bool × Unit)) (a : densS p63) : runF (E63 f94) tab (fun _ => false) p63 r63 Proofs.Try.f63 (L63 f94) a = F63 f94 a := by kernel_rfl
theorem ok63 {f94 : Int × Unit → Option (Bool × Unit)} (h94 : OK Proofs.Try.prog 94 (mkE p94 r94 false f94)) : OK Proofs.Try.prog 63 (mkE p63 r63 false (F63 f94)) :=
  fn_ok tab_ok (envL_ok (l := [(94, mkE p94 r94 false f94)]) (OKs.cons h94 OKs.nil)) mixed (ann := (fun _ => false)) (L := L63 f94) (fn := Proofs.Try.f63) (c := bodyC Proofs.Try.f63) (ls := []) Proofs.Try.func63 (by kernel_rfl) (by kernel_rfl) (by kernel_rfl) (by kernel_rfl)
    LoopsP.nil (e63 f94)
/-! spec.IsDevice -/
def p90 : List SP := [.t .device]
def r90 : List SP := [.one (.bool)]
noncomputable def F90 (f110 : Str × Unit → Option (Bool × Unit)) (f111 : Int × Unit → Option (Bool × Unit)) (f112 : Device × Unit → Option (Bool × Unit)) (f60 : Int × Int × Int × Unit → Option (Bool × Unit)) (f63 : Place × Unit → Option (Bool × Unit)) (a : Device × Unit) : Option (Bool × Unit) :=
  (f110 (a.1.Line, ())).bind fun x1 => cond x1.1 ((f110 (a.1.Name, ())).bind fun x2 => cond (!x2.1) (some (false, ())) (cond (decide (a.1.Kind = 1)) ((f111 (a.1.Most, ())).bind fun x3 => cond x3.1 (some ((decide (a.1.Name = a.1.Name) && (decide (a.1.Kind = a.1.Kind) && (decide (a.1.Line = []) && (decide (a.1.At.X = 0) && (decide (a.1.At.Y = 0) && (decide (a.1.Heading = 0) && (decide (a.1.Tilt = 0) && (decide (a.1.Most = a.1.Most) && true)))))))), ())) (some (false, ()))) (cond (decide (a.1.Kind = 2)) (cond (!decide (a.1.Line = a.1.Name)) ((f112 (a.1, ())).bind fun x4 => cond x4.1 ((f60 (a.1.Most, 0, 32, ())).bind fun x5 => some (x5.1, ())) (some (false, ()))) (some (false, ()))) (cond (decide (a.1.Kind = 3)) (cond (!decide (a.1.Line = a.1.Name)) ((f63 (a.1.At, ())).bind fun x6 => cond x6.1 (some ((decide (a.1.Name = a.1.Name) && (decide (a.1.Kind = a.1.Kind) && (decide (a.1.Line = a.1.Line) && (decide (a.1.At.X = a.1.At.X) && (decide (a.1.At.Y = a.1.At.Y) && (decide (a.1.Heading = 0) && (decide (a.1.Tilt = 0) && (decide (a.1.Most = 0) && true)))))))), ())) (some (false, ()))) (some (false, ()))) (some (false, ())))))) ((f110 (a.1.Name, ())).bind fun x7 => cond (!x7.1) (some (false, ())) (cond (decide (a.1.Kind = 1)) ((f111 (a.1.Most, ())).bind fun x8 => cond x8.1 (some ((decide (a.1.Name = a.1.Name) && (decide (a.1.Kind = a.1.Kind) && (decide (a.1.Line = []) && (decide (a.1.At.X = 0) && (decide (a.1.At.Y = 0) && (decide (a.1.Heading = 0) && (decide (a.1.Tilt = 0) && (decide (a.1.Most = a.1.Most) && true)))))))), ())) (some (false, ()))) (cond (decide (a.1.Kind = 2)) (some (false, ())) (cond (decide (a.1.Kind = 3)) (some (false, ())) (some (false, ()))))))
def E90 (f110 : Str × Unit → Option (Bool × Unit)) (f111 : Int × Unit → Option (Bool × Unit)) (f112 : Device × Unit → Option (Bool × Unit)) (f60 : Int × Int × Int × Unit → Option (Bool × Unit)) (f63 : Place × Unit → Option (Bool × Unit)) : Env := envL [(110, mkE p110 r110 false f110), (111, mkE p111 r111 false f111), (112, mkE p112 r112 false f112), (60, mkE p60 r60 false f60), (63, mkE p63 r63 false f63)]
noncomputable def L90 (f110 : Str × Unit → Option (Bool × Unit)) (f111 : Int × Unit → Option (Bool × Unit)) (f112 : Device × Unit → Option (Bool × Unit)) (f60 : Int × Int × Int × Unit → Option (Bool × Unit)) (f63 : Place × Unit → Option (Bool × Unit)) : LEnv (densS (muts p90 ++ r90)) := lenv []
theorem e90 (f110 : Str × Unit → Option (Bool × Unit)) (f111 : Int × Unit → Option (Bool × Unit)) (f112 : Device × Unit → Option (Bool × Unit)) (f60 : Int × Int × Int × Unit → Option (Bool × Unit)) (f63 : Place × Unit → Option (Bool × Unit)) (a : densS p90) : runF (E90 f110 f111 f112 f60 f63) tab (fun _ => false) p90 r90 Proofs.Try.f90 (L90 f110 f111 f112 f60 f63) a = F90 f110 f111 f112 f60 f63 a := by kernel_rfl
theorem ok90 {f110 : Str × Unit → Option (Bool × Unit)} {f111 : Int × Unit → Option (Bool × Unit)} {f112 : Device × Unit → Option (Bool × Unit)} {f60 : Int × Int × Int × Unit → Option (Bool × Unit)} {f63 : Place × Unit → Option (Bool × Unit)} (h110 : OK Proofs.Try.prog 110 (mkE p110 r110 false f110)) (h111 : OK Proofs.Try.prog 111 (mkE p111 r111 false f111)) (h112 : OK Proofs.Try.prog 112 (mkE p112 r112 false f112)) (h60 : OK Proofs.Try.prog 60 (mkE p60 r60 false f60)) (h63 : OK Proofs.Try.prog 63 (mkE p63 r63 false f63)) : OK Proofs.Try.prog 90 (mkE p90 r90 false (F90 f110 f111 f112 f60 f63)) :=
  fn_ok tab_ok (envL_ok (l := [(110, mkE p110 r110 false f110), (111, mkE p111 r111 false f111), (112, mkE p112 r112 false f112), (60, mkE p60 r60 false f60), (63, mkE p63 r63 false f63)]) (OKs.cons h110 (OKs.cons h111 (OKs.cons h112 (OKs.cons h60 (OKs.cons h63 OKs.nil)))))) mixed (ann := (fun _ => false)) (L := L90 f110 f111 f112 f60 f63) (fn := Proofs.Try.f90) (c := bodyC Proofs.Try.f90) (ls := []) Proofs.Try.func90 (by kernel_rfl) (by kernel_rfl) (by kernel_rfl) (by kernel_rfl)
    LoopsP.nil (e90 f110 f111 f112 f60 f63)
/-! spec.FindDevice -/
def p113 : List SP := [.one (.r .device), .one (.str)]
def r113 : List SP := [.one (.int .i64)]
def q113_0 : List SP := pat 20 0 [(1, .one (.str)), (7, .one (.r .device)), (8, .one (.int .i64)), (9, .one (.int .i64))]
noncomputable def s113_0 (t1 : Str × List Device × Int × Int × Unit) (rec K : Str × List Device × Int × Int × Unit → Option (Int × Unit)) : Option (Int × Unit) :=
  cond (decide (t1.2.2.2.1 < t1.2.2.1)) (rdL t1.2.1 t1.2.2.2.1 fun d2 => cond (decide (d2.Name = t1.1)) (some (t1.2.2.2.1, ())) (rec (t1.1, t1.2.1, t1.2.2.1, (w64 (t1.2.2.2.1 + 1)), ()))) (K (t1.1, t1.2.1, t1.2.2.1, t1.2.2.2.1, ()))
noncomputable def F113 (a : List Device × Str × Unit) : Option (Int × Unit) :=
  iterF (s113_0) fuel (a.2.1, a.1, (Int.ofNat (List.length a.1)), 0, ()) fun t3 => some ((-1), ())
def E113 : Env := envL []
noncomputable def L113 : LEnv (densS (muts p113 ++ r113)) := lenv [(0, loopL (R := densS (muts p113 ++ r113)) q113_0 (s113_0))]
theorem e113_0 (X : Nat → St → Option (densS (muts p113 ++ r113))) (rec K : densS q113_0 → Option (densS (muts p113 ++ r113))) (t : densS q113_0) :
    ev (E113) tab (fun _ => false) (L113) (retK tab p113 r113 Proofs.Try.f113.results.toList) (loopC Proofs.Try.f113 0) (fun i s => cond (Nat.beq i 0) (decK 100 q113_0 s K) (X i s)) (fun s => decK 100 q113_0 s rec) (enc q113_0 t) = s113_0 t rec K := by kernel_rfl
theorem e113 (a : densS p113) : runF (E113) tab (fun _ => false) p113 r113 Proofs.Try.f113 (L113) a = F113 a := by kernel_rfl
theorem ok113 : OK Proofs.Try.prog 113 (mkE p113 r113 false (F113)) :=
  fn_ok tab_ok (envL_ok (l := []) OKs.nil) mixed (ann := (fun _ => false)) (L := L113) (fn := Proofs.Try.f113) (c := bodyC Proofs.Try.f113) (ls := [(0, loopC Proofs.Try.f113 0)]) Proofs.Try.func113 (by kernel_rfl) (by kernel_rfl) (by kernel_rfl) (by kernel_rfl)
    (LoopsP.cons q113_0 (s113_0) rfl (e113_0) LoopsP.nil) (e113)
/-! spec.l6Hangs -/
def p91 : List SP := [.one (.r .device), .t .device]
def r91 : List SP := [.one (.bool)]
noncomputable def F91 (f113 : List Device × Str × Unit → Option (Int × Unit)) (a : List Device × Device × Unit) : Option (Bool × Unit) :=
  (f113 (a.1, a.2.1.Line, ())).bind fun x1 => cond (decide (a.2.1.Kind = 2)) (cond (decide (x1.1 ≥ 0)) (rdL a.1 x1.1 fun d2 => some ((decide (d2.Kind = 1)), ())) (some (false, ()))) (cond (decide (a.2.1.Kind = 3)) (cond (decide (x1.1 ≥ 0)) (rdL a.1 x1.1 fun d3 => some ((decide (d3.Kind = 2)), ())) (some (false, ()))) (some (true, ())))
def E91 (f113 : List Device × Str × Unit → Option (Int × Unit)) : Env := envL [(113, mkE p113 r113 false f113)]
noncomputable def L91 (f113 : List Device × Str × Unit → Option (Int × Unit)) : LEnv (densS (muts p91 ++ r91)) := lenv []
theorem e91 (f113 : List Device × Str × Unit → Option (Int × Unit)) (a : densS p91) : runF (E91 f113) tab (fun _ => false) p91 r91 Proofs.Try.f91 (L91 f113) a = F91 f113 a := by kernel_rfl
theorem ok91 {f113 : List Device × Str × Unit → Option (Int × Unit)} (h113 : OK Proofs.Try.prog 113 (mkE p113 r113 false f113)) : OK Proofs.Try.prog 91 (mkE p91 r91 false (F91 f113)) :=
  fn_ok tab_ok (envL_ok (l := [(113, mkE p113 r113 false f113)]) (OKs.cons h113 OKs.nil)) mixed (ann := (fun _ => false)) (L := L91 f113) (fn := Proofs.Try.f91) (c := bodyC Proofs.Try.f91) (ls := []) Proofs.Try.func91 (by kernel_rfl) (by kernel_rfl) (by kernel_rfl) (by kernel_rfl)
    LoopsP.nil (e91 f113)
/-! spec.IsRig -/
def p57 : List SP := [.one (.r .device)]
def r57 : List SP := [.one (.bool)]
def q57_0 : List SP := pat 40 0 [(0, .one (.r .device)), (5, .one (.r .device)), (6, .one (.int .i64)), (7, .one (.int .i64))]
noncomputable def s57_0 (f90 : Device × Unit → Option (Bool × Unit)) (f91 : List Device × Device × Unit → Option (Bool × Unit)) (t1 : List Device × List Device × Int × Int × Unit) (rec K : List Device × List Device × Int × Int × Unit → Option (Bool × Unit)) : Option (Bool × Unit) :=
  cond (decide (t1.2.2.2.1 < t1.2.2.1)) (rdL t1.2.1 t1.2.2.2.1 fun d2 => (f90 (d2, ())).bind fun x3 => cond (!(!x3.1)) (cond (decide (t1.2.2.2.1 > 0)) (rdL t1.1 (w64 (t1.2.2.2.1 - 1)) fun d4 => cond (!(!Op.bytesLess d4.Name d2.Name)) ((f91 (t1.1, d2, ())).bind fun x5 => cond (!x5.1) (some (false, ())) (rec (t1.1, t1.2.1, t1.2.2.1, (w64 (t1.2.2.2.1 + 1)), ()))) (some (false, ()))) ((f91 (t1.1, d2, ())).bind fun x6 => cond (!x6.1) (some (false, ())) (rec (t1.1, t1.2.1, t1.2.2.1, (w64 (t1.2.2.2.1 + 1)), ())))) (some (false, ()))) (K (t1.1, t1.2.1, t1.2.2.1, t1.2.2.2.1, ()))
noncomputable def F57 (f90 : Device × Unit → Option (Bool × Unit)) (f91 : List Device × Device × Unit → Option (Bool × Unit)) (a : List Device × Unit) : Option (Bool × Unit) :=
  iterF (s57_0 f90 f91) fuel (a.1, a.1, (Int.ofNat (List.length a.1)), 0, ()) fun t7 => some ((decide ((Int.ofNat (List.length t7.1)) ≤ 8)), ())
def E57 (f90 : Device × Unit → Option (Bool × Unit)) (f91 : List Device × Device × Unit → Option (Bool × Unit)) : Env := envL [(90, mkE p90 r90 false f90), (91, mkE p91 r91 false f91)]
noncomputable def L57 (f90 : Device × Unit → Option (Bool × Unit)) (f91 : List Device × Device × Unit → Option (Bool × Unit)) : LEnv (densS (muts p57 ++ r57)) := lenv [(0, loopL (R := densS (muts p57 ++ r57)) q57_0 (s57_0 f90 f91))]
theorem e57_0 (f90 : Device × Unit → Option (Bool × Unit)) (f91 : List Device × Device × Unit → Option (Bool × Unit)) (X : Nat → St → Option (densS (muts p57 ++ r57))) (rec K : densS q57_0 → Option (densS (muts p57 ++ r57))) (t : densS q57_0) :
    ev (E57 f90 f91) tab (fun _ => false) (L57 f90 f91) (retK tab p57 r57 Proofs.Try.f57.results.toList) (loopC Proofs.Try.f57 0) (fun i s => cond (Nat.beq i 0) (decK 100 q57_0 s K) (X i s)) (fun s => decK 100 q57_0 s rec) (enc q57_0 t) = s57_0 f90 f91 t rec K := by kernel_rfl
theorem e57 (f90 : Device × Unit → Option (Bool × Unit)) (f91 : List Device × Device × Unit → Option (Bool × Unit)) (a : densS p57) : runF (E57 f90 f91) tab (fun _ => false) p57 r57 Proofs.Try.f57 (L57 f90 f91) a = F57 f90 f91 a := by kernel_rfl
theorem ok57 {f90 : Device × Unit → Option (Bool × Unit)} {f91 : List Device × Device × Unit → Option (Bool × Unit)} (h90 : OK Proofs.Try.prog 90 (mkE p90 r90 false f90)) (h91 : OK Proofs.Try.prog 91 (mkE p91 r91 false f91)) : OK Proofs.Try.prog 57 (mkE p57 r57 false (F57 f90 f91)) :=
  fn_ok tab_ok (envL_ok (l := [(90, mkE p90 r90 false f90), (91, mkE p91 r91 false f91)]) (OKs.cons h90 (OKs.cons h91 OKs.nil))) mixed (ann := (fun _ => false)) (L := L57 f90 f91) (fn := Proofs.Try.f57) (c := bodyC Proofs.Try.f57) (ls := [(0, loopC Proofs.Try.f57 0)]) Proofs.Try.func57 (by kernel_rfl) (by kernel_rfl) (by kernel_rfl) (by kernel_rfl)
    (LoopsP.cons q57_0 (s57_0 f90 f91) rfl (e57_0 f90 f91) LoopsP.nil) (e57 f90 f91)
/-! spec.IsCue -/
def p92 : List SP := [.t .cue]
def r92 : List SP := [.one (.bool)]
noncomputable def F92 (f60 : Int × Int × Int × Unit → Option (Bool × Unit)) (f110 : Str × Unit → Option (Bool × Unit)) (a : Cue × Unit) : Option (Bool × Unit) :=
  (f60 (a.1.Tick, 0, 64, ())).bind fun x1 => cond x1.1 ((f110 (a.1.Name, ())).bind fun x2 => cond x2.1 ((f60 (a.1.Level, 0, 32, ())).bind fun x3 => cond x3.1 ((f60 (a.1.Ramp, 0, 16, ())).bind fun x4 => some (x4.1, ())) (some (false, ()))) (some (false, ()))) (some (false, ()))
def E92 (f60 : Int × Int × Int × Unit → Option (Bool × Unit)) (f110 : Str × Unit → Option (Bool × Unit)) : Env := envL [(60, mkE p60 r60 false f60), (110, mkE p110 r110 false f110)]
noncomputable def L92 (f60 : Int × Int × Int × Unit → Option (Bool × Unit)) (f110 : Str × Unit → Option (Bool × Unit)) : LEnv (densS (muts p92 ++ r92)) := lenv []
theorem e92 (f60 : Int × Int × Int × Unit → Option (Bool × Unit)) (f110 : Str × Unit → Option (Bool × Unit)) (a : densS p92) : runF (E92 f60 f110) tab (fun _ => false) p92 r92 Proofs.Try.f92 (L92 f60 f110) a = F92 f60 f110 a := by kernel_rfl
theorem ok92 {f60 : Int × Int × Int × Unit → Option (Bool × Unit)} {f110 : Str × Unit → Option (Bool × Unit)} (h60 : OK Proofs.Try.prog 60 (mkE p60 r60 false f60)) (h110 : OK Proofs.Try.prog 110 (mkE p110 r110 false f110)) : OK Proofs.Try.prog 92 (mkE p92 r92 false (F92 f60 f110)) :=
  fn_ok tab_ok (envL_ok (l := [(60, mkE p60 r60 false f60), (110, mkE p110 r110 false f110)]) (OKs.cons h60 (OKs.cons h110 OKs.nil))) mixed (ann := (fun _ => false)) (L := L92 f60 f110) (fn := Proofs.Try.f92) (c := bodyC Proofs.Try.f92) (ls := []) Proofs.Try.func92 (by kernel_rfl) (by kernel_rfl) (by kernel_rfl) (by kernel_rfl)
    LoopsP.nil (e92 f60 f110)
/-! spec.CompareCues -/
def p93 : List SP := [.t .cue, .t .cue]
def r93 : List SP := [.one (.int .i64)]
noncomputable def F93 (a : Cue × Cue × Unit) : Option (Int × Unit) :=
  cond (decide (a.1.Tick < a.2.1.Tick)) (cond (decide (a.1.Tick < a.2.1.Tick)) (some ((-1), ())) (cond (decide (a.1.Tick = a.2.1.Tick)) (cond (decide (a.1.Name = a.2.1.Name)) (some (0, ())) (some (1, ()))) (some (1, ())))) (cond (decide (a.1.Tick = a.2.1.Tick)) (cond (Op.bytesLess a.1.Name a.2.1.Name) (some ((-1), ())) (cond (decide (a.1.Tick = a.2.1.Tick)) (cond (decide (a.1.Name = a.2.1.Name)) (some (0, ())) (some (1, ()))) (some (1, ())))) (cond (decide (a.1.Tick = a.2.1.Tick)) (cond (decide (a.1.Name = a.2.1.Name)) (some (0, ())) (some (1, ()))) (some (1, ()))))
def E93 : Env := envL []
noncomputable def L93 : LEnv (densS (muts p93 ++ r93)) := lenv []
theorem e93 (a : densS p93) : runF (E93) tab (fun _ => false) p93 r93 Proofs.Try.f93 (L93) a = F93 a := by kernel_rfl
theorem ok93 : OK Proofs.Try.prog 93 (mkE p93 r93 false (F93)) :=
  fn_ok tab_ok (envL_ok (l := []) OKs.nil) mixed (ann := (fun _ => false)) (L := L93) (fn := Proofs.Try.f93) (c := bodyC Proofs.Try.f93) (ls := []) Proofs.Try.func93 (by kernel_rfl) (by kernel_rfl) (by kernel_rfl) (by kernel_rfl)
    LoopsP.nil (e93)
/-! spec.IsScore -/
def p58 : List SP := [.one (.r .cue)]
def r58 : List SP := [.one (.bool)]
def q58_0 : List SP := pat 33 0 [(0, .one (.r .cue)), (5, .one (.r .cue)), (6, .one (.int .i64)), (7, .one (.int .i64))]
noncomputable def s58_0 (f92 : Cue × Unit → Option (Bool × Unit)) (f93 : Cue × Cue × Unit → Option (Int × Unit)) (t1 : List Cue × List Cue × Int × Int × Unit) (rec K : List Cue × List Cue × Int × Int × Unit → Option (Bool × Unit)) : Option (Bool × Unit) :=
  cond (decide (t1.2.2.2.1 < t1.2.2.1)) (rdL t1.2.1 t1.2.2.2.1 fun d2 => (f92 (d2, ())).bind fun x3 => cond (!(!x3.1)) (cond (decide (t1.2.2.2.1 > 0)) (rdL t1.1 (w64 (t1.2.2.2.1 - 1)) fun d4 => (f93 (d4, d2, ())).bind fun x5 => cond (decide (x5.1 ≥ 0)) (some (false, ())) (rec (t1.1, t1.2.1, t1.2.2.1, (w64 (t1.2.2.2.1 + 1)), ()))) (rec (t1.1, t1.2.1, t1.2.2.1, (w64 (t1.2.2.2.1 + 1)), ()))) (some (false, ()))) (K (t1.1, t1.2.1, t1.2.2.1, t1.2.2.2.1, ()))
noncomputable def F58 (f92 : Cue × Unit → Option (Bool × Unit)) (f93 : Cue × Cue × Unit → Option (Int × Unit)) (a : List Cue × Unit) : Option (Bool × Unit) :=
  iterF (s58_0 f92 f93) fuel (a.1, a.1, (Int.ofNat (List.length a.1)), 0, ()) fun t6 => some ((decide ((Int.ofNat (List.length t6.1)) ≤ 12)), ())
def E58 (f92 : Cue × Unit → Option (Bool × Unit)) (f93 : Cue × Cue × Unit → Option (Int × Unit)) : Env := envL [(92, mkE p92 r92 false f92), (93, mkE p93 r93 false f93)]
noncomputable def L58 (f92 : Cue × Unit → Option (Bool × Unit)) (f93 : Cue × Cue × Unit → Option (Int × Unit)) : LEnv (densS (muts p58 ++ r58)) := lenv [(0, loopL (R := densS (muts p58 ++ r58)) q58_0 (s58_0 f92 f93))]
theorem e58_0 (f92 : Cue × Unit → Option (Bool × Unit)) (f93 : Cue × Cue × Unit → Option (Int × Unit)) (X : Nat → St → Option (densS (muts p58 ++ r58))) (rec K : densS q58_0 → Option (densS (muts p58 ++ r58))) (t : densS q58_0) :
    ev (E58 f92 f93) tab (fun _ => false) (L58 f92 f93) (retK tab p58 r58 Proofs.Try.f58.results.toList) (loopC Proofs.Try.f58 0) (fun i s => cond (Nat.beq i 0) (decK 100 q58_0 s K) (X i s)) (fun s => decK 100 q58_0 s rec) (enc q58_0 t) = s58_0 f92 f93 t rec K := by kernel_rfl
theorem e58 (f92 : Cue × Unit → Option (Bool × Unit)) (f93 : Cue × Cue × Unit → Option (Int × Unit)) (a : densS p58) : runF (E58 f92 f93) tab (fun _ => false) p58 r58 Proofs.Try.f58 (L58 f92 f93) a = F58 f92 f93 a := by kernel_rfl
theorem ok58 {f92 : Cue × Unit → Option (Bool × Unit)} {f93 : Cue × Cue × Unit → Option (Int × Unit)} (h92 : OK Proofs.Try.prog 92 (mkE p92 r92 false f92)) (h93 : OK Proofs.Try.prog 93 (mkE p93 r93 false f93)) : OK Proofs.Try.prog 58 (mkE p58 r58 false (F58 f92 f93)) :=
  fn_ok tab_ok (envL_ok (l := [(92, mkE p92 r92 false f92), (93, mkE p93 r93 false f93)]) (OKs.cons h92 (OKs.cons h93 OKs.nil))) mixed (ann := (fun _ => false)) (L := L58 f92 f93) (fn := Proofs.Try.f58) (c := bodyC Proofs.Try.f58) (ls := [(0, loopC Proofs.Try.f58 0)]) Proofs.Try.func58 (by kernel_rfl) (by kernel_rfl) (by kernel_rfl) (by kernel_rfl)
    (LoopsP.cons q58_0 (s58_0 f92 f93) rfl (e58_0 f92 f93) LoopsP.nil) (e58 f92 f93)
/-! spec.l4Drift -/
def p61 : List SP := [.t .place]
def r61 : List SP := [.one (.bool)]
noncomputable def F61 (f60 : Int × Int × Int × Unit → Option (Bool × Unit)) (a : Place × Unit) : Option (Bool × Unit) :=
  (f60 (a.1.X, (-8), 8, ())).bind fun x1 => cond x1.1 ((f60 (a.1.Y, (-8), 8, ())).bind fun x2 => some (x2.1, ())) (some (false, ()))
def E61 (f60 : Int × Int × Int × Unit → Option (Bool × Unit)) : Env := envL [(60, mkE p60 r60 false f60)]
noncomputable def L61 (f60 : Int × Int × Int × Unit → Option (Bool × Unit)) : LEnv (densS (muts p61 ++ r61)) := lenv []
theorem e61 (f60 : Int × Int × Int × Unit → Option (Bool × Unit)) (a : densS p61) : runF (E61 f60) tab (fun _ => false) p61 r61 Proofs.Try.f61 (L61 f60) a = F61 f60 a := by kernel_rfl
theorem ok61 {f60 : Int × Int × Int × Unit → Option (Bool × Unit)} (h60 : OK Proofs.Try.prog 60 (mkE p60 r60 false f60)) : OK Proofs.Try.prog 61 (mkE p61 r61 false (F61 f60)) :=
  fn_ok tab_ok (envL_ok (l := [(60, mkE p60 r60 false f60)]) (OKs.cons h60 OKs.nil)) mixed (ann := (fun _ => false)) (L := L61 f60) (fn := Proofs.Try.f61) (c := bodyC Proofs.Try.f61) (ls := []) Proofs.Try.func61 (by kernel_rfl) (by kernel_rfl) (by kernel_rfl) (by kernel_rfl)
    LoopsP.nil (e61 f60)
/-! spec.IsWind -/
def p59 : List SP := [.one (.r .gust)]
def r59 : List SP := [.one (.bool)]
def q59_0 : List SP := pat 41 0 [(0, .one (.r .gust)), (5, .one (.r .gust)), (6, .one (.int .i64)), (7, .one (.int .i64))]
noncomputable def s59_0 (f60 : Int × Int × Int × Unit → Option (Bool × Unit)) (f61 : Place × Unit → Option (Bool × Unit)) (t1 : List Gust × List Gust × Int × Int × Unit) (rec K : List Gust × List Gust × Int × Int × Unit → Option (Bool × Unit)) : Option (Bool × Unit) :=
  cond (decide (t1.2.2.2.1 < t1.2.2.1)) (rdL t1.2.1 t1.2.2.2.1 fun d2 => (f60 (d2.From, 0, 64, ())).bind fun x3 => cond (!(!x3.1)) ((f61 (d2.Drift, ())).bind fun x4 => cond (!(!x4.1)) (cond (decide (t1.2.2.2.1 > 0)) (rdL t1.1 (w64 (t1.2.2.2.1 - 1)) fun d5 => cond (decide (d5.From ≥ d2.From)) (some (false, ())) (rec (t1.1, t1.2.1, t1.2.2.1, (w64 (t1.2.2.2.1 + 1)), ()))) (rec (t1.1, t1.2.1, t1.2.2.1, (w64 (t1.2.2.2.1 + 1)), ()))) (some (false, ()))) (some (false, ()))) (K (t1.1, t1.2.1, t1.2.2.1, t1.2.2.2.1, ()))
noncomputable def F59 (f60 : Int × Int × Int × Unit → Option (Bool × Unit)) (f61 : Place × Unit → Option (Bool × Unit)) (a : List Gust × Unit) : Option (Bool × Unit) :=
  iterF (s59_0 f60 f61) fuel (a.1, a.1, (Int.ofNat (List.length a.1)), 0, ()) fun t6 => some ((decide ((Int.ofNat (List.length t6.1)) ≤ 8)), ())
def E59 (f60 : Int × Int × Int × Unit → Option (Bool × Unit)) (f61 : Place × Unit → Option (Bool × Unit)) : Env := envL [(60, mkE p60 r60 false f60), (61, mkE p61 r61 false f61)]
noncomputable def L59 (f60 : Int × Int × Int × Unit → Option (Bool × Unit)) (f61 : Place × Unit → Option (Bool × Unit)) : LEnv (densS (muts p59 ++ r59)) := lenv [(0, loopL (R := densS (muts p59 ++ r59)) q59_0 (s59_0 f60 f61))]
theorem e59_0 (f60 : Int × Int × Int × Unit → Option (Bool × Unit)) (f61 : Place × Unit → Option (Bool × Unit)) (X : Nat → St → Option (densS (muts p59 ++ r59))) (rec K : densS q59_0 → Option (densS (muts p59 ++ r59))) (t : densS q59_0) :
    ev (E59 f60 f61) tab (fun _ => false) (L59 f60 f61) (retK tab p59 r59 Proofs.Try.f59.results.toList) (loopC Proofs.Try.f59 0) (fun i s => cond (Nat.beq i 0) (decK 100 q59_0 s K) (X i s)) (fun s => decK 100 q59_0 s rec) (enc q59_0 t) = s59_0 f60 f61 t rec K := by kernel_rfl
theorem e59 (f60 : Int × Int × Int × Unit → Option (Bool × Unit)) (f61 : Place × Unit → Option (Bool × Unit)) (a : densS p59) : runF (E59 f60 f61) tab (fun _ => false) p59 r59 Proofs.Try.f59 (L59 f60 f61) a = F59 f60 f61 a := by kernel_rfl
theorem ok59 {f60 : Int × Int × Int × Unit → Option (Bool × Unit)} {f61 : Place × Unit → Option (Bool × Unit)} (h60 : OK Proofs.Try.prog 60 (mkE p60 r60 false f60)) (h61 : OK Proofs.Try.prog 61 (mkE p61 r61 false f61)) : OK Proofs.Try.prog 59 (mkE p59 r59 false (F59 f60 f61)) :=
  fn_ok tab_ok (envL_ok (l := [(60, mkE p60 r60 false f60), (61, mkE p61 r61 false f61)]) (OKs.cons h60 (OKs.cons h61 OKs.nil))) mixed (ann := (fun _ => false)) (L := L59 f60 f61) (fn := Proofs.Try.f59) (c := bodyC Proofs.Try.f59) (ls := [(0, loopC Proofs.Try.f59 0)]) Proofs.Try.func59 (by kernel_rfl) (by kernel_rfl) (by kernel_rfl) (by kernel_rfl)
    (LoopsP.cons q59_0 (s59_0 f60 f61) rfl (e59_0 f60 f61) LoopsP.nil) (e59 f60 f61)
/-! spec.IsShow -/
def p22 : List SP := [.agg [.r .device, .r .cue, .r .gust, .int .i64]]
def r22 : List SP := [.one (.bool)]
noncomputable def F22 (f57 : List Device × Unit → Option (Bool × Unit)) (f58 : List Cue × Unit → Option (Bool × Unit)) (f59 : List Gust × Unit → Option (Bool × Unit)) (f60 : Int × Int × Int × Unit → Option (Bool × Unit)) (a : (List Device × List Cue × List Gust × Int × Unit) × Unit) : Option (Bool × Unit) :=
  (f57 (a.1.1, ())).bind fun x1 => cond x1.1 ((f58 (a.1.2.1, ())).bind fun x2 => cond x2.1 ((f59 (a.1.2.2.1, ())).bind fun x3 => cond x3.1 ((f60 (a.1.2.2.2.1, 0, 64, ())).bind fun x4 => some (x4.1, ())) (some (false, ()))) (some (false, ()))) (some (false, ()))
def E22 (f57 : List Device × Unit → Option (Bool × Unit)) (f58 : List Cue × Unit → Option (Bool × Unit)) (f59 : List Gust × Unit → Option (Bool × Unit)) (f60 : Int × Int × Int × Unit → Option (Bool × Unit)) : Env := envL [(57, mkE p57 r57 false f57), (58, mkE p58 r58 false f58), (59, mkE p59 r59 false f59), (60, mkE p60 r60 false f60)]
noncomputable def L22 (f57 : List Device × Unit → Option (Bool × Unit)) (f58 : List Cue × Unit → Option (Bool × Unit)) (f59 : List Gust × Unit → Option (Bool × Unit)) (f60 : Int × Int × Int × Unit → Option (Bool × Unit)) : LEnv (densS (muts p22 ++ r22)) := lenv []
theorem e22 (f57 : List Device × Unit → Option (Bool × Unit)) (f58 : List Cue × Unit → Option (Bool × Unit)) (f59 : List Gust × Unit → Option (Bool × Unit)) (f60 : Int × Int × Int × Unit → Option (Bool × Unit)) (a : densS p22) : runF (E22 f57 f58 f59 f60) tab (fun _ => false) p22 r22 Proofs.Try.f22 (L22 f57 f58 f59 f60) a = F22 f57 f58 f59 f60 a := by kernel_rfl
theorem ok22 {f57 : List Device × Unit → Option (Bool × Unit)} {f58 : List Cue × Unit → Option (Bool × Unit)} {f59 : List Gust × Unit → Option (Bool × Unit)} {f60 : Int × Int × Int × Unit → Option (Bool × Unit)} (h57 : OK Proofs.Try.prog 57 (mkE p57 r57 false f57)) (h58 : OK Proofs.Try.prog 58 (mkE p58 r58 false f58)) (h59 : OK Proofs.Try.prog 59 (mkE p59 r59 false f59)) (h60 : OK Proofs.Try.prog 60 (mkE p60 r60 false f60)) : OK Proofs.Try.prog 22 (mkE p22 r22 false (F22 f57 f58 f59 f60)) :=
  fn_ok tab_ok (envL_ok (l := [(57, mkE p57 r57 false f57), (58, mkE p58 r58 false f58), (59, mkE p59 r59 false f59), (60, mkE p60 r60 false f60)]) (OKs.cons h57 (OKs.cons h58 (OKs.cons h59 (OKs.cons h60 OKs.nil))))) mixed (ann := (fun _ => false)) (L := L22 f57 f58 f59 f60) (fn := Proofs.Try.f22) (c := bodyC Proofs.Try.f22) (ls := []) Proofs.Try.func22 (by kernel_rfl) (by kernel_rfl) (by kernel_rfl) (by kernel_rfl)
    LoopsP.nil (e22 f57 f58 f59 f60)
/-! spec.ComparePlaces -/
def p62 : List SP := [.t .place, .t .place]
def r62 : List SP := [.one (.int .i64)]
noncomputable def F62 (a : Place × Place × Unit) : Option (Int × Unit) :=
  cond (decide (a.1.X < a.2.1.X)) (cond (decide (a.1.X < a.2.1.X)) (some ((-1), ())) (cond (decide (a.1.X = a.2.1.X) && (decide (a.1.Y = a.2.1.Y) && true)) (some (0, ())) (some (1, ())))) (cond (decide (a.1.X = a.2.1.X)) (cond (decide (a.1.Y < a.2.1.Y)) (some ((-1), ())) (cond (decide (a.1.X = a.2.1.X) && (decide (a.1.Y = a.2.1.Y) && true)) (some (0, ())) (some (1, ())))) (cond (decide (a.1.X = a.2.1.X) && (decide (a.1.Y = a.2.1.Y) && true)) (some (0, ())) (some (1, ()))))
def E62 : Env := envL []
noncomputable def L62 : LEnv (densS (muts p62 ++ r62)) := lenv []
theorem e62 (a : densS p62) : runF (E62) tab (fun _ => false) p62 r62 Proofs.Try.f62 (L62) a = F62 a := by kernel_rfl
theorem ok62 : OK Proofs.Try.prog 62 (mkE p62 r62 false (F62)) :=
  fn_ok tab_ok (envL_ok (l := []) OKs.nil) mixed (ann := (fun _ => false)) (L := L62) (fn := Proofs.Try.f62) (c := bodyC Proofs.Try.f62) (ls := []) Proofs.Try.func62 (by kernel_rfl) (by kernel_rfl) (by kernel_rfl) (by kernel_rfl)
    LoopsP.nil (e62)
/-! spec.IsRose -/
def p23 : List SP := [.one (.r .place)]
def r23 : List SP := [.one (.bool)]
def q23_0 : List SP := pat 38 0 [(0, .one (.r .place)), (5, .one (.r .place)), (6, .one (.int .i64)), (7, .one (.int .i64))]
noncomputable def s23_0 (f61 : Place × Unit → Option (Bool × Unit)) (f62 : Place × Place × Unit → Option (Int × Unit)) (t1 : List Place × List Place × Int × Int × Unit) (rec K : List Place × List Place × Int × Int × Unit → Option (Bool × Unit)) : Option (Bool × Unit) :=
  cond (decide (t1.2.2.2.1 < t1.2.2.1)) (rdL t1.2.1 t1.2.2.2.1 fun d2 => (f61 (d2, ())).bind fun x3 => cond (!(!x3.1)) (cond (decide (t1.2.2.2.1 > 0)) (rdL t1.1 (w64 (t1.2.2.2.1 - 1)) fun d4 => (f62 (d4, d2, ())).bind fun x5 => cond (decide (x5.1 ≥ 0)) (some (false, ())) (rec (t1.1, t1.2.1, t1.2.2.1, (w64 (t1.2.2.2.1 + 1)), ()))) (rec (t1.1, t1.2.1, t1.2.2.1, (w64 (t1.2.2.2.1 + 1)), ()))) (some (false, ()))) (K (t1.1, t1.2.1, t1.2.2.1, t1.2.2.2.1, ()))
noncomputable def F23 (f61 : Place × Unit → Option (Bool × Unit)) (f62 : Place × Place × Unit → Option (Int × Unit)) (a : List Place × Unit) : Option (Bool × Unit) :=
  iterF (s23_0 f61 f62) fuel (a.1, a.1, (Int.ofNat (List.length a.1)), 0, ()) fun t6 => cond (decide ((Int.ofNat (List.length t6.1)) ≥ 1)) (some ((decide ((Int.ofNat (List.length t6.1)) ≤ 4)), ())) (some (false, ()))
def E23 (f61 : Place × Unit → Option (Bool × Unit)) (f62 : Place × Place × Unit → Option (Int × Unit)) : Env := envL [(61, mkE p61 r61 false f61), (62, mkE p62 r62 false f62)]
noncomputable def L23 (f61 : Place × Unit → Option (Bool × Unit)) (f62 : Place × Place × Unit → Option (Int × Unit)) : LEnv (densS (muts p23 ++ r23)) := lenv [(0, loopL (R := densS (muts p23 ++ r23)) q23_0 (s23_0 f61 f62))]
theorem e23_0 (f61 : Place × Unit → Option (Bool × Unit)) (f62 : Place × Place × Unit → Option (Int × Unit)) (X : Nat → St → Option (densS (muts p23 ++ r23))) (rec K : densS q23_0 → Option (densS (muts p23 ++ r23))) (t : densS q23_0) :
    ev (E23 f61 f62) tab (fun _ => false) (L23 f61 f62) (retK tab p23 r23 Proofs.Try.f23.results.toList) (loopC Proofs.Try.f23 0) (fun i s => cond (Nat.beq i 0) (decK 100 q23_0 s K) (X i s)) (fun s => decK 100 q23_0 s rec) (enc q23_0 t) = s23_0 f61 f62 t rec K := by kernel_rfl
theorem e23 (f61 : Place × Unit → Option (Bool × Unit)) (f62 : Place × Place × Unit → Option (Int × Unit)) (a : densS p23) : runF (E23 f61 f62) tab (fun _ => false) p23 r23 Proofs.Try.f23 (L23 f61 f62) a = F23 f61 f62 a := by kernel_rfl
theorem ok23 {f61 : Place × Unit → Option (Bool × Unit)} {f62 : Place × Place × Unit → Option (Int × Unit)} (h61 : OK Proofs.Try.prog 61 (mkE p61 r61 false f61)) (h62 : OK Proofs.Try.prog 62 (mkE p62 r62 false f62)) : OK Proofs.Try.prog 23 (mkE p23 r23 false (F23 f61 f62)) :=
  fn_ok tab_ok (envL_ok (l := [(61, mkE p61 r61 false f61), (62, mkE p62 r62 false f62)]) (OKs.cons h61 (OKs.cons h62 OKs.nil))) mixed (ann := (fun _ => false)) (L := L23 f61 f62) (fn := Proofs.Try.f23) (c := bodyC Proofs.Try.f23) (ls := [(0, loopC Proofs.Try.f23 0)]) Proofs.Try.func23 (by kernel_rfl) (by kernel_rfl) (by kernel_rfl) (by kernel_rfl)
    (LoopsP.cons q23_0 (s23_0 f61 f62) rfl (e23_0 f61 f62) LoopsP.nil) (e23 f61 f62)
/-! spec.IsBox -/
def p24 : List SP := [.t .box]
def r24 : List SP := [.one (.bool)]
noncomputable def F24 (f63 : Place × Unit → Option (Bool × Unit)) (a : Box × Unit) : Option (Bool × Unit) :=
  (f63 (a.1.Low, ())).bind fun x1 => cond x1.1 ((f63 (a.1.High, ())).bind fun x2 => cond x2.1 (cond (decide (a.1.Low.X ≤ a.1.High.X)) (some ((decide (a.1.Low.Y ≤ a.1.High.Y)), ())) (some (false, ()))) (some (false, ()))) (some (false, ()))
def E24 (f63 : Place × Unit → Option (Bool × Unit)) : Env := envL [(63, mkE p63 r63 false f63)]
noncomputable def L24 (f63 : Place × Unit → Option (Bool × Unit)) : LEnv (densS (muts p24 ++ r24)) := lenv []
theorem e24 (f63 : Place × Unit → Option (Bool × Unit)) (a : densS p24) : runF (E24 f63) tab (fun _ => false) p24 r24 Proofs.Try.f24 (L24 f63) a = F24 f63 a := by kernel_rfl
theorem ok24 {f63 : Place × Unit → Option (Bool × Unit)} (h63 : OK Proofs.Try.prog 63 (mkE p63 r63 false f63)) : OK Proofs.Try.prog 24 (mkE p24 r24 false (F24 f63)) :=
  fn_ok tab_ok (envL_ok (l := [(63, mkE p63 r63 false f63)]) (OKs.cons h63 OKs.nil)) mixed (ann := (fun _ => false)) (L := L24 f63) (fn := Proofs.Try.f24) (c := bodyC Proofs.Try.f24) (ls := []) Proofs.Try.func24 (by kernel_rfl) (by kernel_rfl) (by kernel_rfl) (by kernel_rfl)
    LoopsP.nil (e24 f63)
/-! spec.IsDesk -/
def p7 : List SP := [.agg [.r .device, .r .cue, .r .gust, .int .i64, .r .place, .int .i64, .int .i64, .int .i64, .int .i64]]
def r7 : List SP := [.one (.bool)]
noncomputable def F7 (f22 : (List Device × List Cue × List Gust × Int × Unit) × Unit → Option (Bool × Unit)) (f23 : List Place × Unit → Option (Bool × Unit)) (f24 : Box × Unit → Option (Bool × Unit)) (a : (List Device × List Cue × List Gust × Int × List Place × Int × Int × Int × Int × Unit) × Unit) : Option (Bool × Unit) :=
  (f22 ((a.1.1, a.1.2.1, a.1.2.2.1, a.1.2.2.2.1, ()), ())).bind fun x1 => cond x1.1 ((f23 (a.1.2.2.2.2.1, ())).bind fun x2 => cond x2.1 ((f24 ((⟨⟨a.1.2.2.2.2.2.1, a.1.2.2.2.2.2.2.1⟩, ⟨a.1.2.2.2.2.2.2.2.1, a.1.2.2.2.2.2.2.2.2.1⟩⟩ : Box), ())).bind fun x3 => some (x3.1, ())) (some (false, ()))) (some (false, ()))
def E7 (f22 : (List Device × List Cue × List Gust × Int × Unit) × Unit → Option (Bool × Unit)) (f23 : List Place × Unit → Option (Bool × Unit)) (f24 : Box × Unit → Option (Bool × Unit)) : Env := envL [(22, mkE p22 r22 false f22), (23, mkE p23 r23 false f23), (24, mkE p24 r24 false f24)]
noncomputable def L7 (f22 : (List Device × List Cue × List Gust × Int × Unit) × Unit → Option (Bool × Unit)) (f23 : List Place × Unit → Option (Bool × Unit)) (f24 : Box × Unit → Option (Bool × Unit)) : LEnv (densS (muts p7 ++ r7)) := lenv []
theorem e7 (f22 : (List Device × List Cue × List Gust × Int × Unit) × Unit → Option (Bool × Unit)) (f23 : List Place × Unit → Option (Bool × Unit)) (f24 : Box × Unit → Option (Bool × Unit)) (a : densS p7) : runF (E7 f22 f23 f24) tab (fun _ => false) p7 r7 Proofs.Try.f7 (L7 f22 f23 f24) a = F7 f22 f23 f24 a := by kernel_rfl
theorem ok7 {f22 : (List Device × List Cue × List Gust × Int × Unit) × Unit → Option (Bool × Unit)} {f23 : List Place × Unit → Option (Bool × Unit)} {f24 : Box × Unit → Option (Bool × Unit)} (h22 : OK Proofs.Try.prog 22 (mkE p22 r22 false f22)) (h23 : OK Proofs.Try.prog 23 (mkE p23 r23 false f23)) (h24 : OK Proofs.Try.prog 24 (mkE p24 r24 false f24)) : OK Proofs.Try.prog 7 (mkE p7 r7 false (F7 f22 f23 f24)) :=
  fn_ok tab_ok (envL_ok (l := [(22, mkE p22 r22 false f22), (23, mkE p23 r23 false f23), (24, mkE p24 r24 false f24)]) (OKs.cons h22 (OKs.cons h23 (OKs.cons h24 OKs.nil)))) mixed (ann := (fun _ => false)) (L := L7 f22 f23 f24) (fn := Proofs.Try.f7) (c := bodyC Proofs.Try.f7) (ls := []) Proofs.Try.func7 (by kernel_rfl) (by kernel_rfl) (by kernel_rfl) (by kernel_rfl)
    LoopsP.nil (e7 f22 f23 f24)
/-! impl.isWithin -/
def p67 : List SP := [.one (.int .i64), .one (.int .i64), .one (.int .i64)]
def r67 : List SP := [.one (.bool)]
noncomputable def F67 (a : Int × Int × Int × Unit) : Option (Bool × Unit) :=
  cond (decide (a.2.1 ≤ a.1)) (some ((decide (a.1 ≤ a.2.2.1)), ())) (some (false, ()))
def E67 : Env := envL []
noncomputable def L67 : LEnv (densS (muts p67 ++ r67)) := lenv []
theorem e67 (a : densS p67) : runF (E67) tab (fun _ => false) p67 r67 Proofs.Try.f67 (L67) a = F67 a := by kernel_rfl
theorem ok67 : OK Proofs.Try.prog 67 (mkE p67 r67 false (F67)) :=
  fn_ok tab_ok (envL_ok (l := []) OKs.nil) mixed (ann := (fun _ => false)) (L := L67) (fn := Proofs.Try.f67) (c := bodyC Proofs.Try.f67) (ls := []) Proofs.Try.func67 (by kernel_rfl) (by kernel_rfl) (by kernel_rfl) (by kernel_rfl)
    LoopsP.nil (e67)
/-! impl.IsName -/
def p104 : List SP := [.one (.str)]
def r104 : List SP := [.one (.bool)]
def q104_0 : List SP := pat 42 0 [(0, .one (.str)), (6, .one (.int .i64)), (7, .one (.int .i64))]
noncomputable def s104_0 (f67 : Int × Int × Int × Unit → Option (Bool × Unit)) (t1 : Str × Int × Int × Unit) (rec K : Str × Int × Int × Unit → Option (Bool × Unit)) : Option (Bool × Unit) :=
  cond (decide (t1.2.2.1 < t1.2.1)) (rdL t1.1 t1.2.2.1 fun d2 => cond (decide ((Int.ofNat (UInt8.toNat d2)) ≥ 97)) (rdL t1.1 t1.2.2.1 fun d3 => cond (!(decide ((Int.ofNat (UInt8.toNat d3)) ≤ 122))) (cond (!(decide (t1.2.2.1 = 0))) (rdL t1.1 t1.2.2.1 fun d4 => cond (!(decide ((Int.ofNat (UInt8.toNat d4)) < 48))) (rdL t1.1 t1.2.2.1 fun d5 => cond (decide ((Int.ofNat (UInt8.toNat d5)) > 57)) (some (false, ())) (rec (t1.1, t1.2.1, (w64 (t1.2.2.1 + 1)), ()))) (some (false, ()))) (some (false, ()))) (rec (t1.1, t1.2.1, (w64 (t1.2.2.1 + 1)), ()))) (cond (!(decide (t1.2.2.1 = 0))) (rdL t1.1 t1.2.2.1 fun d6 => cond (!(decide ((Int.ofNat (UInt8.toNat d6)) < 48))) (rdL t1.1 t1.2.2.1 fun d7 => cond (decide ((Int.ofNat (UInt8.toNat d7)) > 57)) (some (false, ())) (rec (t1.1, t1.2.1, (w64 (t1.2.2.1 + 1)), ()))) (some (false, ()))) (some (false, ())))) (K (t1.1, t1.2.1, t1.2.2.1, ()))
noncomputable def F104 (f67 : Int × Int × Int × Unit → Option (Bool × Unit)) (a : Str × Unit) : Option (Bool × Unit) :=
  iterF (s104_0 f67) fuel (a.1, (Int.ofNat (List.length a.1)), 0, ()) fun t8 => (f67 ((Int.ofNat (List.length t8.1)), 1, 8, ())).bind fun x9 => some (x9.1, ())
def E104 (f67 : Int × Int × Int × Unit → Option (Bool × Unit)) : Env := envL [(67, mkE p67 r67 false f67)]
noncomputable def L104 (f67 : Int × Int × Int × Unit → Option (Bool × Unit)) : LEnv (densS (muts p104 ++ r104)) := lenv [(0, loopL (R := densS (muts p104 ++ r104)) q104_0 (s104_0 f67))]
theorem e104_0 (f67 : Int × Int × Int × Unit → Option (Bool × Unit)) (X : Nat → St → Option (densS (muts p104 ++ r104))) (rec K : densS q104_0 → Option (densS (muts p104 ++ r104))) (t : densS q104_0) :
    ev (E104 f67) tab (fun _ => false) (L104 f67) (retK tab p104 r104 Proofs.Try.f104.results.toList) (loopC Proofs.Try.f104 0) (fun i s => cond (Nat.beq i 0) (decK 100 q104_0 s K) (X i s)) (fun s => decK 100 q104_0 s rec) (enc q104_0 t) = s104_0 f67 t rec K := by kernel_rfl
theorem e104 (f67 : Int × Int × Int × Unit → Option (Bool × Unit)) (a : densS p104) : runF (E104 f67) tab (fun _ => false) p104 r104 Proofs.Try.f104 (L104 f67) a = F104 f67 a := by kernel_rfl
theorem ok104 {f67 : Int × Int × Int × Unit → Option (Bool × Unit)} (h67 : OK Proofs.Try.prog 67 (mkE p67 r67 false f67)) : OK Proofs.Try.prog 104 (mkE p104 r104 false (F104 f67)) :=
  fn_ok tab_ok (envL_ok (l := [(67, mkE p67 r67 false f67)]) (OKs.cons h67 OKs.nil)) mixed (ann := (fun _ => false)) (L := L104 f67) (fn := Proofs.Try.f104) (c := bodyC Proofs.Try.f104) (ls := [(0, loopC Proofs.Try.f104 0)]) Proofs.Try.func104 (by kernel_rfl) (by kernel_rfl) (by kernel_rfl) (by kernel_rfl)
    (LoopsP.cons q104_0 (s104_0 f67) rfl (e104_0 f67) LoopsP.nil) (e104 f67)
/-! impl.isSupply -/
def p105 : List SP := [.one (.int .i64)]
def r105 : List SP := [.one (.bool)]
noncomputable def F105 (f67 : Int × Int × Int × Unit → Option (Bool × Unit)) (a : Int × Unit) : Option (Bool × Unit) :=
  (f67 (a.1, 0, 512, ())).bind fun x1 => some (x1.1, ())
def E105 (f67 : Int × Int × Int × Unit → Option (Bool × Unit)) : Env := envL [(67, mkE p67 r67 false f67)]
noncomputable def L105 (f67 : Int × Int × Int × Unit → Option (Bool × Unit)) : LEnv (densS (muts p105 ++ r105)) := lenv []
theorem e105 (f67 : Int × Int × Int × Unit → Option (Bool × Unit)) (a : densS p105) : runF (E105 f67) tab (fun _ => false) p105 r105 Proofs.Try.f105 (L105 f67) a = F105 f67 a := by kernel_rfl
theorem ok105 {f67 : Int × Int × Int × Unit → Option (Bool × Unit)} (h67 : OK Proofs.Try.prog 67 (mkE p67 r67 false f67)) : OK Proofs.Try.prog 105 (mkE p105 r105 false (F105 f67)) :=
  fn_ok tab_ok (envL_ok (l := [(67, mkE p67 r67 false f67)]) (OKs.cons h67 OKs.nil)) mixed (ann := (fun _ => false)) (L := L105 f67) (fn := Proofs.Try.f105) (c := bodyC Proofs.Try.f105) (ls := []) Proofs.Try.func105 (by kernel_rfl) (by kernel_rfl) (by kernel_rfl) (by kernel_rfl)
    LoopsP.nil (e105 f67)
/-! impl.IsHeading -/
def p109 : List SP := [.one (.int .i64)]
def r109 : List SP := [.one (.bool)]
noncomputable def F109 (f67 : Int × Int × Int × Unit → Option (Bool × Unit)) (a : Int × Unit) : Option (Bool × Unit) :=
  (f67 (a.1, 0, 3, ())).bind fun x1 => some (x1.1, ())
def E109 (f67 : Int × Int × Int × Unit → Option (Bool × Unit)) : Env := envL [(67, mkE p67 r67 false f67)]
noncomputable def L109 (f67 : Int × Int × Int × Unit → Option (Bool × Unit)) : LEnv (densS (muts p109 ++ r109)) := lenv []
theorem e109 (f67 : Int × Int × Int × Unit → Option (Bool × Unit)) (a : densS p109) : runF (E109 f67) tab (fun _ => false) p109 r109 Proofs.Try.f109 (L109 f67) a = F109 f67 a := by kernel_rfl
theorem ok109 {f67 : Int × Int × Int × Unit → Option (Bool × Unit)} (h67 : OK Proofs.Try.prog 67 (mkE p67 r67 false f67)) : OK Proofs.Try.prog 109 (mkE p109 r109 false (F109 f67)) :=
  fn_ok tab_ok (envL_ok (l := [(67, mkE p67 r67 false f67)]) (OKs.cons h67 OKs.nil)) mixed (ann := (fun _ => false)) (L := L109 f67) (fn := Proofs.Try.f109) (c := bodyC Proofs.Try.f109) (ls := []) Proofs.Try.func109 (by kernel_rfl) (by kernel_rfl) (by kernel_rfl) (by kernel_rfl)
    LoopsP.nil (e109 f67)
/-! impl.IsJet -/
def p106 : List SP := [.t .jet]
def r106 : List SP := [.one (.bool)]
noncomputable def F106 (f67 : Int × Int × Int × Unit → Option (Bool × Unit)) (f109 : Int × Unit → Option (Bool × Unit)) (a : Jet × Unit) : Option (Bool × Unit) :=
  (f67 (a.1.At.X, (-1024), 1024, ())).bind fun x1 => cond x1.1 ((f67 (a.1.At.Y, (-1024), 1024, ())).bind fun x2 => cond x2.1 ((f109 (a.1.Heading, ())).bind fun x3 => cond x3.1 ((f67 (a.1.Tilt, 0, 16, ())).bind fun x4 => cond x4.1 ((f67 (a.1.Lift, 1, 32, ())).bind fun x5 => some (x5.1, ())) (some (false, ()))) (some (false, ()))) (some (false, ()))) (some (false, ()))
def E106 (f67 : Int × Int × Int × Unit → Option (Bool × Unit)) (f109 : Int × Unit → Option (Bool × Unit)) : Env := envL [(67, mkE p67 r67 false f67), (109, mkE p109 r109 false f109)]
noncomputable def L106 (f67 : Int × Int × Int × Unit → Option (Bool × Unit)) (f109 : Int × Unit → Option (Bool × Unit)) : LEnv (densS (muts p106 ++ r106)) := lenv []
theorem e106 (f67 : Int × Int × Int × Unit → Option (Bool × Unit)) (f109 : Int × Unit → Option (Bool × Unit)) (a : densS p106) : runF (E106 f67 f109) tab (fun _ => false) p106 r106 Proofs.Try.f106 (L106 f67 f109) a = F106 f67 f109 a := by kernel_rfl
theorem ok106 {f67 : Int × Int × Int × Unit → Option (Bool × Unit)} {f109 : Int × Unit → Option (Bool × Unit)} (h67 : OK Proofs.Try.prog 67 (mkE p67 r67 false f67)) (h109 : OK Proofs.Try.prog 109 (mkE p109 r109 false f109)) : OK Proofs.Try.prog 106 (mkE p106 r106 false (F106 f67 f109)) :=
  fn_ok tab_ok (envL_ok (l := [(67, mkE p67 r67 false f67), (109, mkE p109 r109 false f109)]) (OKs.cons h67 (OKs.cons h109 OKs.nil))) mixed (ann := (fun _ => false)) (L := L106 f67 f109) (fn := Proofs.Try.f106) (c := bodyC Proofs.Try.f106) (ls := []) Proofs.Try.func106 (by kernel_rfl) (by kernel_rfl) (by kernel_rfl) (by kernel_rfl)
    LoopsP.nil (e106 f67 f109)
/-! impl.IsMeasure -/
def p100 : List SP := [.one (.int .i64)]
def r100 : List SP := [.one (.bool)]
noncomputable def F100 (f67 : Int × Int × Int × Unit → Option (Bool × Unit)) (a : Int × Unit) : Option (Bool × Unit) :=
  (f67 (a.1, (-4096), 4096, ())).bind fun x1 => some (x1.1, ())
def E100 (f67 : Int × Int × Int × Unit → Option (Bool × Unit)) : Env := envL [(67, mkE p67 r67 false f67)]
noncomputable def L100 (f67 : Int × Int × Int × Unit → Option (Bool × Unit)) : LEnv (densS (muts p100 ++ r100)) := lenv []
theorem e100 (f67 : Int × Int × Int × Unit → Option (Bool × Unit)) (a : densS p100) : runF (E100 f67) tab (fun _ => false) p100 r100 Proofs.Try.f100 (L100 f67) a = F100 f67 a := by kernel_rfl
theorem ok100 {f67 : Int × Int × Int × Unit → Option (Bool × Unit)} (h67 : OK Proofs.Try.prog 67 (mkE p67 r67 false f67)) : OK Proofs.Try.prog 100 (mkE p100 r100 false (F100 f67)) :=
  fn_ok tab_ok (envL_ok (l := [(67, mkE p67 r67 false f67)]) (OKs.cons h67 OKs.nil)) mixed (ann := (fun _ => false)) (L := L100 f67) (fn := Proofs.Try.f100) (c := bodyC Proofs.Try.f100) (ls := []) Proofs.Try.func100 (by kernel_rfl) (by kernel_rfl) (by kernel_rfl) (by kernel_rfl)
    LoopsP.nil (e100 f67)
/-! impl.IsPlace -/
def p70 : List SP := [.t .place]
def r70 : List SP := [.one (.bool)]
noncomputable def F70 (f100 : Int × Unit → Option (Bool × Unit)) (a : Place × Unit) : Option (Bool × Unit) :=
  (f100 (a.1.X, ())).bind fun x1 => cond x1.1 ((f100 (a.1.Y, ())).bind fun x2 => some (x2.1, ())) (some (false, ()))
def E70 (f100 : Int × Unit → Option (Bool × Unit)) : Env := envL [(100, mkE p100 r100 false f100)]
noncomputable def L70 (f100 : Int × Unit → Option (Bool × Unit)) : LEnv (densS (muts p70 ++ r70)) := lenv []
theorem e70 (f100 : Int × Unit → Option (Bool × Unit)) (a : densS p70) : runF (E70 f100) tab (fun _ => false) p70 r70 Proofs.Try.f70 (L70 f100) a = F70 f100 a := by kernel_rfl
theorem ok70 {f100 : Int × Unit → Option (Bool × Unit)} (h100 : OK Proofs.Try.prog 100 (mkE p100 r100 false f100)) : OK Proofs.Try.prog 70 (mkE p70 r70 false (F70 f100)) :=
  fn_ok tab_ok (envL_ok (l := [(100, mkE p100 r100 false f100)]) (OKs.cons h100 OKs.nil)) mixed (ann := (fun _ => false)) (L := L70 f100) (fn := Proofs.Try.f70) (c := bodyC Proofs.Try.f70) (ls := []) Proofs.Try.func70 (by kernel_rfl) (by kernel_rfl) (by kernel_rfl) (by kernel_rfl)
    LoopsP.nil (e70 f100)
/-! impl.IsDevice -/
def p81 : List SP := [.t .device]
def r81 : List SP := [.one (.bool)]
noncomputable def F81 (f104 : Str × Unit → Option (Bool × Unit)) (f105 : Int × Unit → Option (Bool × Unit)) (f106 : Jet × Unit → Option (Bool × Unit)) (f67 : Int × Int × Int × Unit → Option (Bool × Unit)) (f70 : Place × Unit → Option (Bool × Unit)) (a : Device × Unit) : Option (Bool × Unit) :=
  (f104 (a.1.Name, ())).bind fun x1 => cond (!x1.1) (some (false, ())) (cond (decide (a.1.Kind = 1)) (cond (decide (a.1.Name = a.1.Name) && (decide (a.1.Kind = a.1.Kind) && (decide (a.1.Line = []) && (decide (a.1.At.X = 0) && (decide (a.1.At.Y = 0) && (decide (a.1.Heading = 0) && (decide (a.1.Tilt = 0) && (decide (a.1.Most = a.1.Most) && true)))))))) ((f105 (a.1.Most, ())).bind fun x2 => some (x2.1, ())) (some (false, ()))) (cond (decide (a.1.Kind = 2)) ((f104 (a.1.Line, ())).bind fun x3 => cond x3.1 (cond (!decide (a.1.Line = a.1.Name)) ((f106 ((⟨⟨a.1.At.X, a.1.At.Y⟩, a.1.Heading, a.1.Tilt, 1⟩ : Jet), ())).bind fun x4 => cond x4.1 ((f67 (a.1.Most, 0, 32, ())).bind fun x5 => some (x5.1, ())) (some (false, ()))) (some (false, ()))) (some (false, ()))) (cond (decide (a.1.Kind = 3)) (cond (decide (a.1.Name = a.1.Name) && (decide (a.1.Kind = a.1.Kind) && (decide (a.1.Line = a.1.Line) && (decide (a.1.At.X = a.1.At.X) && (decide (a.1.At.Y = a.1.At.Y) && (decide (a.1.Heading = 0) && (decide (a.1.Tilt = 0) && (decide (a.1.Most = 0) && true)))))))) ((f104 (a.1.Line, ())).bind fun x6 => cond x6.1 (cond (!decide (a.1.Line = a.1.Name)) ((f70 (a.1.At, ())).bind fun x7 => some (x7.1, ())) (some (false, ()))) (some (false, ()))) (some (false, ()))) (some (false, ())))))
def E81 (f104 : Str × Unit → Option (Bool × Unit)) (f105 : Int × Unit → Option (Bool × Unit)) (f106 : Jet × Unit → Option (Bool × Unit)) (f67 : Int × Int × Int × Unit → Option (Bool × Unit)) (f70 : Place × Unit → Option (Bool × Unit)) : Env := envL [(104, mkE p104 r104 false f104), (105, mkE p105 r105 false f105), (106, mkE p106 r106 false f106), (67, mkE p67 r67 false f67), (70, mkE p70 r70 false f70)]
noncomputable def L81 (f104 : Str × Unit → Option (Bool × Unit)) (f105 : Int × Unit → Option (Bool × Unit)) (f106 : Jet × Unit → Option (Bool × Unit)) (f67 : Int × Int × Int × Unit → Option (Bool × Unit)) (f70 : Place × Unit → Option (Bool × Unit)) : LEnv (densS (muts p81 ++ r81)) := lenv []
theorem e81 (f104 : Str × Unit → Option (Bool × Unit)) (f105 : Int × Unit → Option (Bool × Unit)) (f106 : Jet × Unit → Option (Bool × Unit)) (f67 : Int × Int × Int × Unit → Option (Bool × Unit)) (f70 : Place × Unit → Option (Bool × Unit)) (a : densS p81) : runF (E81 f104 f105 f106 f67 f70) tab (fun _ => false) p81 r81 Proofs.Try.f81 (L81 f104 f105 f106 f67 f70) a = F81 f104 f105 f106 f67 f70 a := by kernel_rfl
theorem ok81 {f104 : Str × Unit → Option (Bool × Unit)} {f105 : Int × Unit → Option (Bool × Unit)} {f106 : Jet × Unit → Option (Bool × Unit)} {f67 : Int × Int × Int × Unit → Option (Bool × Unit)} {f70 : Place × Unit → Option (Bool × Unit)} (h104 : OK Proofs.Try.prog 104 (mkE p104 r104 false f104)) (h105 : OK Proofs.Try.prog 105 (mkE p105 r105 false f105)) (h106 : OK Proofs.Try.prog 106 (mkE p106 r106 false f106)) (h67 : OK Proofs.Try.prog 67 (mkE p67 r67 false f67)) (h70 : OK Proofs.Try.prog 70 (mkE p70 r70 false f70)) : OK Proofs.Try.prog 81 (mkE p81 r81 false (F81 f104 f105 f106 f67 f70)) :=
  fn_ok tab_ok (envL_ok (l := [(104, mkE p104 r104 false f104), (105, mkE p105 r105 false f105), (106, mkE p106 r106 false f106), (67, mkE p67 r67 false f67), (70, mkE p70 r70 false f70)]) (OKs.cons h104 (OKs.cons h105 (OKs.cons h106 (OKs.cons h67 (OKs.cons h70 OKs.nil)))))) mixed (ann := (fun _ => false)) (L := L81 f104 f105 f106 f67 f70) (fn := Proofs.Try.f81) (c := bodyC Proofs.Try.f81) (ls := []) Proofs.Try.func81 (by kernel_rfl) (by kernel_rfl) (by kernel_rfl) (by kernel_rfl)
    LoopsP.nil (e81 f104 f105 f106 f67 f70)
/-! impl.FindDevice$1 -/
def p120 : List SP := [.t .device, .sp [.str]]
def r120 : List SP := [.one (.bool)]
noncomputable def F120 (a : Device × (Str × Unit) × Unit) : Option (Bool × Unit) :=
  some ((decide (a.1.Name = a.2.1.1)), ())
def E120 : Env := envL []
noncomputable def L120 : LEnv (densS (muts p120 ++ r120)) := lenv []
theorem e120 (a : densS p120) : runF (E120) tab (fun _ => false) p120 r120 Proofs.Try.f120 (L120) a = F120 a := by kernel_rfl
theorem ok120 : OK Proofs.Try.prog 120 (mkE p120 r120 false (F120)) :=
  fn_ok tab_ok (envL_ok (l := []) OKs.nil) mixed (ann := (fun _ => false)) (L := L120) (fn := Proofs.Try.f120) (c := bodyC Proofs.Try.f120) (ls := []) Proofs.Try.func120 (by kernel_rfl) (by kernel_rfl) (by kernel_rfl) (by kernel_rfl)
    LoopsP.nil (e120)
/-! slices.IndexFunc[[]impl.Device,impl.Device] -/
def p119 : List SP := [.one (.r .device), .fn 120 [.str]]
def r119 : List SP := [.one (.int .i64)]
def q119_0 : List SP := pat 19 0 [(0, .one (.r .device)), (1, .fn 120 [.str]), (7, .one (.int .i64)), (8, .one (.int .i64))]
noncomputable def s119_0 (f120 : Device × (Str × Unit) × Unit → Option (Bool × Unit)) (t1 : List Device × (Str × Unit) × Int × Int × Unit) (rec K : List Device × (Str × Unit) × Int × Int × Unit → Option (Int × Unit)) : Option (Int × Unit) :=
  cond (decide (t1.2.2.2.1 < t1.2.2.1)) (rdL t1.1 t1.2.2.2.1 fun d2 => (f120 (d2, (t1.2.1.1, ()), ())).bind fun x3 => cond x3.1 (some (t1.2.2.2.1, ())) (rec (t1.1, (t1.2.1.1, ()), t1.2.2.1, (w64 (t1.2.2.2.1 + 1)), ()))) (K (t1.1, (t1.2.1.1, ()), t1.2.2.1, t1.2.2.2.1, ()))
noncomputable def F119 (f120 : Device × (Str × Unit) × Unit → Option (Bool × Unit)) (a : List Device × (Str × Unit) × Unit) : Option (Int × Unit) :=
  iterF (s119_0 f120) fuel (a.1, (a.2.1.1, ()), (Int.ofNat (List.length a.1)), 0, ()) fun t4 => some ((-1), ())
def E119 (f120 : Device × (Str × Unit) × Unit → Option (Bool × Unit)) : Env := envL [(120, mkE p120 r120 false f120)]
noncomputable def L119 (f120 : Device × (Str × Unit) × Unit → Option (Bool × Unit)) : LEnv (densS (muts p119 ++ r119)) := lenv [(0, loopL (R := densS (muts p119 ++ r119)) q119_0 (s119_0 f120))]
theorem e119_0 (f120 : Device × (Str × Unit) × Unit → Option (Bool × Unit)) (X : Nat → St → Option (densS (muts p119 ++ r119))) (rec K : densS q119_0 → Option (densS (muts p119 ++ r119))) (t : densS q119_0) :
    ev (E119 f120) tab (fun _ => false) (L119 f120) (retK tab p119 r119 Proofs.Try.f119.results.toList) (loopC Proofs.Try.f119 0) (fun i s => cond (Nat.beq i 0) (decK 100 q119_0 s K) (X i s)) (fun s => decK 100 q119_0 s rec) (enc q119_0 t) = s119_0 f120 t rec K := by kernel_rfl
theorem e119 (f120 : Device × (Str × Unit) × Unit → Option (Bool × Unit)) (a : densS p119) : runF (E119 f120) tab (fun _ => false) p119 r119 Proofs.Try.f119 (L119 f120) a = F119 f120 a := by kernel_rfl
theorem ok119 {f120 : Device × (Str × Unit) × Unit → Option (Bool × Unit)} (h120 : OK Proofs.Try.prog 120 (mkE p120 r120 false f120)) : OK Proofs.Try.prog 119 (mkE p119 r119 false (F119 f120)) :=
  fn_ok tab_ok (envL_ok (l := [(120, mkE p120 r120 false f120)]) (OKs.cons h120 OKs.nil)) mixed (ann := (fun _ => false)) (L := L119 f120) (fn := Proofs.Try.f119) (c := bodyC Proofs.Try.f119) (ls := [(0, loopC Proofs.Try.f119 0)]) Proofs.Try.func119 (by kernel_rfl) (by kernel_rfl) (by kernel_rfl) (by kernel_rfl)
    (LoopsP.cons q119_0 (s119_0 f120) rfl (e119_0 f120) LoopsP.nil) (e119 f120)
/-! impl.FindDevice -/
def p114 : List SP := [.one (.r .device), .one (.str)]
def r114 : List SP := [.one (.int .i64)]
noncomputable def F114 (f119 : List Device × (Str × Unit) × Unit → Option (Int × Unit)) (a : List Device × Str × Unit) : Option (Int × Unit) :=
  (f119 (a.1, (a.2.1, ()), ())).bind fun x1 => some (x1.1, ())
def E114 (f119 : List Device × (Str × Unit) × Unit → Option (Int × Unit)) : Env := envL [(119, mkE p119 r119 false f119)]
noncomputable def L114 (f119 : List Device × (Str × Unit) × Unit → Option (Int × Unit)) : LEnv (densS (muts p114 ++ r114)) := lenv []
theorem e114 (f119 : List Device × (Str × Unit) × Unit → Option (Int × Unit)) (a : densS p114) : runF (E114 f119) tab (fun _ => false) p114 r114 Proofs.Try.f114 (L114 f119) a = F114 f119 a := by kernel_rfl
theorem ok114 {f119 : List Device × (Str × Unit) × Unit → Option (Int × Unit)} (h119 : OK Proofs.Try.prog 119 (mkE p119 r119 false f119)) : OK Proofs.Try.prog 114 (mkE p114 r114 false (F114 f119)) :=
  fn_ok tab_ok (envL_ok (l := [(119, mkE p119 r119 false f119)]) (OKs.cons h119 OKs.nil)) mixed (ann := (fun _ => false)) (L := L114 f119) (fn := Proofs.Try.f114) (c := bodyC Proofs.Try.f114) (ls := []) Proofs.Try.func114 (by kernel_rfl) (by kernel_rfl) (by kernel_rfl) (by kernel_rfl)
    LoopsP.nil (e114 f119)
/-! impl.isHung -/
def p95 : List SP := [.one (.r .device), .t .device]
def r95 : List SP := [.one (.bool)]
noncomputable def F95 (f114 : List Device × Str × Unit → Option (Int × Unit)) (a : List Device × Device × Unit) : Option (Bool × Unit) :=
  cond (decide (a.2.1.Kind = 1)) (some (true, ())) ((f114 (a.1, a.2.1.Line, ())).bind fun x1 => cond (decide (x1.1 ≥ 0)) (rdL a.1 x1.1 fun d2 => some ((decide (d2.Kind = (w64 (a.2.1.Kind - 1)))), ())) (some (false, ())))
def E95 (f114 : List Device × Str × Unit → Option (Int × Unit)) : Env := envL [(114, mkE p114 r114 false f114)]
noncomputable def L95 (f114 : List Device × Str × Unit → Option (Int × Unit)) : LEnv (densS (muts p95 ++ r95)) := lenv []
theorem e95 (f114 : List Device × Str × Unit → Option (Int × Unit)) (a : densS p95) : runF (E95 f114) tab (fun _ => false) p95 r95 Proofs.Try.f95 (L95 f114) a = F95 f114 a := by kernel_rfl
theorem ok95 {f114 : List Device × Str × Unit → Option (Int × Unit)} (h114 : OK Proofs.Try.prog 114 (mkE p114 r114 false f114)) : OK Proofs.Try.prog 95 (mkE p95 r95 false (F95 f114)) :=
  fn_ok tab_ok (envL_ok (l := [(114, mkE p114 r114 false f114)]) (OKs.cons h114 OKs.nil)) mixed (ann := (fun _ => false)) (L := L95 f114) (fn := Proofs.Try.f95) (c := bodyC Proofs.Try.f95) (ls := []) Proofs.Try.func95 (by kernel_rfl) (by kernel_rfl) (by kernel_rfl) (by kernel_rfl)
    LoopsP.nil (e95 f114)
/-! impl.IsRig -/
def p64 : List SP := [.one (.r .device)]
def r64 : List SP := [.one (.bool)]
def q64_0 : List SP := pat 40 0 [(0, .one (.r .device)), (8, .one (.r .device)), (9, .one (.int .i64)), (10, .one (.int .i64))]
noncomputable def s64_0 (f81 : Device × Unit → Option (Bool × Unit)) (f95 : List Device × Device × Unit → Option (Bool × Unit)) (t1 : List Device × List Device × Int × Int × Unit) (rec K : List Device × List Device × Int × Int × Unit → Option (Bool × Unit)) : Option (Bool × Unit) :=
  cond (decide (t1.2.2.2.1 < t1.2.2.1)) (rdL t1.2.1 t1.2.2.2.1 fun d2 => (f81 (d2, ())).bind fun x3 => cond (!(!x3.1)) (cond (decide (t1.2.2.2.1 > 0)) (rdL t1.1 (w64 (t1.2.2.2.1 - 1)) fun d4 => cond (!(Op.bytesLess d2.Name d4.Name || decide (d2.Name = d4.Name))) ((f95 (t1.1, d2, ())).bind fun x5 => cond (!x5.1) (some (false, ())) (rec (t1.1, t1.2.1, t1.2.2.1, (w64 (t1.2.2.2.1 + 1)), ()))) (some (false, ()))) ((f95 (t1.1, d2, ())).bind fun x6 => cond (!x6.1) (some (false, ())) (rec (t1.1, t1.2.1, t1.2.2.1, (w64 (t1.2.2.2.1 + 1)), ())))) (some (false, ()))) (K (t1.1, t1.2.1, t1.2.2.1, t1.2.2.2.1, ()))
noncomputable def F64 (f81 : Device × Unit → Option (Bool × Unit)) (f95 : List Device × Device × Unit → Option (Bool × Unit)) (a : List Device × Unit) : Option (Bool × Unit) :=
  cond (decide ((Int.ofNat (List.length a.1)) > 8)) (some (false, ())) (iterF (s64_0 f81 f95) fuel (a.1, a.1, (Int.ofNat (List.length a.1)), 0, ()) fun t7 => some (true, ()))
def E64 (f81 : Device × Unit → Option (Bool × Unit)) (f95 : List Device × Device × Unit → Option (Bool × Unit)) : Env := envL [(81, mkE p81 r81 false f81), (95, mkE p95 r95 false f95)]
noncomputable def L64 (f81 : Device × Unit → Option (Bool × Unit)) (f95 : List Device × Device × Unit → Option (Bool × Unit)) : LEnv (densS (muts p64 ++ r64)) := lenv [(0, loopL (R := densS (muts p64 ++ r64)) q64_0 (s64_0 f81 f95))]
theorem e64_0 (f81 : Device × Unit → Option (Bool × Unit)) (f95 : List Device × Device × Unit → Option (Bool × Unit)) (X : Nat → St → Option (densS (muts p64 ++ r64))) (rec K : densS q64_0 → Option (densS (muts p64 ++ r64))) (t : densS q64_0) :
    ev (E64 f81 f95) tab (fun _ => false) (L64 f81 f95) (retK tab p64 r64 Proofs.Try.f64.results.toList) (loopC Proofs.Try.f64 0) (fun i s => cond (Nat.beq i 0) (decK 100 q64_0 s K) (X i s)) (fun s => decK 100 q64_0 s rec) (enc q64_0 t) = s64_0 f81 f95 t rec K := by kernel_rfl
theorem e64 (f81 : Device × Unit → Option (Bool × Unit)) (f95 : List Device × Device × Unit → Option (Bool × Unit)) (a : densS p64) : runF (E64 f81 f95) tab (fun _ => false) p64 r64 Proofs.Try.f64 (L64 f81 f95) a = F64 f81 f95 a := by kernel_rfl
theorem ok64 {f81 : Device × Unit → Option (Bool × Unit)} {f95 : List Device × Device × Unit → Option (Bool × Unit)} (h81 : OK Proofs.Try.prog 81 (mkE p81 r81 false f81)) (h95 : OK Proofs.Try.prog 95 (mkE p95 r95 false f95)) : OK Proofs.Try.prog 64 (mkE p64 r64 false (F64 f81 f95)) :=
  fn_ok tab_ok (envL_ok (l := [(81, mkE p81 r81 false f81), (95, mkE p95 r95 false f95)]) (OKs.cons h81 (OKs.cons h95 OKs.nil))) mixed (ann := (fun _ => false)) (L := L64 f81 f95) (fn := Proofs.Try.f64) (c := bodyC Proofs.Try.f64) (ls := [(0, loopC Proofs.Try.f64 0)]) Proofs.Try.func64 (by kernel_rfl) (by kernel_rfl) (by kernel_rfl) (by kernel_rfl)
    (LoopsP.cons q64_0 (s64_0 f81 f95) rfl (e64_0 f81 f95) LoopsP.nil) (e64 f81 f95)
/-! impl.IsCue -/
def p96 : List SP := [.t .cue]
def r96 : List SP := [.one (.bool)]
noncomputable def F96 (f67 : Int × Int × Int × Unit → Option (Bool × Unit)) (f104 : Str × Unit → Option (Bool × Unit)) (a : Cue × Unit) : Option (Bool × Unit) :=
  (f67 (a.1.Tick, 0, 64, ())).bind fun x1 => cond x1.1 ((f104 (a.1.Name, ())).bind fun x2 => cond x2.1 ((f67 (a.1.Level, 0, 32, ())).bind fun x3 => cond x3.1 ((f67 (a.1.Ramp, 0, 16, ())).bind fun x4 => some (x4.1, ())) (some (false, ()))) (some (false, ()))) (some (false, ()))
def E96 (f67 : Int × Int × Int × Unit → Option (Bool × Unit)) (f104 : Str × Unit → Option (Bool × Unit)) : Env := envL [(67, mkE p67 r67 false f67), (104, mkE p104 r104 false f104)]
noncomputable def L96 (f67 : Int × Int × Int × Unit → Option (Bool × Unit)) (f104 : Str × Unit → Option (Bool × Unit)) : LEnv (densS (muts p96 ++ r96)) := lenv []
theorem e96 (f67 : Int × Int × Int × Unit → Option (Bool × Unit)) (f104 : Str × Unit → Option (Bool × Unit)) (a : densS p96) : runF (E96 f67 f104) tab (fun _ => false) p96 r96 Proofs.Try.f96 (L96 f67 f104) a = F96 f67 f104 a := by kernel_rfl
theorem ok96 {f67 : Int × Int × Int × Unit → Option (Bool × Unit)} {f104 : Str × Unit → Option (Bool × Unit)} (h67 : OK Proofs.Try.prog 67 (mkE p67 r67 false f67)) (h104 : OK Proofs.Try.prog 104 (mkE p104 r104 false f104)) : OK Proofs.Try.prog 96 (mkE p96 r96 false (F96 f67 f104)) :=
  fn_ok tab_ok (envL_ok (l := [(67, mkE p67 r67 false f67), (104, mkE p104 r104 false f104)]) (OKs.cons h67 (OKs.cons h104 OKs.nil))) mixed (ann := (fun _ => false)) (L := L96 f67 f104) (fn := Proofs.Try.f96) (c := bodyC Proofs.Try.f96) (ls := []) Proofs.Try.func96 (by kernel_rfl) (by kernel_rfl) (by kernel_rfl) (by kernel_rfl)
    LoopsP.nil (e96 f67 f104)
/-! cmp.isNaN[int] -/
def p116 : List SP := [.one (.int .i64)]
def r116 : List SP := [.one (.bool)]
noncomputable def F116 (a : Int × Unit) : Option (Bool × Unit) :=
  some ((!(decide (a.1 = a.1))), ())
def E116 : Env := envL []
noncomputable def L116 : LEnv (densS (muts p116 ++ r116)) := lenv []
theorem e116 (a : densS p116) : runF (E116) tab (fun _ => false) p116 r116 Proofs.Try.f116 (L116) a = F116 a := by kernel_rfl
theorem ok116 : OK Proofs.Try.prog 116 (mkE p116 r116 false (F116)) :=
  fn_ok tab_ok (envL_ok (l := []) OKs.nil) mixed (ann := (fun _ => false)) (L := L116) (fn := Proofs.Try.f116) (c := bodyC Proofs.Try.f116) (ls := []) Proofs.Try.func116 (by kernel_rfl) (by kernel_rfl) (by kernel_rfl) (by kernel_rfl)
    LoopsP.nil (e116)
/-! cmp.Compare[int] -/
def p99 : List SP := [.one (.int .i64), .one (.int .i64)]
def r99 : List SP := [.one (.int .i64)]
noncomputable def F99 (f116 : Int × Unit → Option (Bool × Unit)) (a : Int × Int × Unit) : Option (Int × Unit) :=
  (f116 (a.1, ())).bind fun x1 => (f116 (a.2.1, ())).bind fun x2 => cond x1.1 (cond x2.1 (some (0, ())) (some ((-1), ()))) (cond x2.1 (some (1, ())) (cond (decide (a.1 < a.2.1)) (some ((-1), ())) (cond (decide (a.1 > a.2.1)) (some (1, ())) (some (0, ())))))
def E99 (f116 : Int × Unit → Option (Bool × Unit)) : Env := envL [(116, mkE p116 r116 false f116)]
noncomputable def L99 (f116 : Int × Unit → Option (Bool × Unit)) : LEnv (densS (muts p99 ++ r99)) := lenv []
theorem e99 (f116 : Int × Unit → Option (Bool × Unit)) (a : densS p99) : runF (E99 f116) tab (fun _ => false) p99 r99 Proofs.Try.f99 (L99 f116) a = F99 f116 a := by kernel_rfl
theorem ok99 {f116 : Int × Unit → Option (Bool × Unit)} (h116 : OK Proofs.Try.prog 116 (mkE p116 r116 false f116)) : OK Proofs.Try.prog 99 (mkE p99 r99 false (F99 f116)) :=
  fn_ok tab_ok (envL_ok (l := [(116, mkE p116 r116 false f116)]) (OKs.cons h116 OKs.nil)) mixed (ann := (fun _ => false)) (L := L99 f116) (fn := Proofs.Try.f99) (c := bodyC Proofs.Try.f99) (ls := []) Proofs.Try.func99 (by kernel_rfl) (by kernel_rfl) (by kernel_rfl) (by kernel_rfl)
    LoopsP.nil (e99 f116)
/-! cmp.isNaN[string] -/
def p121 : List SP := [.one (.str)]
def r121 : List SP := [.one (.bool)]
noncomputable def F121 (a : Str × Unit) : Option (Bool × Unit) :=
  some ((!decide (a.1 = a.1)), ())
def E121 : Env := envL []
noncomputable def L121 : LEnv (densS (muts p121 ++ r121)) := lenv []
theorem e121 (a : densS p121) : runF (E121) tab (fun _ => false) p121 r121 Proofs.Try.f121 (L121) a = F121 a := by kernel_rfl
theorem ok121 : OK Proofs.Try.prog 121 (mkE p121 r121 false (F121)) :=
  fn_ok tab_ok (envL_ok (l := []) OKs.nil) mixed (ann := (fun _ => false)) (L := L121) (fn := Proofs.Try.f121) (c := bodyC Proofs.Try.f121) (ls := []) Proofs.Try.func121 (by kernel_rfl) (by kernel_rfl) (by kernel_rfl) (by kernel_rfl)
    LoopsP.nil (e121)
/-! cmp.Compare[string] -/
def p115 : List SP := [.one (.str), .one (.str)]
def r115 : List SP := [.one (.int .i64)]
noncomputable def F115 (f121 : Str × Unit → Option (Bool × Unit)) (a : Str × Str × Unit) : Option (Int × Unit) :=
  (f121 (a.1, ())).bind fun x1 => (f121 (a.2.1, ())).bind fun x2 => cond x1.1 (cond x2.1 (some (0, ())) (some ((-1), ()))) (cond x2.1 (some (1, ())) (cond (Op.bytesLess a.1 a.2.1) (some ((-1), ())) (cond (!(Op.bytesLess a.1 a.2.1 || decide (a.1 = a.2.1))) (some (1, ())) (some (0, ())))))
def E115 (f121 : Str × Unit → Option (Bool × Unit)) : Env := envL [(121, mkE p121 r121 false f121)]
noncomputable def L115 (f121 : Str × Unit → Option (Bool × Unit)) : LEnv (densS (muts p115 ++ r115)) := lenv []
theorem e115 (f121 : Str × Unit → Option (Bool × Unit)) (a : densS p115) : runF (E115 f121) tab (fun _ => false) p115 r115 Proofs.Try.f115 (L115 f121) a = F115 f121 a := by kernel_rfl
theorem ok115 {f121 : Str × Unit → Option (Bool × Unit)} (h121 : OK Proofs.Try.prog 121 (mkE p121 r121 false f121)) : OK Proofs.Try.prog 115 (mkE p115 r115 false (F115 f121)) :=
  fn_ok tab_ok (envL_ok (l := [(121, mkE p121 r121 false f121)]) (OKs.cons h121 OKs.nil)) mixed (ann := (fun _ => false)) (L := L115 f121) (fn := Proofs.Try.f115) (c := bodyC Proofs.Try.f115) (ls := []) Proofs.Try.func115 (by kernel_rfl) (by kernel_rfl) (by kernel_rfl) (by kernel_rfl)
    LoopsP.nil (e115 f121)
/-! cmp.Or[int] -/
def p98 : List SP := [.one (.r .int)]
def r98 : List SP := [.one (.int .i64)]
def q98_0 : List SP := pat 18 0 [(3, .one (.int .i64)), (6, .one (.r .int)), (7, .one (.int .i64)), (8, .one (.int .i64))]
noncomputable def s98_0 (t1 : Int × List Int × Int × Int × Unit) (rec K : Int × List Int × Int × Int × Unit → Option (Int × Unit)) : Option (Int × Unit) :=
  cond (decide (t1.2.2.2.1 < t1.2.2.1)) (rdL t1.2.1 t1.2.2.2.1 fun d2 => cond (!(decide (d2 = t1.1))) (some (d2, ())) (rec (t1.1, t1.2.1, t1.2.2.1, (w64 (t1.2.2.2.1 + 1)), ()))) (K (t1.1, t1.2.1, t1.2.2.1, t1.2.2.2.1, ()))
noncomputable def F98 (a : List Int × Unit) : Option (Int × Unit) :=
  iterF (s98_0) fuel (0, a.1, (Int.ofNat (List.length a.1)), 0, ()) fun t3 => some (t3.1, ())
def E98 : Env := envL []
noncomputable def L98 : LEnv (densS (muts p98 ++ r98)) := lenv [(0, loopL (R := densS (muts p98 ++ r98)) q98_0 (s98_0))]
theorem e98_0 (X : Nat → St → Option (densS (muts p98 ++ r98))) (rec K : densS q98_0 → Option (densS (muts p98 ++ r98))) (t : densS q98_0) :
    ev (E98) tab (fun _ => false) (L98) (retK tab p98 r98 Proofs.Try.f98.results.toList) (loopC Proofs.Try.f98 0) (fun i s => cond (Nat.beq i 0) (decK 100 q98_0 s K) (X i s)) (fun s => decK 100 q98_0 s rec) (enc q98_0 t) = s98_0 t rec K := by kernel_rfl
theorem e98 (a : densS p98) : runF (E98) tab (fun _ => false) p98 r98 Proofs.Try.f98 (L98) a = F98 a := by kernel_rfl
theorem ok98 : OK Proofs.Try.prog 98 (mkE p98 r98 false (F98)) :=
  fn_ok tab_ok (envL_ok (l := []) OKs.nil) mixed (ann := (fun _ => false)) (L := L98) (fn := Proofs.Try.f98) (c := bodyC Proofs.Try.f98) (ls := [(0, loopC Proofs.Try.f98 0)]) Proofs.Try.func98 (by kernel_rfl) (by kernel_rfl) (by kernel_rfl) (by kernel_rfl)
    (LoopsP.cons q98_0 (s98_0) rfl (e98_0) LoopsP.nil) (e98)
/-! impl.CompareCues -/
def p97 : List SP := [.t .cue, .t .cue]
def r97 : List SP := [.one (.int .i64)]
noncomputable def F97 (f99 : Int × Int × Unit → Option (Int × Unit)) (f115 : Str × Str × Unit → Option (Int × Unit)) (f98 : List Int × Unit → Option (Int × Unit)) (a : Cue × Cue × Unit) : Option (Int × Unit) :=
  (f99 (a.1.Tick, a.2.1.Tick, ())).bind fun x1 => (f115 (a.1.Name, a.2.1.Name, ())).bind fun x2 => (f98 (([x1.1, x2.1] : List Int), ())).bind fun x3 => some (x3.1, ())
def E97 (f99 : Int × Int × Unit → Option (Int × Unit)) (f115 : Str × Str × Unit → Option (Int × Unit)) (f98 : List Int × Unit → Option (Int × Unit)) : Env := envL [(99, mkE p99 r99 false f99), (115, mkE p115 r115 false f115), (98, mkE p98 r98 false f98)]
noncomputable def L97 (f99 : Int × Int × Unit → Option (Int × Unit)) (f115 : Str × Str × Unit → Option (Int × Unit)) (f98 : List Int × Unit → Option (Int × Unit)) : LEnv (densS (muts p97 ++ r97)) := lenv []
theorem e97 (f99 : Int × Int × Unit → Option (Int × Unit)) (f115 : Str × Str × Unit → Option (Int × Unit)) (f98 : List Int × Unit → Option (Int × Unit)) (a : densS p97) : runF (E97 f99 f115 f98) tab (fun _ => false) p97 r97 Proofs.Try.f97 (L97 f99 f115 f98) a = F97 f99 f115 f98 a := by kernel_rfl
theorem ok97 {f99 : Int × Int × Unit → Option (Int × Unit)} {f115 : Str × Str × Unit → Option (Int × Unit)} {f98 : List Int × Unit → Option (Int × Unit)} (h99 : OK Proofs.Try.prog 99 (mkE p99 r99 false f99)) (h115 : OK Proofs.Try.prog 115 (mkE p115 r115 false f115)) (h98 : OK Proofs.Try.prog 98 (mkE p98 r98 false f98)) : OK Proofs.Try.prog 97 (mkE p97 r97 false (F97 f99 f115 f98)) :=
  fn_ok tab_ok (envL_ok (l := [(99, mkE p99 r99 false f99), (115, mkE p115 r115 false f115), (98, mkE p98 r98 false f98)]) (OKs.cons h99 (OKs.cons h115 (OKs.cons h98 OKs.nil)))) mixed (ann := (fun _ => false)) (L := L97 f99 f115 f98) (fn := Proofs.Try.f97) (c := bodyC Proofs.Try.f97) (ls := []) Proofs.Try.func97 (by kernel_rfl) (by kernel_rfl) (by kernel_rfl) (by kernel_rfl)
    LoopsP.nil (e97 f99 f115 f98)
/-! impl.IsScore -/
def p65 : List SP := [.one (.r .cue)]
def r65 : List SP := [.one (.bool)]
def q65_0 : List SP := pat 33 0 [(0, .one (.r .cue)), (5, .one (.r .cue)), (6, .one (.int .i64)), (7, .one (.int .i64))]
noncomputable def s65_0 (f96 : Cue × Unit → Option (Bool × Unit)) (f97 : Cue × Cue × Unit → Option (Int × Unit)) (t1 : List Cue × List Cue × Int × Int × Unit) (rec K : List Cue × List Cue × Int × Int × Unit → Option (Bool × Unit)) : Option (Bool × Unit) :=
  cond (decide (t1.2.2.2.1 < t1.2.2.1)) (rdL t1.2.1 t1.2.2.2.1 fun d2 => (f96 (d2, ())).bind fun x3 => cond (!(!x3.1)) (cond (decide (t1.2.2.2.1 > 0)) (rdL t1.1 (w64 (t1.2.2.2.1 - 1)) fun d4 => (f97 (d4, d2, ())).bind fun x5 => cond (decide (x5.1 ≥ 0)) (some (false, ())) (rec (t1.1, t1.2.1, t1.2.2.1, (w64 (t1.2.2.2.1 + 1)), ()))) (rec (t1.1, t1.2.1, t1.2.2.1, (w64 (t1.2.2.2.1 + 1)), ()))) (some (false, ()))) (K (t1.1, t1.2.1, t1.2.2.1, t1.2.2.2.1, ()))
noncomputable def F65 (f96 : Cue × Unit → Option (Bool × Unit)) (f97 : Cue × Cue × Unit → Option (Int × Unit)) (a : List Cue × Unit) : Option (Bool × Unit) :=
  iterF (s65_0 f96 f97) fuel (a.1, a.1, (Int.ofNat (List.length a.1)), 0, ()) fun t6 => some ((decide ((Int.ofNat (List.length t6.1)) ≤ 12)), ())
def E65 (f96 : Cue × Unit → Option (Bool × Unit)) (f97 : Cue × Cue × Unit → Option (Int × Unit)) : Env := envL [(96, mkE p96 r96 false f96), (97, mkE p97 r97 false f97)]
noncomputable def L65 (f96 : Cue × Unit → Option (Bool × Unit)) (f97 : Cue × Cue × Unit → Option (Int × Unit)) : LEnv (densS (muts p65 ++ r65)) := lenv [(0, loopL (R := densS (muts p65 ++ r65)) q65_0 (s65_0 f96 f97))]
theorem e65_0 (f96 : Cue × Unit → Option (Bool × Unit)) (f97 : Cue × Cue × Unit → Option (Int × Unit)) (X : Nat → St → Option (densS (muts p65 ++ r65))) (rec K : densS q65_0 → Option (densS (muts p65 ++ r65))) (t : densS q65_0) :
    ev (E65 f96 f97) tab (fun _ => false) (L65 f96 f97) (retK tab p65 r65 Proofs.Try.f65.results.toList) (loopC Proofs.Try.f65 0) (fun i s => cond (Nat.beq i 0) (decK 100 q65_0 s K) (X i s)) (fun s => decK 100 q65_0 s rec) (enc q65_0 t) = s65_0 f96 f97 t rec K := by kernel_rfl
theorem e65 (f96 : Cue × Unit → Option (Bool × Unit)) (f97 : Cue × Cue × Unit → Option (Int × Unit)) (a : densS p65) : runF (E65 f96 f97) tab (fun _ => false) p65 r65 Proofs.Try.f65 (L65 f96 f97) a = F65 f96 f97 a := by kernel_rfl
theorem ok65 {f96 : Cue × Unit → Option (Bool × Unit)} {f97 : Cue × Cue × Unit → Option (Int × Unit)} (h96 : OK Proofs.Try.prog 96 (mkE p96 r96 false f96)) (h97 : OK Proofs.Try.prog 97 (mkE p97 r97 false f97)) : OK Proofs.Try.prog 65 (mkE p65 r65 false (F65 f96 f97)) :=
  fn_ok tab_ok (envL_ok (l := [(96, mkE p96 r96 false f96), (97, mkE p97 r97 false f97)]) (OKs.cons h96 (OKs.cons h97 OKs.nil))) mixed (ann := (fun _ => false)) (L := L65 f96 f97) (fn := Proofs.Try.f65) (c := bodyC Proofs.Try.f65) (ls := [(0, loopC Proofs.Try.f65 0)]) Proofs.Try.func65 (by kernel_rfl) (by kernel_rfl) (by kernel_rfl) (by kernel_rfl)
    (LoopsP.cons q65_0 (s65_0 f96 f97) rfl (e65_0 f96 f97) LoopsP.nil) (e65 f96 f97)
/-! impl.isDrift -/
def p68 : List SP := [.t .place]
def r68 : List SP := [.one (.bool)]
noncomputable def F68 (f67 : Int × Int × Int × Unit → Option (Bool × Unit)) (a : Place × Unit) : Option (Bool × Unit) :=
  (f67 (a.1.X, (-8), 8, ())).bind fun x1 => cond x1.1 ((f67 (a.1.Y, (-8), 8, ())).bind fun x2 => some (x2.1, ())) (some (false, ()))
def E68 (f67 : Int × Int × Int × Unit → Option (Bool × Unit)) : Env := envL [(67, mkE p67 r67 false f67)]
noncomputable def L68 (f67 : Int × Int × Int × Unit → Option (Bool × Unit)) : LEnv (densS (muts p68 ++ r68)) := lenv []
theorem e68 (f67 : Int × Int × Int × Unit → Option (Bool × Unit)) (a : densS p68) : runF (E68 f67) tab (fun _ => false) p68 r68 Proofs.Try.f68 (L68 f67) a = F68 f67 a := by kernel_rfl
theorem ok68 {f67 : Int × Int × Int × Unit → Option (Bool × Unit)} (h67 : OK Proofs.Try.prog 67 (mkE p67 r67 false f67)) : OK Proofs.Try.prog 68 (mkE p68 r68 false (F68 f67)) :=
  fn_ok tab_ok (envL_ok (l := [(67, mkE p67 r67 false f67)]) (OKs.cons h67 OKs.nil)) mixed (ann := (fun _ => false)) (L := L68 f67) (fn := Proofs.Try.f68) (c := bodyC Proofs.Try.f68) (ls := []) Proofs.Try.func68 (by kernel_rfl) (by kernel_rfl) (by kernel_rfl) (by kernel_rfl)
    LoopsP.nil (e68 f67)
/-! impl.IsWind -/
def p66 : List SP := [.one (.r .gust)]
def r66 : List SP := [.one (.bool)]
def q66_0 : List SP := pat 41 0 [(0, .one (.r .gust)), (5, .one (.r .gust)), (6, .one (.int .i64)), (7, .one (.int .i64))]
noncomputable def s66_0 (f67 : Int × Int × Int × Unit → Option (Bool × Unit)) (f68 : Place × Unit → Option (Bool × Unit)) (t1 : List Gust × List Gust × Int × Int × Unit) (rec K : List Gust × List Gust × Int × Int × Unit → Option (Bool × Unit)) : Option (Bool × Unit) :=
  cond (decide (t1.2.2.2.1 < t1.2.2.1)) (rdL t1.2.1 t1.2.2.2.1 fun d2 => (f67 (d2.From, 0, 64, ())).bind fun x3 => cond (!(!x3.1)) ((f68 (d2.Drift, ())).bind fun x4 => cond (!(!x4.1)) (cond (decide (t1.2.2.2.1 > 0)) (rdL t1.1 (w64 (t1.2.2.2.1 - 1)) fun d5 => cond (decide (d2.From ≤ d5.From)) (some (false, ())) (rec (t1.1, t1.2.1, t1.2.2.1, (w64 (t1.2.2.2.1 + 1)), ()))) (rec (t1.1, t1.2.1, t1.2.2.1, (w64 (t1.2.2.2.1 + 1)), ()))) (some (false, ()))) (some (false, ()))) (K (t1.1, t1.2.1, t1.2.2.1, t1.2.2.2.1, ()))
noncomputable def F66 (f67 : Int × Int × Int × Unit → Option (Bool × Unit)) (f68 : Place × Unit → Option (Bool × Unit)) (a : List Gust × Unit) : Option (Bool × Unit) :=
  iterF (s66_0 f67 f68) fuel (a.1, a.1, (Int.ofNat (List.length a.1)), 0, ()) fun t6 => some ((decide ((Int.ofNat (List.length t6.1)) ≤ 8)), ())
def E66 (f67 : Int × Int × Int × Unit → Option (Bool × Unit)) (f68 : Place × Unit → Option (Bool × Unit)) : Env := envL [(67, mkE p67 r67 false f67), (68, mkE p68 r68 false f68)]
noncomputable def L66 (f67 : Int × Int × Int × Unit → Option (Bool × Unit)) (f68 : Place × Unit → Option (Bool × Unit)) : LEnv (densS (muts p66 ++ r66)) := lenv [(0, loopL (R := densS (muts p66 ++ r66)) q66_0 (s66_0 f67 f68))]
theorem e66_0 (f67 : Int × Int × Int × Unit → Option (Bool × Unit)) (f68 : Place × Unit → Option (Bool × Unit)) (X : Nat → St → Option (densS (muts p66 ++ r66))) (rec K : densS q66_0 → Option (densS (muts p66 ++ r66))) (t : densS q66_0) :
    ev (E66 f67 f68) tab (fun _ => false) (L66 f67 f68) (retK tab p66 r66 Proofs.Try.f66.results.toList) (loopC Proofs.Try.f66 0) (fun i s => cond (Nat.beq i 0) (decK 100 q66_0 s K) (X i s)) (fun s => decK 100 q66_0 s rec) (enc q66_0 t) = s66_0 f67 f68 t rec K := by kernel_rfl
theorem e66 (f67 : Int × Int × Int × Unit → Option (Bool × Unit)) (f68 : Place × Unit → Option (Bool × Unit)) (a : densS p66) : runF (E66 f67 f68) tab (fun _ => false) p66 r66 Proofs.Try.f66 (L66 f67 f68) a = F66 f67 f68 a := by kernel_rfl
theorem ok66 {f67 : Int × Int × Int × Unit → Option (Bool × Unit)} {f68 : Place × Unit → Option (Bool × Unit)} (h67 : OK Proofs.Try.prog 67 (mkE p67 r67 false f67)) (h68 : OK Proofs.Try.prog 68 (mkE p68 r68 false f68)) : OK Proofs.Try.prog 66 (mkE p66 r66 false (F66 f67 f68)) :=
  fn_ok tab_ok (envL_ok (l := [(67, mkE p67 r67 false f67), (68, mkE p68 r68 false f68)]) (OKs.cons h67 (OKs.cons h68 OKs.nil))) mixed (ann := (fun _ => false)) (L := L66 f67 f68) (fn := Proofs.Try.f66) (c := bodyC Proofs.Try.f66) (ls := [(0, loopC Proofs.Try.f66 0)]) Proofs.Try.func66 (by kernel_rfl) (by kernel_rfl) (by kernel_rfl) (by kernel_rfl)
    (LoopsP.cons q66_0 (s66_0 f67 f68) rfl (e66_0 f67 f68) LoopsP.nil) (e66 f67 f68)
/-! impl.IsShow -/
def p27 : List SP := [.agg [.r .device, .r .cue, .r .gust, .int .i64]]
def r27 : List SP := [.one (.bool)]
noncomputable def F27 (f64 : List Device × Unit → Option (Bool × Unit)) (f65 : List Cue × Unit → Option (Bool × Unit)) (f66 : List Gust × Unit → Option (Bool × Unit)) (f67 : Int × Int × Int × Unit → Option (Bool × Unit)) (a : (List Device × List Cue × List Gust × Int × Unit) × Unit) : Option (Bool × Unit) :=
  (f64 (a.1.1, ())).bind fun x1 => cond x1.1 ((f65 (a.1.2.1, ())).bind fun x2 => cond x2.1 ((f66 (a.1.2.2.1, ())).bind fun x3 => cond x3.1 ((f67 (a.1.2.2.2.1, 0, 64, ())).bind fun x4 => some (x4.1, ())) (some (false, ()))) (some (false, ()))) (some (false, ()))
def E27 (f64 : List Device × Unit → Option (Bool × Unit)) (f65 : List Cue × Unit → Option (Bool × Unit)) (f66 : List Gust × Unit → Option (Bool × Unit)) (f67 : Int × Int × Int × Unit → Option (Bool × Unit)) : Env := envL [(64, mkE p64 r64 false f64), (65, mkE p65 r65 false f65), (66, mkE p66 r66 false f66), (67, mkE p67 r67 false f67)]
noncomputable def L27 (f64 : List Device × Unit → Option (Bool × Unit)) (f65 : List Cue × Unit → Option (Bool × Unit)) (f66 : List Gust × Unit → Option (Bool × Unit)) (f67 : Int × Int × Int × Unit → Option (Bool × Unit)) : LEnv (densS (muts p27 ++ r27)) := lenv []
theorem e27 (f64 : List Device × Unit → Option (Bool × Unit)) (f65 : List Cue × Unit → Option (Bool × Unit)) (f66 : List Gust × Unit → Option (Bool × Unit)) (f67 : Int × Int × Int × Unit → Option (Bool × Unit)) (a : densS p27) : runF (E27 f64 f65 f66 f67) tab (fun _ => false) p27 r27 Proofs.Try.f27 (L27 f64 f65 f66 f67) a = F27 f64 f65 f66 f67 a := by kernel_rfl
theorem ok27 {f64 : List Device × Unit → Option (Bool × Unit)} {f65 : List Cue × Unit → Option (Bool × Unit)} {f66 : List Gust × Unit → Option (Bool × Unit)} {f67 : Int × Int × Int × Unit → Option (Bool × Unit)} (h64 : OK Proofs.Try.prog 64 (mkE p64 r64 false f64)) (h65 : OK Proofs.Try.prog 65 (mkE p65 r65 false f65)) (h66 : OK Proofs.Try.prog 66 (mkE p66 r66 false f66)) (h67 : OK Proofs.Try.prog 67 (mkE p67 r67 false f67)) : OK Proofs.Try.prog 27 (mkE p27 r27 false (F27 f64 f65 f66 f67)) :=
  fn_ok tab_ok (envL_ok (l := [(64, mkE p64 r64 false f64), (65, mkE p65 r65 false f65), (66, mkE p66 r66 false f66), (67, mkE p67 r67 false f67)]) (OKs.cons h64 (OKs.cons h65 (OKs.cons h66 (OKs.cons h67 OKs.nil))))) mixed (ann := (fun _ => false)) (L := L27 f64 f65 f66 f67) (fn := Proofs.Try.f27) (c := bodyC Proofs.Try.f27) (ls := []) Proofs.Try.func27 (by kernel_rfl) (by kernel_rfl) (by kernel_rfl) (by kernel_rfl)
    LoopsP.nil (e27 f64 f65 f66 f67)
/-! impl.ComparePlaces -/
def p69 : List SP := [.t .place, .t .place]
def r69 : List SP := [.one (.int .i64)]
noncomputable def F69 (f99 : Int × Int × Unit → Option (Int × Unit)) (f98 : List Int × Unit → Option (Int × Unit)) (a : Place × Place × Unit) : Option (Int × Unit) :=
  (f99 (a.1.X, a.2.1.X, ())).bind fun x1 => (f99 (a.1.Y, a.2.1.Y, ())).bind fun x2 => (f98 (([x1.1, x2.1] : List Int), ())).bind fun x3 => some (x3.1, ())
def E69 (f99 : Int × Int × Unit → Option (Int × Unit)) (f98 : List Int × Unit → Option (Int × Unit)) : Env := envL [(99, mkE p99 r99 false f99), (98, mkE p98 r98 false f98)]
noncomputable def L69 (f99 : Int × Int × Unit → Option (Int × Unit)) (f98 : List Int × Unit → Option (Int × Unit)) : LEnv (densS (muts p69 ++ r69)) := lenv []
theorem e69 (f99 : Int × Int × Unit → Option (Int × Unit)) (f98 : List Int × Unit → Option (Int × Unit)) (a : densS p69) : runF (E69 f99 f98) tab (fun _ => false) p69 r69 Proofs.Try.f69 (L69 f99 f98) a = F69 f99 f98 a := by kernel_rfl
theorem ok69 {f99 : Int × Int × Unit → Option (Int × Unit)} {f98 : List Int × Unit → Option (Int × Unit)} (h99 : OK Proofs.Try.prog 99 (mkE p99 r99 false f99)) (h98 : OK Proofs.Try.prog 98 (mkE p98 r98 false f98)) : OK Proofs.Try.prog 69 (mkE p69 r69 false (F69 f99 f98)) :=
  fn_ok tab_ok (envL_ok (l := [(99, mkE p99 r99 false f99), (98, mkE p98 r98 false f98)]) (OKs.cons h99 (OKs.cons h98 OKs.nil))) mixed (ann := (fun _ => false)) (L := L69 f99 f98) (fn := Proofs.Try.f69) (c := bodyC Proofs.Try.f69) (ls := []) Proofs.Try.func69 (by kernel_rfl) (by kernel_rfl) (by kernel_rfl) (by kernel_rfl)
    LoopsP.nil (e69 f99 f98)
/-! impl.IsRose -/
def p28 : List SP := [.one (.r .place)]
def r28 : List SP := [.one (.bool)]
def q28_0 : List SP := pat 33 0 [(0, .one (.r .place)), (5, .one (.r .place)), (6, .one (.int .i64)), (7, .one (.int .i64))]
noncomputable def s28_0 (f68 : Place × Unit → Option (Bool × Unit)) (f69 : Place × Place × Unit → Option (Int × Unit)) (f67 : Int × Int × Int × Unit → Option (Bool × Unit)) (t1 : List Place × List Place × Int × Int × Unit) (rec K : List Place × List Place × Int × Int × Unit → Option (Bool × Unit)) : Option (Bool × Unit) :=
  cond (decide (t1.2.2.2.1 < t1.2.2.1)) (rdL t1.2.1 t1.2.2.2.1 fun d2 => (f68 (d2, ())).bind fun x3 => cond (!(!x3.1)) (cond (decide (t1.2.2.2.1 > 0)) (rdL t1.1 (w64 (t1.2.2.2.1 - 1)) fun d4 => (f69 (d4, d2, ())).bind fun x5 => cond (decide (x5.1 ≥ 0)) (some (false, ())) (rec (t1.1, t1.2.1, t1.2.2.1, (w64 (t1.2.2.2.1 + 1)), ()))) (rec (t1.1, t1.2.1, t1.2.2.1, (w64 (t1.2.2.2.1 + 1)), ()))) (some (false, ()))) (K (t1.1, t1.2.1, t1.2.2.1, t1.2.2.2.1, ()))
noncomputable def F28 (f68 : Place × Unit → Option (Bool × Unit)) (f69 : Place × Place × Unit → Option (Int × Unit)) (f67 : Int × Int × Int × Unit → Option (Bool × Unit)) (a : List Place × Unit) : Option (Bool × Unit) :=
  iterF (s28_0 f68 f69 f67) fuel (a.1, a.1, (Int.ofNat (List.length a.1)), 0, ()) fun t6 => (f67 ((Int.ofNat (List.length t6.1)), 1, 4, ())).bind fun x7 => some (x7.1, ())
def E28 (f68 : Place × Unit → Option (Bool × Unit)) (f69 : Place × Place × Unit → Option (Int × Unit)) (f67 : Int × Int × Int × Unit → Option (Bool × Unit)) : Env := envL [(68, mkE p68 r68 false f68), (69, mkE p69 r69 false f69), (67, mkE p67 r67 false f67)]
noncomputable def L28 (f68 : Place × Unit → Option (Bool × Unit)) (f69 : Place × Place × Unit → Option (Int × Unit)) (f67 : Int × Int × Int × Unit → Option (Bool × Unit)) : LEnv (densS (muts p28 ++ r28)) := lenv [(0, loopL (R := densS (muts p28 ++ r28)) q28_0 (s28_0 f68 f69 f67))]
theorem e28_0 (f68 : Place × Unit → Option (Bool × Unit)) (f69 : Place × Place × Unit → Option (Int × Unit)) (f67 : Int × Int × Int × Unit → Option (Bool × Unit)) (X : Nat → St → Option (densS (muts p28 ++ r28))) (rec K : densS q28_0 → Option (densS (muts p28 ++ r28))) (t : densS q28_0) :
    ev (E28 f68 f69 f67) tab (fun _ => false) (L28 f68 f69 f67) (retK tab p28 r28 Proofs.Try.f28.results.toList) (loopC Proofs.Try.f28 0) (fun i s => cond (Nat.beq i 0) (decK 100 q28_0 s K) (X i s)) (fun s => decK 100 q28_0 s rec) (enc q28_0 t) = s28_0 f68 f69 f67 t rec K := by kernel_rfl
theorem e28 (f68 : Place × Unit → Option (Bool × Unit)) (f69 : Place × Place × Unit → Option (Int × Unit)) (f67 : Int × Int × Int × Unit → Option (Bool × Unit)) (a : densS p28) : runF (E28 f68 f69 f67) tab (fun _ => false) p28 r28 Proofs.Try.f28 (L28 f68 f69 f67) a = F28 f68 f69 f67 a := by kernel_rfl
theorem ok28 {f68 : Place × Unit → Option (Bool × Unit)} {f69 : Place × Place × Unit → Option (Int × Unit)} {f67 : Int × Int × Int × Unit → Option (Bool × Unit)} (h68 : OK Proofs.Try.prog 68 (mkE p68 r68 false f68)) (h69 : OK Proofs.Try.prog 69 (mkE p69 r69 false f69)) (h67 : OK Proofs.Try.prog 67 (mkE p67 r67 false f67)) : OK Proofs.Try.prog 28 (mkE p28 r28 false (F28 f68 f69 f67)) :=
  fn_ok tab_ok (envL_ok (l := [(68, mkE p68 r68 false f68), (69, mkE p69 r69 false f69), (67, mkE p67 r67 false f67)]) (OKs.cons h68 (OKs.cons h69 (OKs.cons h67 OKs.nil)))) mixed (ann := (fun _ => false)) (L := L28 f68 f69 f67) (fn := Proofs.Try.f28) (c := bodyC Proofs.Try.f28) (ls := [(0, loopC Proofs.Try.f28 0)]) Proofs.Try.func28 (by kernel_rfl) (by kernel_rfl) (by kernel_rfl) (by kernel_rfl)
    (LoopsP.cons q28_0 (s28_0 f68 f69 f67) rfl (e28_0 f68 f69 f67) LoopsP.nil) (e28 f68 f69 f67)
/-! impl.IsBox -/
def p29 : List SP := [.t .box]
def r29 : List SP := [.one (.bool)]
noncomputable def F29 (f70 : Place × Unit → Option (Bool × Unit)) (a : Box × Unit) : Option (Bool × Unit) :=
  (f70 (a.1.Low, ())).bind fun x1 => cond x1.1 ((f70 (a.1.High, ())).bind fun x2 => cond x2.1 (cond (decide (a.1.Low.X ≤ a.1.High.X)) (some ((decide (a.1.Low.Y ≤ a.1.High.Y)), ())) (some (false, ()))) (some (false, ()))) (some (false, ()))
def E29 (f70 : Place × Unit → Option (Bool × Unit)) : Env := envL [(70, mkE p70 r70 false f70)]
noncomputable def L29 (f70 : Place × Unit → Option (Bool × Unit)) : LEnv (densS (muts p29 ++ r29)) := lenv []
theorem e29 (f70 : Place × Unit → Option (Bool × Unit)) (a : densS p29) : runF (E29 f70) tab (fun _ => false) p29 r29 Proofs.Try.f29 (L29 f70) a = F29 f70 a := by kernel_rfl
theorem ok29 {f70 : Place × Unit → Option (Bool × Unit)} (h70 : OK Proofs.Try.prog 70 (mkE p70 r70 false f70)) : OK Proofs.Try.prog 29 (mkE p29 r29 false (F29 f70)) :=
  fn_ok tab_ok (envL_ok (l := [(70, mkE p70 r70 false f70)]) (OKs.cons h70 OKs.nil)) mixed (ann := (fun _ => false)) (L := L29 f70) (fn := Proofs.Try.f29) (c := bodyC Proofs.Try.f29) (ls := []) Proofs.Try.func29 (by kernel_rfl) (by kernel_rfl) (by kernel_rfl) (by kernel_rfl)
    LoopsP.nil (e29 f70)
/-! impl.IsDesk -/
def p9 : List SP := [.agg [.r .device, .r .cue, .r .gust, .int .i64, .r .place, .int .i64, .int .i64, .int .i64, .int .i64]]
def r9 : List SP := [.one (.bool)]
noncomputable def F9 (f27 : (List Device × List Cue × List Gust × Int × Unit) × Unit → Option (Bool × Unit)) (f28 : List Place × Unit → Option (Bool × Unit)) (f29 : Box × Unit → Option (Bool × Unit)) (a : (List Device × List Cue × List Gust × Int × List Place × Int × Int × Int × Int × Unit) × Unit) : Option (Bool × Unit) :=
  (f27 ((a.1.1, a.1.2.1, a.1.2.2.1, a.1.2.2.2.1, ()), ())).bind fun x1 => cond x1.1 ((f28 (a.1.2.2.2.2.1, ())).bind fun x2 => cond x2.1 ((f29 ((⟨⟨a.1.2.2.2.2.2.1, a.1.2.2.2.2.2.2.1⟩, ⟨a.1.2.2.2.2.2.2.2.1, a.1.2.2.2.2.2.2.2.2.1⟩⟩ : Box), ())).bind fun x3 => some (x3.1, ())) (some (false, ()))) (some (false, ()))
def E9 (f27 : (List Device × List Cue × List Gust × Int × Unit) × Unit → Option (Bool × Unit)) (f28 : List Place × Unit → Option (Bool × Unit)) (f29 : Box × Unit → Option (Bool × Unit)) : Env := envL [(27, mkE p27 r27 false f27), (28, mkE p28 r28 false f28), (29, mkE p29 r29 false f29)]
noncomputable def L9 (f27 : (List Device × List Cue × List Gust × Int × Unit) × Unit → Option (Bool × Unit)) (f28 : List Place × Unit → Option (Bool × Unit)) (f29 : Box × Unit → Option (Bool × Unit)) : LEnv (densS (muts p9 ++ r9)) := lenv []
theorem e9 (f27 : (List Device × List Cue × List Gust × Int × Unit) × Unit → Option (Bool × Unit)) (f28 : List Place × Unit → Option (Bool × Unit)) (f29 : Box × Unit → Option (Bool × Unit)) (a : densS p9) : runF (E9 f27 f28 f29) tab (fun _ => false) p9 r9 Proofs.Try.f9 (L9 f27 f28 f29) a = F9 f27 f28 f29 a := by kernel_rfl
theorem ok9 {f27 : (List Device × List Cue × List Gust × Int × Unit) × Unit → Option (Bool × Unit)} {f28 : List Place × Unit → Option (Bool × Unit)} {f29 : Box × Unit → Option (Bool × Unit)} (h27 : OK Proofs.Try.prog 27 (mkE p27 r27 false f27)) (h28 : OK Proofs.Try.prog 28 (mkE p28 r28 false f28)) (h29 : OK Proofs.Try.prog 29 (mkE p29 r29 false f29)) : OK Proofs.Try.prog 9 (mkE p9 r9 false (F9 f27 f28 f29)) :=
  fn_ok tab_ok (envL_ok (l := [(27, mkE p27 r27 false f27), (28, mkE p28 r28 false f28), (29, mkE p29 r29 false f29)]) (OKs.cons h27 (OKs.cons h28 (OKs.cons h29 OKs.nil)))) mixed (ann := (fun _ => false)) (L := L9 f27 f28 f29) (fn := Proofs.Try.f9) (c := bodyC Proofs.Try.f9) (ls := []) Proofs.Try.func9 (by kernel_rfl) (by kernel_rfl) (by kernel_rfl) (by kernel_rfl)
    LoopsP.nil (e9 f27 f28 f29)
/-! laws.eqPlace -/
def p71 : List SP := [.t .place, .t .place]
def r71 : List SP := [.one (.bool)]
noncomputable def F71 (a : Place × Place × Unit) : Option (Bool × Unit) :=
  cond (!(decide (a.1.X = a.2.1.X))) (some (false, ())) (cond (!(decide (a.1.Y = a.2.1.Y))) (some (false, ())) (some (true, ())))
def E71 : Env := envL []
noncomputable def L71 : LEnv (densS (muts p71 ++ r71)) := lenv []
theorem e71 (a : densS p71) : runF (E71) tab (fun _ => false) p71 r71 Proofs.Try.f71 (L71) a = F71 a := by kernel_rfl
theorem ok71 : OK Proofs.Try.prog 71 (mkE p71 r71 false (F71)) :=
  fn_ok tab_ok (envL_ok (l := []) OKs.nil) mixed (ann := (fun _ => false)) (L := L71) (fn := Proofs.Try.f71) (c := bodyC Proofs.Try.f71) (ls := []) Proofs.Try.func71 (by kernel_rfl) (by kernel_rfl) (by kernel_rfl) (by kernel_rfl)
    LoopsP.nil (e71)
/-! laws.eqDevice -/
def p83 : List SP := [.t .device, .t .device]
def r83 : List SP := [.one (.bool)]
noncomputable def F83 (f71 : Place × Place × Unit → Option (Bool × Unit)) (a : Device × Device × Unit) : Option (Bool × Unit) :=
  cond (!decide (a.1.Name = a.2.1.Name)) (some (false, ())) (cond (!(decide (a.1.Kind = a.2.1.Kind))) (some (false, ())) (cond (!decide (a.1.Line = a.2.1.Line)) (some (false, ())) ((f71 (a.1.At, a.2.1.At, ())).bind fun x1 => cond (!x1.1) (some (false, ())) (cond (!(decide (a.1.Heading = a.2.1.Heading))) (some (false, ())) (cond (!(decide (a.1.Tilt = a.2.1.Tilt))) (some (false, ())) (cond (!(decide (a.1.Most = a.2.1.Most))) (some (false, ())) (some (true, ()))))))))
def E83 (f71 : Place × Place × Unit → Option (Bool × Unit)) : Env := envL [(71, mkE p71 r71 false f71)]
noncomputable def L83 (f71 : Place × Place × Unit → Option (Bool × Unit)) : LEnv (densS (muts p83 ++ r83)) := lenv []
theorem e83 (f71 : Place × Place × Unit → Option (Bool × Unit)) (a : densS p83) : runF (E83 f71) tab (fun _ => false) p83 r83 Proofs.Try.f83 (L83 f71) a = F83 f71 a := by kernel_rfl
theorem ok83 {f71 : Place × Place × Unit → Option (Bool × Unit)} (h71 : OK Proofs.Try.prog 71 (mkE p71 r71 false f71)) : OK Proofs.Try.prog 83 (mkE p83 r83 false (F83 f71)) :=
  fn_ok tab_ok (envL_ok (l := [(71, mkE p71 r71 false f71)]) (OKs.cons h71 OKs.nil)) mixed (ann := (fun _ => false)) (L := L83 f71) (fn := Proofs.Try.f83) (c := bodyC Proofs.Try.f83) (ls := []) Proofs.Try.func83 (by kernel_rfl) (by kernel_rfl) (by kernel_rfl) (by kernel_rfl)
    LoopsP.nil (e83 f71)
/-! laws.eqDeviceS -/
def p42 : List SP := [.one (.r .device), .one (.r .device)]
def r42 : List SP := [.one (.bool)]
def q42_0 : List SP := pat 27 0 [(0, .one (.r .device)), (1, .one (.r .device)), (5, .one (.int .i64))]
noncomputable def s42_0 (f83 : Device × Device × Unit → Option (Bool × Unit)) (t1 : List Device × List Device × Int × Unit) (rec K : List Device × List Device × Int × Unit → Option (Bool × Unit)) : Option (Bool × Unit) :=
  cond (decide (t1.2.2.1 < (Int.ofNat (List.length t1.1)))) (rdL t1.1 t1.2.2.1 fun d2 => rdL t1.2.1 t1.2.2.1 fun d3 => (f83 (d2, d3, ())).bind fun x4 => cond (!x4.1) (some (false, ())) (rec (t1.1, t1.2.1, (w64 (t1.2.2.1 + 1)), ()))) (K (t1.1, t1.2.1, t1.2.2.1, ()))
noncomputable def F42 (f83 : Device × Device × Unit → Option (Bool × Unit)) (a : List Device × List Device × Unit) : Option (Bool × Unit) :=
  cond (!(decide ((Int.ofNat (List.length a.1)) = (Int.ofNat (List.length a.2.1))))) (some (false, ())) (iterF (s42_0 f83) fuel (a.1, a.2.1, 0, ()) fun t5 => some (true, ()))
def E42 (f83 : Device × Device × Unit → Option (Bool × Unit)) : Env := envL [(83, mkE p83 r83 false f83)]
noncomputable def L42 (f83 : Device × Device × Unit → Option (Bool × Unit)) : LEnv (densS (muts p42 ++ r42)) := lenv [(0, loopL (R := densS (muts p42 ++ r42)) q42_0 (s42_0 f83))]
theorem e42_0 (f83 : Device × Device × Unit → Option (Bool × Unit)) (X : Nat → St → Option (densS (muts p42 ++ r42))) (rec K : densS q42_0 → Option (densS (muts p42 ++ r42))) (t : densS q42_0) :
    ev (E42 f83) tab (fun _ => false) (L42 f83) (retK tab p42 r42 Proofs.Try.f42.results.toList) (loopC Proofs.Try.f42 0) (fun i s => cond (Nat.beq i 0) (decK 100 q42_0 s K) (X i s)) (fun s => decK 100 q42_0 s rec) (enc q42_0 t) = s42_0 f83 t rec K := by kernel_rfl
theorem e42 (f83 : Device × Device × Unit → Option (Bool × Unit)) (a : densS p42) : runF (E42 f83) tab (fun _ => false) p42 r42 Proofs.Try.f42 (L42 f83) a = F42 f83 a := by kernel_rfl
theorem ok42 {f83 : Device × Device × Unit → Option (Bool × Unit)} (h83 : OK Proofs.Try.prog 83 (mkE p83 r83 false f83)) : OK Proofs.Try.prog 42 (mkE p42 r42 false (F42 f83)) :=
  fn_ok tab_ok (envL_ok (l := [(83, mkE p83 r83 false f83)]) (OKs.cons h83 OKs.nil)) mixed (ann := (fun _ => false)) (L := L42 f83) (fn := Proofs.Try.f42) (c := bodyC Proofs.Try.f42) (ls := [(0, loopC Proofs.Try.f42 0)]) Proofs.Try.func42 (by kernel_rfl) (by kernel_rfl) (by kernel_rfl) (by kernel_rfl)
    (LoopsP.cons q42_0 (s42_0 f83) rfl (e42_0 f83) LoopsP.nil) (e42 f83)
/-! laws.eqCue -/
def p84 : List SP := [.t .cue, .t .cue]
def r84 : List SP := [.one (.bool)]
noncomputable def F84 (a : Cue × Cue × Unit) : Option (Bool × Unit) :=
  cond (!(decide (a.1.Tick = a.2.1.Tick))) (some (false, ())) (cond (!decide (a.1.Name = a.2.1.Name)) (some (false, ())) (cond (!(decide (a.1.Level = a.2.1.Level))) (some (false, ())) (cond (!(decide (a.1.Ramp = a.2.1.Ramp))) (some (false, ())) (some (true, ())))))
def E84 : Env := envL []
noncomputable def L84 : LEnv (densS (muts p84 ++ r84)) := lenv []
theorem e84 (a : densS p84) : runF (E84) tab (fun _ => false) p84 r84 Proofs.Try.f84 (L84) a = F84 a := by kernel_rfl
theorem ok84 : OK Proofs.Try.prog 84 (mkE p84 r84 false (F84)) :=
  fn_ok tab_ok (envL_ok (l := []) OKs.nil) mixed (ann := (fun _ => false)) (L := L84) (fn := Proofs.Try.f84) (c := bodyC Proofs.Try.f84) (ls := []) Proofs.Try.func84 (by kernel_rfl) (by kernel_rfl) (by kernel_rfl) (by kernel_rfl)
    LoopsP.nil (e84)
/-! laws.eqCueS -/
def p43 : List SP := [.one (.r .cue), .one (.r .cue)]
def r43 : List SP := [.one (.bool)]
def q43_0 : List SP := pat 27 0 [(0, .one (.r .cue)), (1, .one (.r .cue)), (5, .one (.int .i64))]
noncomputable def s43_0 (f84 : Cue × Cue × Unit → Option (Bool × Unit)) (t1 : List Cue × List Cue × Int × Unit) (rec K : List Cue × List Cue × Int × Unit → Option (Bool × Unit)) : Option (Bool × Unit) :=
  cond (decide (t1.2.2.1 < (Int.ofNat (List.length t1.1)))) (rdL t1.1 t1.2.2.1 fun d2 => rdL t1.2.1 t1.2.2.1 fun d3 => (f84 (d2, d3, ())).bind fun x4 => cond (!x4.1) (some (false, ())) (rec (t1.1, t1.2.1, (w64 (t1.2.2.1 + 1)), ()))) (K (t1.1, t1.2.1, t1.2.2.1, ()))
noncomputable def F43 (f84 : Cue × Cue × Unit → Option (Bool × Unit)) (a : List Cue × List Cue × Unit) : Option (Bool × Unit) :=
  cond (!(decide ((Int.ofNat (List.length a.1)) = (Int.ofNat (List.length a.2.1))))) (some (false, ())) (iterF (s43_0 f84) fuel (a.1, a.2.1, 0, ()) fun t5 => some (true, ()))
def E43 (f84 : Cue × Cue × Unit → Option (Bool × Unit)) : Env := envL [(84, mkE p84 r84 false f84)]
noncomputable def L43 (f84 : Cue × Cue × Unit → Option (Bool × Unit)) : LEnv (densS (muts p43 ++ r43)) := lenv [(0, loopL (R := densS (muts p43 ++ r43)) q43_0 (s43_0 f84))]
theorem e43_0 (f84 : Cue × Cue × Unit → Option (Bool × Unit)) (X : Nat → St → Option (densS (muts p43 ++ r43))) (rec K : densS q43_0 → Option (densS (muts p43 ++ r43))) (t : densS q43_0) :
    ev (E43 f84) tab (fun _ => false) (L43 f84) (retK tab p43 r43 Proofs.Try.f43.results.toList) (loopC Proofs.Try.f43 0) (fun i s => cond (Nat.beq i 0) (decK 100 q43_0 s K) (X i s)) (fun s => decK 100 q43_0 s rec) (enc q43_0 t) = s43_0 f84 t rec K := by kernel_rfl
theorem e43 (f84 : Cue × Cue × Unit → Option (Bool × Unit)) (a : densS p43) : runF (E43 f84) tab (fun _ => false) p43 r43 Proofs.Try.f43 (L43 f84) a = F43 f84 a := by kernel_rfl
theorem ok43 {f84 : Cue × Cue × Unit → Option (Bool × Unit)} (h84 : OK Proofs.Try.prog 84 (mkE p84 r84 false f84)) : OK Proofs.Try.prog 43 (mkE p43 r43 false (F43 f84)) :=
  fn_ok tab_ok (envL_ok (l := [(84, mkE p84 r84 false f84)]) (OKs.cons h84 OKs.nil)) mixed (ann := (fun _ => false)) (L := L43 f84) (fn := Proofs.Try.f43) (c := bodyC Proofs.Try.f43) (ls := [(0, loopC Proofs.Try.f43 0)]) Proofs.Try.func43 (by kernel_rfl) (by kernel_rfl) (by kernel_rfl) (by kernel_rfl)
    (LoopsP.cons q43_0 (s43_0 f84) rfl (e43_0 f84) LoopsP.nil) (e43 f84)
/-! laws.eqGust -/
def p85 : List SP := [.t .gust, .t .gust]
def r85 : List SP := [.one (.bool)]
noncomputable def F85 (f71 : Place × Place × Unit → Option (Bool × Unit)) (a : Gust × Gust × Unit) : Option (Bool × Unit) :=
  cond (!(decide (a.1.From = a.2.1.From))) (some (false, ())) ((f71 (a.1.Drift, a.2.1.Drift, ())).bind fun x1 => cond (!x1.1) (some (false, ())) (some (true, ())))
def E85 (f71 : Place × Place × Unit → Option (Bool × Unit)) : Env := envL [(71, mkE p71 r71 false f71)]
noncomputable def L85 (f71 : Place × Place × Unit → Option (Bool × Unit)) : LEnv (densS (muts p85 ++ r85)) := lenv []
theorem e85 (f71 : Place × Place × Unit → Option (Bool × Unit)) (a : densS p85) : runF (E85 f71) tab (fun _ => false) p85 r85 Proofs.Try.f85 (L85 f71) a = F85 f71 a := by kernel_rfl
theorem ok85 {f71 : Place × Place × Unit → Option (Bool × Unit)} (h71 : OK Proofs.Try.prog 71 (mkE p71 r71 false f71)) : OK Proofs.Try.prog 85 (mkE p85 r85 false (F85 f71)) :=
  fn_ok tab_ok (envL_ok (l := [(71, mkE p71 r71 false f71)]) (OKs.cons h71 OKs.nil)) mixed (ann := (fun _ => false)) (L := L85 f71) (fn := Proofs.Try.f85) (c := bodyC Proofs.Try.f85) (ls := []) Proofs.Try.func85 (by kernel_rfl) (by kernel_rfl) (by kernel_rfl) (by kernel_rfl)
    LoopsP.nil (e85 f71)
/-! laws.eqGustS -/
def p44 : List SP := [.one (.r .gust), .one (.r .gust)]
def r44 : List SP := [.one (.bool)]
def q44_0 : List SP := pat 27 0 [(0, .one (.r .gust)), (1, .one (.r .gust)), (5, .one (.int .i64))]
noncomputable def s44_0 (f85 : Gust × Gust × Unit → Option (Bool × Unit)) (t1 : List Gust × List Gust × Int × Unit) (rec K : List Gust × List Gust × Int × Unit → Option (Bool × Unit)) : Option (Bool × Unit) :=
  cond (decide (t1.2.2.1 < (Int.ofNat (List.length t1.1)))) (rdL t1.1 t1.2.2.1 fun d2 => rdL t1.2.1 t1.2.2.1 fun d3 => (f85 (d2, d3, ())).bind fun x4 => cond (!x4.1) (some (false, ())) (rec (t1.1, t1.2.1, (w64 (t1.2.2.1 + 1)), ()))) (K (t1.1, t1.2.1, t1.2.2.1, ()))
noncomputable def F44 (f85 : Gust × Gust × Unit → Option (Bool × Unit)) (a : List Gust × List Gust × Unit) : Option (Bool × Unit) :=
  cond (!(decide ((Int.ofNat (List.length a.1)) = (Int.ofNat (List.length a.2.1))))) (some (false, ())) (iterF (s44_0 f85) fuel (a.1, a.2.1, 0, ()) fun t5 => some (true, ()))
def E44 (f85 : Gust × Gust × Unit → Option (Bool × Unit)) : Env := envL [(85, mkE p85 r85 false f85)]
noncomputable def L44 (f85 : Gust × Gust × Unit → Option (Bool × Unit)) : LEnv (densS (muts p44 ++ r44)) := lenv [(0, loopL (R := densS (muts p44 ++ r44)) q44_0 (s44_0 f85))]
theorem e44_0 (f85 : Gust × Gust × Unit → Option (Bool × Unit)) (X : Nat → St → Option (densS (muts p44 ++ r44))) (rec K : densS q44_0 → Option (densS (muts p44 ++ r44))) (t : densS q44_0) :
    ev (E44 f85) tab (fun _ => false) (L44 f85) (retK tab p44 r44 Proofs.Try.f44.results.toList) (loopC Proofs.Try.f44 0) (fun i s => cond (Nat.beq i 0) (decK 100 q44_0 s K) (X i s)) (fun s => decK 100 q44_0 s rec) (enc q44_0 t) = s44_0 f85 t rec K := by kernel_rfl
theorem e44 (f85 : Gust × Gust × Unit → Option (Bool × Unit)) (a : densS p44) : runF (E44 f85) tab (fun _ => false) p44 r44 Proofs.Try.f44 (L44 f85) a = F44 f85 a := by kernel_rfl
theorem ok44 {f85 : Gust × Gust × Unit → Option (Bool × Unit)} (h85 : OK Proofs.Try.prog 85 (mkE p85 r85 false f85)) : OK Proofs.Try.prog 44 (mkE p44 r44 false (F44 f85)) :=
  fn_ok tab_ok (envL_ok (l := [(85, mkE p85 r85 false f85)]) (OKs.cons h85 OKs.nil)) mixed (ann := (fun _ => false)) (L := L44 f85) (fn := Proofs.Try.f44) (c := bodyC Proofs.Try.f44) (ls := [(0, loopC Proofs.Try.f44 0)]) Proofs.Try.func44 (by kernel_rfl) (by kernel_rfl) (by kernel_rfl) (by kernel_rfl)
    (LoopsP.cons q44_0 (s44_0 f85) rfl (e44_0 f85) LoopsP.nil) (e44 f85)
/-! laws.eqShow -/
def p16 : List SP := [.agg [.r .device, .r .cue, .r .gust, .int .i64], .agg [.r .device, .r .cue, .r .gust, .int .i64]]
def r16 : List SP := [.one (.bool)]
noncomputable def F16 (f42 : List Device × List Device × Unit → Option (Bool × Unit)) (f43 : List Cue × List Cue × Unit → Option (Bool × Unit)) (f44 : List Gust × List Gust × Unit → Option (Bool × Unit)) (a : (List Device × List Cue × List Gust × Int × Unit) × (List Device × List Cue × List Gust × Int × Unit) × Unit) : Option (Bool × Unit) :=
  (f42 (a.1.1, a.2.1.1, ())).bind fun x1 => cond (!x1.1) (some (false, ())) ((f43 (a.1.2.1, a.2.1.2.1, ())).bind fun x2 => cond (!x2.1) (some (false, ())) ((f44 (a.1.2.2.1, a.2.1.2.2.1, ())).bind fun x3 => cond (!x3.1) (some (false, ())) (cond (!(decide (a.1.2.2.2.1 = a.2.1.2.2.2.1))) (some (false, ())) (some (true, ())))))
def E16 (f42 : List Device × List Device × Unit → Option (Bool × Unit)) (f43 : List Cue × List Cue × Unit → Option (Bool × Unit)) (f44 : List Gust × List Gust × Unit → Option (Bool × Unit)) : Env := envL [(42, mkE p42 r42 false f42), (43, mkE p43 r43 false f43), (44, mkE p44 r44 false f44)]
noncomputable def L16 (f42 : List Device × List Device × Unit → Option (Bool × Unit)) (f43 : List Cue × List Cue × Unit → Option (Bool × Unit)) (f44 : List Gust × List Gust × Unit → Option (Bool × Unit)) : LEnv (densS (muts p16 ++ r16)) := lenv []
theorem e16 (f42 : List Device × List Device × Unit → Option (Bool × Unit)) (f43 : List Cue × List Cue × Unit → Option (Bool × Unit)) (f44 : List Gust × List Gust × Unit → Option (Bool × Unit)) (a : densS p16) : runF (E16 f42 f43 f44) tab (fun _ => false) p16 r16 Proofs.Try.f16 (L16 f42 f43 f44) a = F16 f42 f43 f44 a := by kernel_rfl
theorem ok16 {f42 : List Device × List Device × Unit → Option (Bool × Unit)} {f43 : List Cue × List Cue × Unit → Option (Bool × Unit)} {f44 : List Gust × List Gust × Unit → Option (Bool × Unit)} (h42 : OK Proofs.Try.prog 42 (mkE p42 r42 false f42)) (h43 : OK Proofs.Try.prog 43 (mkE p43 r43 false f43)) (h44 : OK Proofs.Try.prog 44 (mkE p44 r44 false f44)) : OK Proofs.Try.prog 16 (mkE p16 r16 false (F16 f42 f43 f44)) :=
  fn_ok tab_ok (envL_ok (l := [(42, mkE p42 r42 false f42), (43, mkE p43 r43 false f43), (44, mkE p44 r44 false f44)]) (OKs.cons h42 (OKs.cons h43 (OKs.cons h44 OKs.nil)))) mixed (ann := (fun _ => false)) (L := L16 f42 f43 f44) (fn := Proofs.Try.f16) (c := bodyC Proofs.Try.f16) (ls := []) Proofs.Try.func16 (by kernel_rfl) (by kernel_rfl) (by kernel_rfl) (by kernel_rfl)
    LoopsP.nil (e16 f42 f43 f44)
/-! laws.eqPlaceS -/
def p30 : List SP := [.one (.r .place), .one (.r .place)]
def r30 : List SP := [.one (.bool)]
def q30_0 : List SP := pat 27 0 [(0, .one (.r .place)), (1, .one (.r .place)), (5, .one (.int .i64))]
noncomputable def s30_0 (f71 : Place × Place × Unit → Option (Bool × Unit)) (t1 : List Place × List Place × Int × Unit) (rec K : List Place × List Place × Int × Unit → Option (Bool × Unit)) : Option (Bool × Unit) :=
  cond (decide (t1.2.2.1 < (Int.ofNat (List.length t1.1)))) (rdL t1.1 t1.2.2.1 fun d2 => rdL t1.2.1 t1.2.2.1 fun d3 => (f71 (d2, d3, ())).bind fun x4 => cond (!x4.1) (some (false, ())) (rec (t1.1, t1.2.1, (w64 (t1.2.2.1 + 1)), ()))) (K (t1.1, t1.2.1, t1.2.2.1, ()))
noncomputable def F30 (f71 : Place × Place × Unit → Option (Bool × Unit)) (a : List Place × List Place × Unit) : Option (Bool × Unit) :=
  cond (!(decide ((Int.ofNat (List.length a.1)) = (Int.ofNat (List.length a.2.1))))) (some (false, ())) (iterF (s30_0 f71) fuel (a.1, a.2.1, 0, ()) fun t5 => some (true, ()))
def E30 (f71 : Place × Place × Unit → Option (Bool × Unit)) : Env := envL [(71, mkE p71 r71 false f71)]
noncomputable def L30 (f71 : Place × Place × Unit → Option (Bool × Unit)) : LEnv (densS (muts p30 ++ r30)) := lenv [(0, loopL (R := densS (muts p30 ++ r30)) q30_0 (s30_0 f71))]
theorem e30_0 (f71 : Place × Place × Unit → Option (Bool × Unit)) (X : Nat → St → Option (densS (muts p30 ++ r30))) (rec K : densS q30_0 → Option (densS (muts p30 ++ r30))) (t : densS q30_0) :
    ev (E30 f71) tab (fun _ => false) (L30 f71) (retK tab p30 r30 Proofs.Try.f30.results.toList) (loopC Proofs.Try.f30 0) (fun i s => cond (Nat.beq i 0) (decK 100 q30_0 s K) (X i s)) (fun s => decK 100 q30_0 s rec) (enc q30_0 t) = s30_0 f71 t rec K := by kernel_rfl
theorem e30 (f71 : Place × Place × Unit → Option (Bool × Unit)) (a : densS p30) : runF (E30 f71) tab (fun _ => false) p30 r30 Proofs.Try.f30 (L30 f71) a = F30 f71 a := by kernel_rfl
theorem ok30 {f71 : Place × Place × Unit → Option (Bool × Unit)} (h71 : OK Proofs.Try.prog 71 (mkE p71 r71 false f71)) : OK Proofs.Try.prog 30 (mkE p30 r30 false (F30 f71)) :=
  fn_ok tab_ok (envL_ok (l := [(71, mkE p71 r71 false f71)]) (OKs.cons h71 OKs.nil)) mixed (ann := (fun _ => false)) (L := L30 f71) (fn := Proofs.Try.f30) (c := bodyC Proofs.Try.f30) (ls := [(0, loopC Proofs.Try.f30 0)]) Proofs.Try.func30 (by kernel_rfl) (by kernel_rfl) (by kernel_rfl) (by kernel_rfl)
    (LoopsP.cons q30_0 (s30_0 f71) rfl (e30_0 f71) LoopsP.nil) (e30 f71)
/-! laws.eqBox -/
def p31 : List SP := [.t .box, .t .box]
def r31 : List SP := [.one (.bool)]
noncomputable def F31 (f71 : Place × Place × Unit → Option (Bool × Unit)) (a : Box × Box × Unit) : Option (Bool × Unit) :=
  (f71 (a.1.Low, a.2.1.Low, ())).bind fun x1 => cond (!x1.1) (some (false, ())) ((f71 (a.1.High, a.2.1.High, ())).bind fun x2 => cond (!x2.1) (some (false, ())) (some (true, ())))
def E31 (f71 : Place × Place × Unit → Option (Bool × Unit)) : Env := envL [(71, mkE p71 r71 false f71)]
noncomputable def L31 (f71 : Place × Place × Unit → Option (Bool × Unit)) : LEnv (densS (muts p31 ++ r31)) := lenv []
theorem e31 (f71 : Place × Place × Unit → Option (Bool × Unit)) (a : densS p31) : runF (E31 f71) tab (fun _ => false) p31 r31 Proofs.Try.f31 (L31 f71) a = F31 f71 a := by kernel_rfl
theorem ok31 {f71 : Place × Place × Unit → Option (Bool × Unit)} (h71 : OK Proofs.Try.prog 71 (mkE p71 r71 false f71)) : OK Proofs.Try.prog 31 (mkE p31 r31 false (F31 f71)) :=
  fn_ok tab_ok (envL_ok (l := [(71, mkE p71 r71 false f71)]) (OKs.cons h71 OKs.nil)) mixed (ann := (fun _ => false)) (L := L31 f71) (fn := Proofs.Try.f31) (c := bodyC Proofs.Try.f31) (ls := []) Proofs.Try.func31 (by kernel_rfl) (by kernel_rfl) (by kernel_rfl) (by kernel_rfl)
    LoopsP.nil (e31 f71)
/-! laws.eqDesk -/
def p10 : List SP := [.agg [.r .device, .r .cue, .r .gust, .int .i64, .r .place, .int .i64, .int .i64, .int .i64, .int .i64], .agg [.r .device, .r .cue, .r .gust, .int .i64, .r .place, .int .i64, .int .i64, .int .i64, .int .i64]]
def r10 : List SP := [.one (.bool)]
noncomputable def F10 (f16 : (List Device × List Cue × List Gust × Int × Unit) × (List Device × List Cue × List Gust × Int × Unit) × Unit → Option (Bool × Unit)) (f30 : List Place × List Place × Unit → Option (Bool × Unit)) (f31 : Box × Box × Unit → Option (Bool × Unit)) (a : (List Device × List Cue × List Gust × Int × List Place × Int × Int × Int × Int × Unit) × (List Device × List Cue × List Gust × Int × List Place × Int × Int × Int × Int × Unit) × Unit) : Option (Bool × Unit) :=
  (f16 ((a.1.1, a.1.2.1, a.1.2.2.1, a.1.2.2.2.1, ()), (a.2.1.1, a.2.1.2.1, a.2.1.2.2.1, a.2.1.2.2.2.1, ()), ())).bind fun x1 => cond (!x1.1) (some (false, ())) ((f30 (a.1.2.2.2.2.1, a.2.1.2.2.2.2.1, ())).bind fun x2 => cond (!x2.1) (some (false, ())) ((f31 ((⟨⟨a.1.2.2.2.2.2.1, a.1.2.2.2.2.2.2.1⟩, ⟨a.1.2.2.2.2.2.2.2.1, a.1.2.2.2.2.2.2.2.2.1⟩⟩ : Box), (⟨⟨a.2.1.2.2.2.2.2.1, a.2.1.2.2.2.2.2.2.1⟩, ⟨a.2.1.2.2.2.2.2.2.2.1, a.2.1.2.2.2.2.2.2.2.2.1⟩⟩ : Box), ())).bind fun x3 => cond (!x3.1) (some (false, ())) (some (true, ()))))
def E10 (f16 : (List Device × List Cue × List Gust × Int × Unit) × (List Device × List Cue × List Gust × Int × Unit) × Unit → Option (Bool × Unit)) (f30 : List Place × List Place × Unit → Option (Bool × Unit)) (f31 : Box × Box × Unit → Option (Bool × Unit)) : Env := envL [(16, mkE p16 r16 false f16), (30, mkE p30 r30 false f30), (31, mkE p31 r31 false f31)]
noncomputable def L10 (f16 : (List Device × List Cue × List Gust × Int × Unit) × (List Device × List Cue × List Gust × Int × Unit) × Unit → Option (Bool × Unit)) (f30 : List Place × List Place × Unit → Option (Bool × Unit)) (f31 : Box × Box × Unit → Option (Bool × Unit)) : LEnv (densS (muts p10 ++ r10)) := lenv []
theorem e10 (f16 : (List Device × List Cue × List Gust × Int × Unit) × (List Device × List Cue × List Gust × Int × Unit) × Unit → Option (Bool × Unit)) (f30 : List Place × List Place × Unit → Option (Bool × Unit)) (f31 : Box × Box × Unit → Option (Bool × Unit)) (a : densS p10) : runF (E10 f16 f30 f31) tab (fun _ => false) p10 r10 Proofs.Try.f10 (L10 f16 f30 f31) a = F10 f16 f30 f31 a := by kernel_rfl
theorem ok10 {f16 : (List Device × List Cue × List Gust × Int × Unit) × (List Device × List Cue × List Gust × Int × Unit) × Unit → Option (Bool × Unit)} {f30 : List Place × List Place × Unit → Option (Bool × Unit)} {f31 : Box × Box × Unit → Option (Bool × Unit)} (h16 : OK Proofs.Try.prog 16 (mkE p16 r16 false f16)) (h30 : OK Proofs.Try.prog 30 (mkE p30 r30 false f30)) (h31 : OK Proofs.Try.prog 31 (mkE p31 r31 false f31)) : OK Proofs.Try.prog 10 (mkE p10 r10 false (F10 f16 f30 f31)) :=
  fn_ok tab_ok (envL_ok (l := [(16, mkE p16 r16 false f16), (30, mkE p30 r30 false f30), (31, mkE p31 r31 false f31)]) (OKs.cons h16 (OKs.cons h30 (OKs.cons h31 OKs.nil)))) mixed (ann := (fun _ => false)) (L := L10 f16 f30 f31) (fn := Proofs.Try.f10) (c := bodyC Proofs.Try.f10) (ls := []) Proofs.Try.func10 (by kernel_rfl) (by kernel_rfl) (by kernel_rfl) (by kernel_rfl)
    LoopsP.nil (e10 f16 f30 f31)
/-! laws.FnExactIsDesk -/
def p3 : List SP := [.agg [.r .device, .r .cue, .r .gust, .int .i64, .r .place, .int .i64, .int .i64, .int .i64, .int .i64]]
def r3 : List SP := [.one (.bool)]
noncomputable def F3 (f6 : (List Device × List Cue × List Gust × Int × List Place × Int × Int × Int × Int × Unit) × Int × Unit → Option (Int × Unit)) (f8 : (List Device × List Cue × List Gust × Int × List Place × Int × Int × Int × Int × Unit) × Unit → Option ((List Device × List Cue × List Gust × Int × List Place × Int × Int × Int × Int × Unit) × Unit)) (f7 : (List Device × List Cue × List Gust × Int × List Place × Int × Int × Int × Int × Unit) × Unit → Option (Bool × Unit)) (f9 : (List Device × List Cue × List Gust × Int × List Place × Int × Int × Int × Int × Unit) × Unit → Option (Bool × Unit)) (f10 : (List Device × List Cue × List Gust × Int × List Place × Int × Int × Int × Int × Unit) × (List Device × List Cue × List Gust × Int × List Place × Int × Int × Int × Int × Unit) × Unit → Option (Bool × Unit)) (a : (List Device × List Cue × List Gust × Int × List Place × Int × Int × Int × Int × Unit) × Unit) : Option (Bool × Unit) :=
  (f6 ((a.1.1, a.1.2.1, a.1.2.2.1, a.1.2.2.2.1, a.1.2.2.2.2.1, a.1.2.2.2.2.2.1, a.1.2.2.2.2.2.2.1, a.1.2.2.2.2.2.2.2.1, a.1.2.2.2.2.2.2.2.2.1, ()), 1048576, ())).bind fun x1 => cond (decide (x1.1 < 0)) (some (true, ())) ((f8 ((a.1.1, a.1.2.1, a.1.2.2.1, a.1.2.2.2.1, a.1.2.2.2.2.1, a.1.2.2.2.2.2.1, a.1.2.2.2.2.2.2.1, a.1.2.2.2.2.2.2.2.1, a.1.2.2.2.2.2.2.2.2.1, ()), ())).bind fun x2 => (f7 ((x2.1.1, x2.1.2.1, x2.1.2.2.1, x2.1.2.2.2.1, x2.1.2.2.2.2.1, x2.1.2.2.2.2.2.1, x2.1.2.2.2.2.2.2.1, x2.1.2.2.2.2.2.2.2.1, x2.1.2.2.2.2.2.2.2.2.1, ()), ())).bind fun x3 => (f8 ((a.1.1, a.1.2.1, a.1.2.2.1, a.1.2.2.2.1, a.1.2.2.2.2.1, a.1.2.2.2.2.2.1, a.1.2.2.2.2.2.2.1, a.1.2.2.2.2.2.2.2.1, a.1.2.2.2.2.2.2.2.2.1, ()), ())).bind fun x4 => (f9 ((x4.1.1, x4.1.2.1, x4.1.2.2.1, x4.1.2.2.2.1, x4.1.2.2.2.2.1, x4.1.2.2.2.2.2.1, x4.1.2.2.2.2.2.2.1, x4.1.2.2.2.2.2.2.2.1, x4.1.2.2.2.2.2.2.2.2.1, ()), ())).bind fun x5 => cond (!(decide (x5.1 = x3.1))) (some (false, ())) ((f8 ((a.1.1, a.1.2.1, a.1.2.2.1, a.1.2.2.2.1, a.1.2.2.2.2.1, a.1.2.2.2.2.2.1, a.1.2.2.2.2.2.2.1, a.1.2.2.2.2.2.2.2.1, a.1.2.2.2.2.2.2.2.2.1, ()), ())).bind fun x6 => (f10 ((x4.1.1, x4.1.2.1, x4.1.2.2.1, x4.1.2.2.2.1, x4.1.2.2.2.2.1, x4.1.2.2.2.2.2.1, x4.1.2.2.2.2.2.2.1, x4.1.2.2.2.2.2.2.2.1, x4.1.2.2.2.2.2.2.2.2.1, ()), (x6.1.1, x6.1.2.1, x6.1.2.2.1, x6.1.2.2.2.1, x6.1.2.2.2.2.1, x6.1.2.2.2.2.2.1, x6.1.2.2.2.2.2.2.1, x6.1.2.2.2.2.2.2.2.1, x6.1.2.2.2.2.2.2.2.2.1, ()), ())).bind fun x7 => cond (!x7.1) (some (false, ())) (some (true, ()))))
def E3 (f6 : (List Device × List Cue × List Gust × Int × List Place × Int × Int × Int × Int × Unit) × Int × Unit → Option (Int × Unit)) (f8 : (List Device × List Cue × List Gust × Int × List Place × Int × Int × Int × Int × Unit) × Unit → Option ((List Device × List Cue × List Gust × Int × List Place × Int × Int × Int × Int × Unit) × Unit)) (f7 : (List Device × List Cue × List Gust × Int × List Place × Int × Int × Int × Int × Unit) × Unit → Option (Bool × Unit)) (f9 : (List Device × List Cue × List Gust × Int × List Place × Int × Int × Int × Int × Unit) × Unit → Option (Bool × Unit)) (f10 : (List Device × List Cue × List Gust × Int × List Place × Int × Int × Int × Int × Unit) × (List Device × List Cue × List Gust × Int × List Place × Int × Int × Int × Int × Unit) × Unit → Option (Bool × Unit)) : Env := envL [(6, mkE p6 r6 false f6), (8, mkE p8 r8 false f8), (7, mkE p7 r7 false f7), (9, mkE p9 r9 false f9), (10, mkE p10 r10 false f10)]
noncomputable def L3 (f6 : (List Device × List Cue × List Gust × Int × List Place × Int × Int × Int × Int × Unit) × Int × Unit → Option (Int × Unit)) (f8 : (List Device × List Cue × List Gust × Int × List Place × Int × Int × Int × Int × Unit) × Unit → Option ((List Device × List Cue × List Gust × Int × List Place × Int × Int × Int × Int × Unit) × Unit)) (f7 : (List Device × List Cue × List Gust × Int × List Place × Int × Int × Int × Int × Unit) × Unit → Option (Bool × Unit)) (f9 : (List Device × List Cue × List Gust × Int × List Place × Int × Int × Int × Int × Unit) × Unit → Option (Bool × Unit)) (f10 : (List Device × List Cue × List Gust × Int × List Place × Int × Int × Int × Int × Unit) × (List Device × List Cue × List Gust × Int × List Place × Int × Int × Int × Int × Unit) × Unit → Option (Bool × Unit)) : LEnv (densS (muts p3 ++ r3)) := lenv []
theorem e3 (f6 : (List Device × List Cue × List Gust × Int × List Place × Int × Int × Int × Int × Unit) × Int × Unit → Option (Int × Unit)) (f8 : (List Device × List Cue × List Gust × Int × List Place × Int × Int × Int × Int × Unit) × Unit → Option ((List Device × List Cue × List Gust × Int × List Place × Int × Int × Int × Int × Unit) × Unit)) (f7 : (List Device × List Cue × List Gust × Int × List Place × Int × Int × Int × Int × Unit) × Unit → Option (Bool × Unit)) (f9 : (List Device × List Cue × List Gust × Int × List Place × Int × Int × Int × Int × Unit) × Unit → Option (Bool × Unit)) (f10 : (List Device × List Cue × List Gust × Int × List Place × Int × Int × Int × Int × Unit) × (List Device × List Cue × List Gust × Int × List Place × Int × Int × Int × Int × Unit) × Unit → Option (Bool × Unit)) (a : densS p3) : runF (E3 f6 f8 f7 f9 f10) tab (fun _ => false) p3 r3 Proofs.Try.f3 (L3 f6 f8 f7 f9 f10) a = F3 f6 f8 f7 f9 f10 a := by kernel_rfl
theorem ok3 {f6 : (List Device × List Cue × List Gust × Int × List Place × Int × Int × Int × Int × Unit) × Int × Unit → Option (Int × Unit)} {f8 : (List Device × List Cue × List Gust × Int × List Place × Int × Int × Int × Int × Unit) × Unit → Option ((List Device × List Cue × List Gust × Int × List Place × Int × Int × Int × Int × Unit) × Unit)} {f7 : (List Device × List Cue × List Gust × Int × List Place × Int × Int × Int × Int × Unit) × Unit → Option (Bool × Unit)} {f9 : (List Device × List Cue × List Gust × Int × List Place × Int × Int × Int × Int × Unit) × Unit → Option (Bool × Unit)} {f10 : (List Device × List Cue × List Gust × Int × List Place × Int × Int × Int × Int × Unit) × (List Device × List Cue × List Gust × Int × List Place × Int × Int × Int × Int × Unit) × Unit → Option (Bool × Unit)} (h6 : OK Proofs.Try.prog 6 (mkE p6 r6 false f6)) (h8 : OK Proofs.Try.prog 8 (mkE p8 r8 false f8)) (h7 : OK Proofs.Try.prog 7 (mkE p7 r7 false f7)) (h9 : OK Proofs.Try.prog 9 (mkE p9 r9 false f9)) (h10 : OK Proofs.Try.prog 10 (mkE p10 r10 false f10)) : OK Proofs.Try.prog 3 (mkE p3 r3 false (F3 f6 f8 f7 f9 f10)) :=
  fn_ok tab_ok (envL_ok (l := [(6, mkE p6 r6 false f6), (8, mkE p8 r8 false f8), (7, mkE p7 r7 false f7), (9, mkE p9 r9 false f9), (10, mkE p10 r10 false f10)]) (OKs.cons h6 (OKs.cons h8 (OKs.cons h7 (OKs.cons h9 (OKs.cons h10 OKs.nil)))))) mixed (ann := (fun _ => false)) (L := L3 f6 f8 f7 f9 f10) (fn := Proofs.Try.f3) (c := bodyC Proofs.Try.f3) (ls := []) Proofs.Try.func3 (by kernel_rfl) (by kernel_rfl) (by kernel_rfl) (by kernel_rfl)
    LoopsP.nil (e3 f6 f8 f7 f9 f10)
/-! spec.l2Mod -/
def p107 : List SP := [.one (.int .i64)]
def r107 : List SP := [.one (.int .i64)]
noncomputable def F107 (a : Int × Unit) : Option (Int × Unit) :=
  cond (decide ((Int.tmod a.1 4) < 0)) (some ((w64 ((Int.tmod a.1 4) + 4)), ())) (some ((Int.tmod a.1 4), ()))
def E107 : Env := envL []
noncomputable def L107 : LEnv (densS (muts p107 ++ r107)) := lenv []
theorem e107 (a : densS p107) : runF (E107) tab (fun _ => false) p107 r107 Proofs.Try.f107 (L107) a = F107 a := by kernel_rfl
theorem ok107 : OK Proofs.Try.prog 107 (mkE p107 r107 false (F107)) :=
  fn_ok tab_ok (envL_ok (l := []) OKs.nil) mixed (ann := (fun _ => false)) (L := L107) (fn := Proofs.Try.f107) (c := bodyC Proofs.Try.f107) (ls := []) Proofs.Try.func107 (by kernel_rfl) (by kernel_rfl) (by kernel_rfl) (by kernel_rfl)
    LoopsP.nil (e107)
/-! spec.l2Turn -/
def p87 : List SP := [.t .place, .one (.int .i64)]
def r87 : List SP := [.t .place]
def q87_0 : List SP := pat 19 0 [(2, .boxt 5000001 .place), (4, .boxt 5000002 .place), (5, .one (.int .i64))]
noncomputable def s87_0 (f107 : Int × Unit → Option (Int × Unit)) (t2 : Place × Place × Int × Unit) (rec K : Place × Place × Int × Unit → Option (Place × Unit)) : Option (Place × Unit) :=
  cond (decide (t2.2.2.1 > 0)) (rec ((⟨(w64 (0 - t2.1.Y)), t2.1.X⟩ : Place), t2.2.1, (w64 (t2.2.2.1 - 1)), ())) (K (t2.1, t2.2.1, t2.2.2.1, ()))
noncomputable def F87 (f107 : Int × Unit → Option (Int × Unit)) (a : Place × Int × Unit) : Option (Place × Unit) :=
  (f107 (a.2.1, ())).bind fun x1 => iterF (s87_0 f107) fuel (a.1, (⟨0, 0⟩ : Place), x1.1, ()) fun t3 => some (t3.1, ())
def E87 (f107 : Int × Unit → Option (Int × Unit)) : Env := envL [(107, mkE p107 r107 false f107)]
noncomputable def L87 (f107 : Int × Unit → Option (Int × Unit)) : LEnv (densS (muts p87 ++ r87)) := lenv [(0, loopL (R := densS (muts p87 ++ r87)) q87_0 (s87_0 f107))]
theorem e87_0 (f107 : Int × Unit → Option (Int × Unit)) (X : Nat → St → Option (densS (muts p87 ++ r87))) (rec K : densS q87_0 → Option (densS (muts p87 ++ r87))) (t : densS q87_0) :
    ev (E87 f107) tab (fun _ => false) (L87 f107) (retK tab p87 r87 Proofs.Try.f87.results.toList) (loopC Proofs.Try.f87 0) (fun i s => cond (Nat.beq i 0) (decK 100 q87_0 s K) (X i s)) (fun s => decK 100 q87_0 s rec) (enc q87_0 t) = s87_0 f107 t rec K := by kernel_rfl
theorem e87 (f107 : Int × Unit → Option (Int × Unit)) (a : densS p87) : runF (E87 f107) tab (fun _ => false) p87 r87 Proofs.Try.f87 (L87 f107) a = F87 f107 a := by kernel_rfl
theorem ok87 {f107 : Int × Unit → Option (Int × Unit)} (h107 : OK Proofs.Try.prog 107 (mkE p107 r107 false f107)) : OK Proofs.Try.prog 87 (mkE p87 r87 false (F87 f107)) :=
  fn_ok tab_ok (envL_ok (l := [(107, mkE p107 r107 false f107)]) (OKs.cons h107 OKs.nil)) mixed (ann := (fun _ => false)) (L := L87 f107) (fn := Proofs.Try.f87) (c := bodyC Proofs.Try.f87) (ls := [(0, loopC Proofs.Try.f87 0)]) Proofs.Try.func87 (by kernel_rfl) (by kernel_rfl) (by kernel_rfl) (by kernel_rfl)
    (LoopsP.cons q87_0 (s87_0 f107) rfl (e87_0 f107) LoopsP.nil) (e87 f107)
/-! spec.l2Add -/
def p101 : List SP := [.t .place, .t .place]
def r101 : List SP := [.t .place]
noncomputable def F101 (a : Place × Place × Unit) : Option (Place × Unit) :=
  some ((⟨(w64 (a.1.X + a.2.1.X)), (w64 (a.1.Y + a.2.1.Y))⟩ : Place), ())
def E101 : Env := envL []
noncomputable def L101 : LEnv (densS (muts p101 ++ r101)) := lenv []
theorem e101 (a : densS p101) : runF (E101) tab (fun _ => false) p101 r101 Proofs.Try.f101 (L101) a = F101 a := by kernel_rfl
theorem ok101 : OK Proofs.Try.prog 101 (mkE p101 r101 false (F101)) :=
  fn_ok tab_ok (envL_ok (l := []) OKs.nil) mixed (ann := (fun _ => false)) (L := L101) (fn := Proofs.Try.f101) (c := bodyC Proofs.Try.f101) (ls := []) Proofs.Try.func101 (by kernel_rfl) (by kernel_rfl) (by kernel_rfl) (by kernel_rfl)
    LoopsP.nil (e101)
/-! spec.TurnHeading -/
def p102 : List SP := [.one (.int .i64), .one (.int .i64)]
def r102 : List SP := [.one (.int .i64)]
noncomputable def F102 (f117 : Int × Unit → Option (Bool × Unit)) (f107 : Int × Unit → Option (Int × Unit)) (a : Int × Int × Unit) : Option (Int × Unit) :=
  (f117 (a.1, ())).bind fun x1 => cond (!x1.1) (some (0, ())) ((f107 (a.2.1, ())).bind fun x2 => (f107 ((w64 (a.1 + x2.1)), ())).bind fun x3 => some (x3.1, ()))
def E102 (f117 : Int × Unit → Option (Bool × Unit)) (f107 : Int × Unit → Option (Int × Unit)) : Env := envL [(117, mkE p117 r117 false f117), (107, mkE p107 r107 false f107)]
noncomputable def L102 (f117 : Int × Unit → Option (Bool × Unit)) (f107 : Int × Unit → Option (Int × Unit)) : LEnv (densS (muts p102 ++ r102)) := lenv []
theorem e102 (f117 : Int × Unit → Option (Bool × Unit)) (f107 : Int × Unit → Option (Int × Unit)) (a : densS p102) : runF (E102 f117 f107) tab (fun _ => false) p102 r102 Proofs.Try.f102 (L102 f117 f107) a = F102 f117 f107 a := by kernel_rfl
theorem ok102 {f117 : Int × Unit → Option (Bool × Unit)} {f107 : Int × Unit → Option (Int × Unit)} (h117 : OK Proofs.Try.prog 117 (mkE p117 r117 false f117)) (h107 : OK Proofs.Try.prog 107 (mkE p107 r107 false f107)) : OK Proofs.Try.prog 102 (mkE p102 r102 false (F102 f117 f107)) :=
  fn_ok tab_ok (envL_ok (l := [(117, mkE p117 r117 false f117), (107, mkE p107 r107 false f107)]) (OKs.cons h117 (OKs.cons h107 OKs.nil))) mixed (ann := (fun _ => false)) (L := L102 f117 f107) (fn := Proofs.Try.f102) (c := bodyC Proofs.Try.f102) (ls := []) Proofs.Try.func102 (by kernel_rfl) (by kernel_rfl) (by kernel_rfl) (by kernel_rfl)
    LoopsP.nil (e102 f117 f107)
/-! spec.l6Moved -/
def p74 : List SP := [.one (.r .device), .one (.int .i64), .t .place]
def r74 : List SP := [.one (.o 0 .device), .one (.bool)]
def q74_0 : List SP := pat 46 0 [(1, .one (.int .i64)), (5, .boxt 5000001 .place), (8, .one (.o 5000002 .device)), (12, .one (.r .device)), (13, .one (.int .i64)), (14, .one (.int .i64))]
noncomputable def s74_0 (f87 : Place × Int × Unit → Option (Place × Unit)) (f101 : Place × Place × Unit → Option (Place × Unit)) (f102 : Int × Int × Unit → Option (Int × Unit)) (f90 : Device × Unit → Option (Bool × Unit)) (t1 : Int × Place × List Device × List Device × Int × Int × Unit) (rec K : Int × Place × List Device × List Device × Int × Int × Unit → Option (List Device × Bool × Unit)) : Option (List Device × Bool × Unit) :=
  cond (decide (t1.2.2.2.2.2.1 < t1.2.2.2.2.1)) (rdL t1.2.2.2.1 t1.2.2.2.2.2.1 fun d2 => cond (!(decide (d2.Kind = 1))) ((f87 (d2.At, t1.1, ())).bind fun x3 => (f101 (x3.1, t1.2.1, ())).bind fun x4 => cond (decide (d2.Kind = 2)) ((f102 (d2.Heading, t1.1, ())).bind fun x5 => (f90 ((⟨d2.Name, d2.Kind, d2.Line, ⟨x4.1.X, x4.1.Y⟩, x5.1, d2.Tilt, d2.Most⟩ : Device), ())).bind fun x6 => cond (!x6.1) (some (([] : List Device), false, ())) (capK (List.length t1.2.2.1 + List.length ([(⟨d2.Name, d2.Kind, d2.Line, ⟨x4.1.X, x4.1.Y⟩, x5.1, d2.Tilt, d2.Most⟩ : Device)] : List Device)) (rec (t1.1, t1.2.1, (t1.2.2.1 ++ ([(⟨d2.Name, d2.Kind, d2.Line, ⟨x4.1.X, x4.1.Y⟩, x5.1, d2.Tilt, d2.Most⟩ : Device)] : List Device)), t1.2.2.2.1, t1.2.2.2.2.1, (w64 (t1.2.2.2.2.2.1 + 1)), ())))) ((f90 ((⟨d2.Name, d2.Kind, d2.Line, ⟨x4.1.X, x4.1.Y⟩, d2.Heading, d2.Tilt, d2.Most⟩ : Device), ())).bind fun x7 => cond (!x7.1) (some (([] : List Device), false, ())) (capK (List.length t1.2.2.1 + List.length ([(⟨d2.Name, d2.Kind, d2.Line, ⟨x4.1.X, x4.1.Y⟩, d2.Heading, d2.Tilt, d2.Most⟩ : Device)] : List Device)) (rec (t1.1, t1.2.1, (t1.2.2.1 ++ ([(⟨d2.Name, d2.Kind, d2.Line, ⟨x4.1.X, x4.1.Y⟩, d2.Heading, d2.Tilt, d2.Most⟩ : Device)] : List Device)), t1.2.2.2.1, t1.2.2.2.2.1, (w64 (t1.2.2.2.2.2.1 + 1)), ()))))) (cond (decide (d2.Kind = 2)) ((f102 (d2.Heading, t1.1, ())).bind fun x8 => (f90 ((⟨d2.Name, d2.Kind, d2.Line, ⟨d2.At.X, d2.At.Y⟩, x8.1, d2.Tilt, d2.Most⟩ : Device), ())).bind fun x9 => cond (!x9.1) (some (([] : List Device), false, ())) (capK (List.length t1.2.2.1 + List.length ([(⟨d2.Name, d2.Kind, d2.Line, ⟨d2.At.X, d2.At.Y⟩, x8.1, d2.Tilt, d2.Most⟩ : Device)] : List Device)) (rec (t1.1, t1.2.1, (t1.2.2.1 ++ ([(⟨d2.Name, d2.Kind, d2.Line, ⟨d2.At.X, d2.At.Y⟩, x8.1, d2.Tilt, d2.Most⟩ : Device)] : List Device)), t1.2.2.2.1, t1.2.2.2.2.1, (w64 (t1.2.2.2.2.2.1 + 1)), ())))) ((f90 (d2, ())).bind fun x10 => cond (!x10.1) (some (([] : List Device), false, ())) (capK (List.length t1.2.2.1 + List.length ([d2] : List Device)) (rec (t1.1, t1.2.1, (t1.2.2.1 ++ ([d2] : List Device)), t1.2.2.2.1, t1.2.2.2.2.1, (w64 (t1.2.2.2.2.2.1 + 1)), ())))))) (K (t1.1, t1.2.1, t1.2.2.1, t1.2.2.2.1, t1.2.2.2.2.1, t1.2.2.2.2.2.1, ()))
noncomputable def F74 (f87 : Place × Int × Unit → Option (Place × Unit)) (f101 : Place × Place × Unit → Option (Place × Unit)) (f102 : Int × Int × Unit → Option (Int × Unit)) (f90 : Device × Unit → Option (Bool × Unit)) (a : List Device × Int × Place × Unit) : Option (List Device × Bool × Unit) :=
  iterF (s74_0 f87 f101 f102 f90) fuel (a.2.1, a.2.2.1, ([] : List Device), a.1, (Int.ofNat (List.length a.1)), 0, ()) fun t11 => some (t11.2.2.1, true, ())
def E74 (f87 : Place × Int × Unit → Option (Place × Unit)) (f101 : Place × Place × Unit → Option (Place × Unit)) (f102 : Int × Int × Unit → Option (Int × Unit)) (f90 : Device × Unit → Option (Bool × Unit)) : Env := envL [(87, mkE p87 r87 false f87), (101, mkE p101 r101 false f101), (102, mkE p102 r102 false f102), (90, mkE p90 r90 false f90)]
noncomputable def L74 (f87 : Place × Int × Unit → Option (Place × Unit)) (f101 : Place × Place × Unit → Option (Place × Unit)) (f102 : Int × Int × Unit → Option (Int × Unit)) (f90 : Device × Unit → Option (Bool × Unit)) : LEnv (densS (muts p74 ++ r74)) := lenv [(0, loopL (R := densS (muts p74 ++ r74)) q74_0 (s74_0 f87 f101 f102 f90))]
theorem e74_0 (f87 : Place × Int × Unit → Option (Place × Unit)) (f101 : Place × Place × Unit → Option (Place × Unit)) (f102 : Int × Int × Unit → Option (Int × Unit)) (f90 : Device × Unit → Option (Bool × Unit)) (X : Nat → St → Option (densS (muts p74 ++ r74))) (rec K : densS q74_0 → Option (densS (muts p74 ++ r74))) (t : densS q74_0) :
    ev (E74 f87 f101 f102 f90) tab (fun _ => false) (L74 f87 f101 f102 f90) (retK tab p74 r74 Proofs.Try.f74.results.toList) (loopC Proofs.Try.f74 0) (fun i s => cond (Nat.beq i 0) (decK 100 q74_0 s K) (X i s)) (fun s => decK 100 q74_0 s rec) (enc q74_0 t) = s74_0 f87 f101 f102 f90 t rec K := by kernel_rfl
theorem e74 (f87 : Place × Int × Unit → Option (Place × Unit)) (f101 : Place × Place × Unit → Option (Place × Unit)) (f102 : Int × Int × Unit → Option (Int × Unit)) (f90 : Device × Unit → Option (Bool × Unit)) (a : densS p74) : runF (E74 f87 f101 f102 f90) tab (fun _ => false) p74 r74 Proofs.Try.f74 (L74 f87 f101 f102 f90) a = F74 f87 f101 f102 f90 a := by kernel_rfl
theorem ok74 {f87 : Place × Int × Unit → Option (Place × Unit)} {f101 : Place × Place × Unit → Option (Place × Unit)} {f102 : Int × Int × Unit → Option (Int × Unit)} {f90 : Device × Unit → Option (Bool × Unit)} (h87 : OK Proofs.Try.prog 87 (mkE p87 r87 false f87)) (h101 : OK Proofs.Try.prog 101 (mkE p101 r101 false f101)) (h102 : OK Proofs.Try.prog 102 (mkE p102 r102 false f102)) (h90 : OK Proofs.Try.prog 90 (mkE p90 r90 false f90)) : OK Proofs.Try.prog 74 (mkE p74 r74 false (F74 f87 f101 f102 f90)) :=
  fn_ok tab_ok (envL_ok (l := [(87, mkE p87 r87 false f87), (101, mkE p101 r101 false f101), (102, mkE p102 r102 false f102), (90, mkE p90 r90 false f90)]) (OKs.cons h87 (OKs.cons h101 (OKs.cons h102 (OKs.cons h90 OKs.nil))))) mixed (ann := (fun _ => false)) (L := L74 f87 f101 f102 f90) (fn := Proofs.Try.f74) (c := bodyC Proofs.Try.f74) (ls := [(0, loopC Proofs.Try.f74 0)]) Proofs.Try.func74 (by kernel_rfl) (by kernel_rfl) (by kernel_rfl) (by kernel_rfl)
    (LoopsP.cons q74_0 (s74_0 f87 f101 f102 f90) rfl (e74_0 f87 f101 f102 f90) LoopsP.nil) (e74 f87 f101 f102 f90)
/-! spec.TurnRig -/
def p51 : List SP := [.one (.r .device), .one (.int .i64)]
def r51 : List SP := [.one (.o 0 .device)]
noncomputable def F51 (f57 : List Device × Unit → Option (Bool × Unit)) (f74 : List Device × Int × Place × Unit → Option (List Device × Bool × Unit)) (a : List Device × Int × Unit) : Option (List Device × Unit) :=
  (f57 (a.1, ())).bind fun x1 => cond (!x1.1) (some (([] : List Device), ())) ((f74 (a.1, a.2.1, (⟨0, 0⟩ : Place), ())).bind fun x2 => some (x2.1, ()))
def E51 (f57 : List Device × Unit → Option (Bool × Unit)) (f74 : List Device × Int × Place × Unit → Option (List Device × Bool × Unit)) : Env := envL [(57, mkE p57 r57 false f57), (74, mkE p74 r74 false f74)]
noncomputable def L51 (f57 : List Device × Unit → Option (Bool × Unit)) (f74 : List Device × Int × Place × Unit → Option (List Device × Bool × Unit)) : LEnv (densS (muts p51 ++ r51)) := lenv []
theorem e51 (f57 : List Device × Unit → Option (Bool × Unit)) (f74 : List Device × Int × Place × Unit → Option (List Device × Bool × Unit)) (a : densS p51) : runF (E51 f57 f74) tab (fun _ => false) p51 r51 Proofs.Try.f51 (L51 f57 f74) a = F51 f57 f74 a := by kernel_rfl
theorem ok51 {f57 : List Device × Unit → Option (Bool × Unit)} {f74 : List Device × Int × Place × Unit → Option (List Device × Bool × Unit)} (h57 : OK Proofs.Try.prog 57 (mkE p57 r57 false f57)) (h74 : OK Proofs.Try.prog 74 (mkE p74 r74 false f74)) : OK Proofs.Try.prog 51 (mkE p51 r51 false (F51 f57 f74)) :=
  fn_ok tab_ok (envL_ok (l := [(57, mkE p57 r57 false f57), (74, mkE p74 r74 false f74)]) (OKs.cons h57 (OKs.cons h74 OKs.nil))) mixed (ann := (fun _ => false)) (L := L51 f57 f74) (fn := Proofs.Try.f51) (c := bodyC Proofs.Try.f51) (ls := []) Proofs.Try.func51 (by kernel_rfl) (by kernel_rfl) (by kernel_rfl) (by kernel_rfl)
    LoopsP.nil (e51 f57 f74)
/-! spec.l7Copies -/
def p52 : List SP := [.one (.r .cue)]
def r52 : List SP := [.one (.o 0 .cue)]
noncomputable def F52 (a : List Cue × Unit) : Option (List Cue × Unit) :=
  capK (List.length ([] : List Cue) + List.length a.1) (some ((([] : List Cue) ++ a.1), ()))
def E52 : Env := envL []
noncomputable def L52 : LEnv (densS (muts p52 ++ r52)) := lenv []
theorem e52 (a : densS p52) : runF (E52) tab (fun _ => false) p52 r52 Proofs.Try.f52 (L52) a = F52 a := by kernel_rfl
theorem ok52 : OK Proofs.Try.prog 52 (mkE p52 r52 false (F52)) :=
  fn_ok tab_ok (envL_ok (l := []) OKs.nil) mixed (ann := (fun _ => false)) (L := L52) (fn := Proofs.Try.f52) (c := bodyC Proofs.Try.f52) (ls := []) Proofs.Try.func52 (by kernel_rfl) (by kernel_rfl) (by kernel_rfl) (by kernel_rfl)
    LoopsP.nil (e52)
/-! spec.TurnWind -/
def p53 : List SP := [.one (.r .gust), .one (.int .i64)]
def r53 : List SP := [.one (.o 0 .gust)]
def q53_0 : List SP := pat 29 0 [(0, .one (.r .gust)), (1, .one (.int .i64)), (5, .one (.o 5000001 .gust)), (9, .one (.r .gust)), (10, .one (.int .i64)), (11, .one (.int .i64))]
noncomputable def s53_0 (f59 : List Gust × Unit → Option (Bool × Unit)) (f87 : Place × Int × Unit → Option (Place × Unit)) (t1 : List Gust × Int × List Gust × List Gust × Int × Int × Unit) (rec K : List Gust × Int × List Gust × List Gust × Int × Int × Unit → Option (List Gust × Unit)) : Option (List Gust × Unit) :=
  cond (decide (t1.2.2.2.2.2.1 < t1.2.2.2.2.1)) (rdL t1.2.2.2.1 t1.2.2.2.2.2.1 fun d2 => (f59 (t1.1, ())).bind fun x3 => cond x3.1 ((f87 (d2.Drift, t1.2.1, ())).bind fun x4 => capK (List.length t1.2.2.1 + List.length ([(⟨d2.From, ⟨x4.1.X, x4.1.Y⟩⟩ : Gust)] : List Gust)) (rec (t1.1, t1.2.1, (t1.2.2.1 ++ ([(⟨d2.From, ⟨x4.1.X, x4.1.Y⟩⟩ : Gust)] : List Gust)), t1.2.2.2.1, t1.2.2.2.2.1, (w64 (t1.2.2.2.2.2.1 + 1)), ()))) (rec (t1.1, t1.2.1, t1.2.2.1, t1.2.2.2.1, t1.2.2.2.2.1, (w64 (t1.2.2.2.2.2.1 + 1)), ()))) (K (t1.1, t1.2.1, t1.2.2.1, t1.2.2.2.1, t1.2.2.2.2.1, t1.2.2.2.2.2.1, ()))
noncomputable def F53 (f59 : List Gust × Unit → Option (Bool × Unit)) (f87 : Place × Int × Unit → Option (Place × Unit)) (a : List Gust × Int × Unit) : Option (List Gust × Unit) :=
  iterF (s53_0 f59 f87) fuel (a.1, a.2.1, ([] : List Gust), a.1, (Int.ofNat (List.length a.1)), 0, ()) fun t5 => some (t5.2.2.1, ())
def E53 (f59 : List Gust × Unit → Option (Bool × Unit)) (f87 : Place × Int × Unit → Option (Place × Unit)) : Env := envL [(59, mkE p59 r59 false f59), (87, mkE p87 r87 false f87)]
noncomputable def L53 (f59 : List Gust × Unit → Option (Bool × Unit)) (f87 : Place × Int × Unit → Option (Place × Unit)) : LEnv (densS (muts p53 ++ r53)) := lenv [(0, loopL (R := densS (muts p53 ++ r53)) q53_0 (s53_0 f59 f87))]
theorem e53_0 (f59 : List Gust × Unit → Option (Bool × Unit)) (f87 : Place × Int × Unit → Option (Place × Unit)) (X : Nat → St → Option (densS (muts p53 ++ r53))) (rec K : densS q53_0 → Option (densS (muts p53 ++ r53))) (t : densS q53_0) :
    ev (E53 f59 f87) tab (fun _ => false) (L53 f59 f87) (retK tab p53 r53 Proofs.Try.f53.results.toList) (loopC Proofs.Try.f53 0) (fun i s => cond (Nat.beq i 0) (decK 100 q53_0 s K) (X i s)) (fun s => decK 100 q53_0 s rec) (enc q53_0 t) = s53_0 f59 f87 t rec K := by kernel_rfl
theorem e53 (f59 : List Gust × Unit → Option (Bool × Unit)) (f87 : Place × Int × Unit → Option (Place × Unit)) (a : densS p53) : runF (E53 f59 f87) tab (fun _ => false) p53 r53 Proofs.Try.f53 (L53 f59 f87) a = F53 f59 f87 a := by kernel_rfl
theorem ok53 {f59 : List Gust × Unit → Option (Bool × Unit)} {f87 : Place × Int × Unit → Option (Place × Unit)} (h59 : OK Proofs.Try.prog 59 (mkE p59 r59 false f59)) (h87 : OK Proofs.Try.prog 87 (mkE p87 r87 false f87)) : OK Proofs.Try.prog 53 (mkE p53 r53 false (F53 f59 f87)) :=
  fn_ok tab_ok (envL_ok (l := [(59, mkE p59 r59 false f59), (87, mkE p87 r87 false f87)]) (OKs.cons h59 (OKs.cons h87 OKs.nil))) mixed (ann := (fun _ => false)) (L := L53 f59 f87) (fn := Proofs.Try.f53) (c := bodyC Proofs.Try.f53) (ls := [(0, loopC Proofs.Try.f53 0)]) Proofs.Try.func53 (by kernel_rfl) (by kernel_rfl) (by kernel_rfl) (by kernel_rfl)
    (LoopsP.cons q53_0 (s53_0 f59 f87) rfl (e53_0 f59 f87) LoopsP.nil) (e53 f59 f87)
/-! spec.TurnShow -/
def p19 : List SP := [.agg [.r .device, .r .cue, .r .gust, .int .i64], .one (.int .i64)]
def r19 : List SP := [.agg [.o 0 .device, .o 1 .cue, .o 2 .gust, .int .i64]]
noncomputable def F19 (f22 : (List Device × List Cue × List Gust × Int × Unit) × Unit → Option (Bool × Unit)) (f51 : List Device × Int × Unit → Option (List Device × Unit)) (f52 : List Cue × Unit → Option (List Cue × Unit)) (f53 : List Gust × Int × Unit → Option (List Gust × Unit)) (a : (List Device × List Cue × List Gust × Int × Unit) × Int × Unit) : Option ((List Device × List Cue × List Gust × Int × Unit) × Unit) :=
  (f22 ((a.1.1, a.1.2.1, a.1.2.2.1, a.1.2.2.2.1, ()), ())).bind fun x1 => cond (!x1.1) (some (([], [], [], 0, ()), ())) ((f51 (a.1.1, a.2.1, ())).bind fun x2 => (f52 (a.1.2.1, ())).bind fun x3 => (f53 (a.1.2.2.1, a.2.1, ())).bind fun x4 => some ((x2.1, x3.1, x4.1, a.1.2.2.2.1, ()), ()))
def E19 (f22 : (List Device × List Cue × List Gust × Int × Unit) × Unit → Option (Bool × Unit)) (f51 : List Device × Int × Unit → Option (List Device × Unit)) (f52 : List Cue × Unit → Option (List Cue × Unit)) (f53 : List Gust × Int × Unit → Option (List Gust × Unit)) : Env := envL [(22, mkE p22 r22 false f22), (51, mkE p51 r51 false f51), (52, mkE p52 r52 false f52), (53, mkE p53 r53 false f53)]
noncomputable def L19 (f22 : (List Device × List Cue × List Gust × Int × Unit) × Unit → Option (Bool × Unit)) (f51 : List Device × Int × Unit → Option (List Device × Unit)) (f52 : List Cue × Unit → Option (List Cue × Unit)) (f53 : List Gust × Int × Unit → Option (List Gust × Unit)) : LEnv (densS (muts p19 ++ r19)) := lenv []
theorem e19 (f22 : (List Device × List Cue × List Gust × Int × Unit) × Unit → Option (Bool × Unit)) (f51 : List Device × Int × Unit → Option (List Device × Unit)) (f52 : List Cue × Unit → Option (List Cue × Unit)) (f53 : List Gust × Int × Unit → Option (List Gust × Unit)) (a : densS p19) : runF (E19 f22 f51 f52 f53) tab (fun _ => false) p19 r19 Proofs.Try.f19 (L19 f22 f51 f52 f53) a = F19 f22 f51 f52 f53 a := by kernel_rfl
theorem ok19 {f22 : (List Device × List Cue × List Gust × Int × Unit) × Unit → Option (Bool × Unit)} {f51 : List Device × Int × Unit → Option (List Device × Unit)} {f52 : List Cue × Unit → Option (List Cue × Unit)} {f53 : List Gust × Int × Unit → Option (List Gust × Unit)} (h22 : OK Proofs.Try.prog 22 (mkE p22 r22 false f22)) (h51 : OK Proofs.Try.prog 51 (mkE p51 r51 false f51)) (h52 : OK Proofs.Try.prog 52 (mkE p52 r52 false f52)) (h53 : OK Proofs.Try.prog 53 (mkE p53 r53 false f53)) : OK Proofs.Try.prog 19 (mkE p19 r19 false (F19 f22 f51 f52 f53)) :=
  fn_ok tab_ok (envL_ok (l := [(22, mkE p22 r22 false f22), (51, mkE p51 r51 false f51), (52, mkE p52 r52 false f52), (53, mkE p53 r53 false f53)]) (OKs.cons h22 (OKs.cons h51 (OKs.cons h52 (OKs.cons h53 OKs.nil))))) mixed (ann := (fun _ => false)) (L := L19 f22 f51 f52 f53) (fn := Proofs.Try.f19) (c := bodyC Proofs.Try.f19) (ls := []) Proofs.Try.func19 (by kernel_rfl) (by kernel_rfl) (by kernel_rfl) (by kernel_rfl)
    LoopsP.nil (e19 f22 f51 f52 f53)
/-! impl.turns -/
def p108 : List SP := [.one (.int .i64)]
def r108 : List SP := [.one (.int .i64)]
noncomputable def F108 (a : Int × Unit) : Option (Int × Unit) :=
  some ((Int.tmod (w64 ((Int.tmod a.1 4) + 4)) 4), ())
def E108 : Env := envL []
noncomputable def L108 : LEnv (densS (muts p108 ++ r108)) := lenv []
theorem e108 (a : densS p108) : runF (E108) tab (fun _ => false) p108 r108 Proofs.Try.f108 (L108) a = F108 a := by kernel_rfl
theorem ok108 : OK Proofs.Try.prog 108 (mkE p108 r108 false (F108)) :=
  fn_ok tab_ok (envL_ok (l := []) OKs.nil) mixed (ann := (fun _ => false)) (L := L108) (fn := Proofs.Try.f108) (c := bodyC Proofs.Try.f108) (ls := []) Proofs.Try.func108 (by kernel_rfl) (by kernel_rfl) (by kernel_rfl) (by kernel_rfl)
    LoopsP.nil (e108)
/-! impl.turned -/
def p88 : List SP := [.t .place, .one (.int .i64)]
def r88 : List SP := [.t .place]
def q88_0 : List SP := pat 17 0 [(2, .boxt 5000001 .place), (4, .boxt 5000002 .place), (6, .one (.int .i64)), (7, .one (.int .i64))]
noncomputable def s88_0 (f108 : Int × Unit → Option (Int × Unit)) (t2 : Place × Place × Int × Int × Unit) (rec K : Place × Place × Int × Int × Unit → Option (Place × Unit)) : Option (Place × Unit) :=
  cond (decide (t2.2.2.2.1 < t2.2.2.1)) (rec ((⟨(w64 (0 - t2.1.Y)), t2.1.X⟩ : Place), t2.2.1, t2.2.2.1, (w64 (t2.2.2.2.1 + 1)), ())) (K (t2.1, t2.2.1, t2.2.2.1, t2.2.2.2.1, ()))
noncomputable def F88 (f108 : Int × Unit → Option (Int × Unit)) (a : Place × Int × Unit) : Option (Place × Unit) :=
  (f108 (a.2.1, ())).bind fun x1 => iterF (s88_0 f108) fuel (a.1, (⟨0, 0⟩ : Place), x1.1, 0, ()) fun t3 => some (t3.1, ())
def E88 (f108 : Int × Unit → Option (Int × Unit)) : Env := envL [(108, mkE p108 r108 false f108)]
noncomputable def L88 (f108 : Int × Unit → Option (Int × Unit)) : LEnv (densS (muts p88 ++ r88)) := lenv [(0, loopL (R := densS (muts p88 ++ r88)) q88_0 (s88_0 f108))]
theorem e88_0 (f108 : Int × Unit → Option (Int × Unit)) (X : Nat → St → Option (densS (muts p88 ++ r88))) (rec K : densS q88_0 → Option (densS (muts p88 ++ r88))) (t : densS q88_0) :
    ev (E88 f108) tab (fun _ => false) (L88 f108) (retK tab p88 r88 Proofs.Try.f88.results.toList) (loopC Proofs.Try.f88 0) (fun i s => cond (Nat.beq i 0) (decK 100 q88_0 s K) (X i s)) (fun s => decK 100 q88_0 s rec) (enc q88_0 t) = s88_0 f108 t rec K := by kernel_rfl
theorem e88 (f108 : Int × Unit → Option (Int × Unit)) (a : densS p88) : runF (E88 f108) tab (fun _ => false) p88 r88 Proofs.Try.f88 (L88 f108) a = F88 f108 a := by kernel_rfl
theorem ok88 {f108 : Int × Unit → Option (Int × Unit)} (h108 : OK Proofs.Try.prog 108 (mkE p108 r108 false f108)) : OK Proofs.Try.prog 88 (mkE p88 r88 false (F88 f108)) :=
  fn_ok tab_ok (envL_ok (l := [(108, mkE p108 r108 false f108)]) (OKs.cons h108 OKs.nil)) mixed (ann := (fun _ => false)) (L := L88 f108) (fn := Proofs.Try.f88) (c := bodyC Proofs.Try.f88) (ls := [(0, loopC Proofs.Try.f88 0)]) Proofs.Try.func88 (by kernel_rfl) (by kernel_rfl) (by kernel_rfl) (by kernel_rfl)
    (LoopsP.cons q88_0 (s88_0 f108) rfl (e88_0 f108) LoopsP.nil) (e88 f108)
/-! impl.TurnHeading -/
def p89 : List SP := [.one (.int .i64), .one (.int .i64)]
def r89 : List SP := [.one (.int .i64)]
noncomputable def F89 (f109 : Int × Unit → Option (Bool × Unit)) (f108 : Int × Unit → Option (Int × Unit)) (a : Int × Int × Unit) : Option (Int × Unit) :=
  (f109 (a.1, ())).bind fun x1 => cond (!x1.1) (some (0, ())) ((f108 (a.2.1, ())).bind fun x2 => some ((Int.tmod (w64 (a.1 + x2.1)) 4), ()))
def E89 (f109 : Int × Unit → Option (Bool × Unit)) (f108 : Int × Unit → Option (Int × Unit)) : Env := envL [(109, mkE p109 r109 false f109), (108, mkE p108 r108 false f108)]
noncomputable def L89 (f109 : Int × Unit → Option (Bool × Unit)) (f108 : Int × Unit → Option (Int × Unit)) : LEnv (densS (muts p89 ++ r89)) := lenv []
theorem e89 (f109 : Int × Unit → Option (Bool × Unit)) (f108 : Int × Unit → Option (Int × Unit)) (a : densS p89) : runF (E89 f109 f108) tab (fun _ => false) p89 r89 Proofs.Try.f89 (L89 f109 f108) a = F89 f109 f108 a := by kernel_rfl
theorem ok89 {f109 : Int × Unit → Option (Bool × Unit)} {f108 : Int × Unit → Option (Int × Unit)} (h109 : OK Proofs.Try.prog 109 (mkE p109 r109 false f109)) (h108 : OK Proofs.Try.prog 108 (mkE p108 r108 false f108)) : OK Proofs.Try.prog 89 (mkE p89 r89 false (F89 f109 f108)) :=
  fn_ok tab_ok (envL_ok (l := [(109, mkE p109 r109 false f109), (108, mkE p108 r108 false f108)]) (OKs.cons h109 (OKs.cons h108 OKs.nil))) mixed (ann := (fun _ => false)) (L := L89 f109 f108) (fn := Proofs.Try.f89) (c := bodyC Proofs.Try.f89) (ls := []) Proofs.Try.func89 (by kernel_rfl) (by kernel_rfl) (by kernel_rfl) (by kernel_rfl)
    LoopsP.nil (e89 f109 f108)
/-! impl.TurnRig -/
def p54 : List SP := [.one (.r .device), .one (.int .i64)]
def r54 : List SP := [.one (.o 0 .device)]
def q54_0 : List SP := pat 38 0 [(1, .one (.int .i64)), (5, .one (.o 5000001 .device)), (13, .one (.r .device)), (14, .one (.int .i64)), (15, .one (.int .i64))]
noncomputable def s54_0 (f64 : List Device × Unit → Option (Bool × Unit)) (f88 : Place × Int × Unit → Option (Place × Unit)) (f89 : Int × Int × Unit → Option (Int × Unit)) (t2 : Int × List Device × List Device × Int × Int × Unit) (rec K : Int × List Device × List Device × Int × Int × Unit → Option (List Device × Unit)) : Option (List Device × Unit) :=
  cond (decide (t2.2.2.2.2.1 < t2.2.2.2.1)) (rdL t2.2.2.1 t2.2.2.2.2.1 fun d3 => (f88 (d3.At, t2.1, ())).bind fun x4 => cond (decide (d3.Kind = 2)) ((f89 (d3.Heading, t2.1, ())).bind fun x5 => capK (List.length t2.2.1 + List.length ([(⟨d3.Name, d3.Kind, d3.Line, ⟨x4.1.X, x4.1.Y⟩, x5.1, d3.Tilt, d3.Most⟩ : Device)] : List Device)) (rec (t2.1, (t2.2.1 ++ ([(⟨d3.Name, d3.Kind, d3.Line, ⟨x4.1.X, x4.1.Y⟩, x5.1, d3.Tilt, d3.Most⟩ : Device)] : List Device)), t2.2.2.1, t2.2.2.2.1, (w64 (t2.2.2.2.2.1 + 1)), ()))) (capK (List.length t2.2.1 + List.length ([(⟨d3.Name, d3.Kind, d3.Line, ⟨x4.1.X, x4.1.Y⟩, d3.Heading, d3.Tilt, d3.Most⟩ : Device)] : List Device)) (rec (t2.1, (t2.2.1 ++ ([(⟨d3.Name, d3.Kind, d3.Line, ⟨x4.1.X, x4.1.Y⟩, d3.Heading, d3.Tilt, d3.Most⟩ : Device)] : List Device)), t2.2.2.1, t2.2.2.2.1, (w64 (t2.2.2.2.2.1 + 1)), ())))) (K (t2.1, t2.2.1, t2.2.2.1, t2.2.2.2.1, t2.2.2.2.2.1, ()))
noncomputable def F54 (f64 : List Device × Unit → Option (Bool × Unit)) (f88 : Place × Int × Unit → Option (Place × Unit)) (f89 : Int × Int × Unit → Option (Int × Unit)) (a : List Device × Int × Unit) : Option (List Device × Unit) :=
  (f64 (a.1, ())).bind fun x1 => cond (!x1.1) (some (([] : List Device), ())) (iterF (s54_0 f64 f88 f89) fuel (a.2.1, ([] : List Device), a.1, (Int.ofNat (List.length a.1)), 0, ()) fun t6 => some (t6.2.1, ()))
def E54 (f64 : List Device × Unit → Option (Bool × Unit)) (f88 : Place × Int × Unit → Option (Place × Unit)) (f89 : Int × Int × Unit → Option (Int × Unit)) : Env := envL [(64, mkE p64 r64 false f64), (88, mkE p88 r88 false f88), (89, mkE p89 r89 false f89)]
noncomputable def L54 (f64 : List Device × Unit → Option (Bool × Unit)) (f88 : Place × Int × Unit → Option (Place × Unit)) (f89 : Int × Int × Unit → Option (Int × Unit)) : LEnv (densS (muts p54 ++ r54)) := lenv [(0, loopL (R := densS (muts p54 ++ r54)) q54_0 (s54_0 f64 f88 f89))]
theorem e54_0 (f64 : List Device × Unit → Option (Bool × Unit)) (f88 : Place × Int × Unit → Option (Place × Unit)) (f89 : Int × Int × Unit → Option (Int × Unit)) (X : Nat → St → Option (densS (muts p54 ++ r54))) (rec K : densS q54_0 → Option (densS (muts p54 ++ r54))) (t : densS q54_0) :
    ev (E54 f64 f88 f89) tab (fun _ => false) (L54 f64 f88 f89) (retK tab p54 r54 Proofs.Try.f54.results.toList) (loopC Proofs.Try.f54 0) (fun i s => cond (Nat.beq i 0) (decK 100 q54_0 s K) (X i s)) (fun s => decK 100 q54_0 s rec) (enc q54_0 t) = s54_0 f64 f88 f89 t rec K := by kernel_rfl
theorem e54 (f64 : List Device × Unit → Option (Bool × Unit)) (f88 : Place × Int × Unit → Option (Place × Unit)) (f89 : Int × Int × Unit → Option (Int × Unit)) (a : densS p54) : runF (E54 f64 f88 f89) tab (fun _ => false) p54 r54 Proofs.Try.f54 (L54 f64 f88 f89) a = F54 f64 f88 f89 a := by kernel_rfl
theorem ok54 {f64 : List Device × Unit → Option (Bool × Unit)} {f88 : Place × Int × Unit → Option (Place × Unit)} {f89 : Int × Int × Unit → Option (Int × Unit)} (h64 : OK Proofs.Try.prog 64 (mkE p64 r64 false f64)) (h88 : OK Proofs.Try.prog 88 (mkE p88 r88 false f88)) (h89 : OK Proofs.Try.prog 89 (mkE p89 r89 false f89)) : OK Proofs.Try.prog 54 (mkE p54 r54 false (F54 f64 f88 f89)) :=
  fn_ok tab_ok (envL_ok (l := [(64, mkE p64 r64 false f64), (88, mkE p88 r88 false f88), (89, mkE p89 r89 false f89)]) (OKs.cons h64 (OKs.cons h88 (OKs.cons h89 OKs.nil)))) mixed (ann := (fun _ => false)) (L := L54 f64 f88 f89) (fn := Proofs.Try.f54) (c := bodyC Proofs.Try.f54) (ls := [(0, loopC Proofs.Try.f54 0)]) Proofs.Try.func54 (by kernel_rfl) (by kernel_rfl) (by kernel_rfl) (by kernel_rfl)
    (LoopsP.cons q54_0 (s54_0 f64 f88 f89) rfl (e54_0 f64 f88 f89) LoopsP.nil) (e54 f64 f88 f89)
/-! slices.Clone[[]impl.Cue,impl.Cue] -/
def p55 : List SP := [.one (.r .cue)]
def r55 : List SP := [.one (.o 0 .cue)]
noncomputable def F55 (a : List Cue × Unit) : Option (List Cue × Unit) :=
  emptyK (List.isEmpty a.1) (some ([], ())) (capK (List.length ([] : List Cue) + List.length a.1) (some ((([] : List Cue) ++ a.1), ())))
def E55 : Env := envL []
noncomputable def L55 : LEnv (densS (muts p55 ++ r55)) := lenv []
theorem e55 (a : densS p55) : runF (E55) tab (fun _ => false) p55 r55 Proofs.Try.f55 (L55) a = F55 a := by kernel_rfl
theorem ok55 : OK Proofs.Try.prog 55 (mkE p55 r55 false (F55)) :=
  fn_ok tab_ok (envL_ok (l := []) OKs.nil) mixed (ann := (fun _ => false)) (L := L55) (fn := Proofs.Try.f55) (c := bodyC Proofs.Try.f55) (ls := []) Proofs.Try.func55 (by kernel_rfl) (by kernel_rfl) (by kernel_rfl) (by kernel_rfl)
    LoopsP.nil (e55)
/-! impl.TurnWind -/
def p56 : List SP := [.one (.r .gust), .one (.int .i64)]
def r56 : List SP := [.one (.o 0 .gust)]
def q56_0 : List SP := pat 31 0 [(1, .one (.int .i64)), (5, .one (.o 5000001 .gust)), (13, .one (.r .gust)), (14, .one (.int .i64)), (15, .one (.int .i64))]
noncomputable def s56_0 (f66 : List Gust × Unit → Option (Bool × Unit)) (f88 : Place × Int × Unit → Option (Place × Unit)) (t2 : Int × List Gust × List Gust × Int × Int × Unit) (rec K : Int × List Gust × List Gust × Int × Int × Unit → Option (List Gust × Unit)) : Option (List Gust × Unit) :=
  cond (decide (t2.2.2.2.2.1 < t2.2.2.2.1)) (rdL t2.2.2.1 t2.2.2.2.2.1 fun d3 => (f88 (d3.Drift, t2.1, ())).bind fun x4 => capK (List.length t2.2.1 + List.length ([(⟨d3.From, ⟨x4.1.X, x4.1.Y⟩⟩ : Gust)] : List Gust)) (rec (t2.1, (t2.2.1 ++ ([(⟨d3.From, ⟨x4.1.X, x4.1.Y⟩⟩ : Gust)] : List Gust)), t2.2.2.1, t2.2.2.2.1, (w64 (t2.2.2.2.2.1 + 1)), ()))) (K (t2.1, t2.2.1, t2.2.2.1, t2.2.2.2.1, t2.2.2.2.2.1, ()))
noncomputable def F56 (f66 : List Gust × Unit → Option (Bool × Unit)) (f88 : Place × Int × Unit → Option (Place × Unit)) (a : List Gust × Int × Unit) : Option (List Gust × Unit) :=
  (f66 (a.1, ())).bind fun x1 => cond (!x1.1) (some (([] : List Gust), ())) (iterF (s56_0 f66 f88) fuel (a.2.1, ([] : List Gust), a.1, (Int.ofNat (List.length a.1)), 0, ()) fun t5 => some (t5.2.1, ()))
def E56 (f66 : List Gust × Unit → Option (Bool × Unit)) (f88 : Place × Int × Unit → Option (Place × Unit)) : Env := envL [(66, mkE p66 r66 false f66), (88, mkE p88 r88 false f88)]
noncomputable def L56 (f66 : List Gust × Unit → Option (Bool × Unit)) (f88 : Place × Int × Unit → Option (Place × Unit)) : LEnv (densS (muts p56 ++ r56)) := lenv [(0, loopL (R := densS (muts p56 ++ r56)) q56_0 (s56_0 f66 f88))]
theorem e56_0 (f66 : List Gust × Unit → Option (Bool × Unit)) (f88 : Place × Int × Unit → Option (Place × Unit)) (X : Nat → St → Option (densS (muts p56 ++ r56))) (rec K : densS q56_0 → Option (densS (muts p56 ++ r56))) (t : densS q56_0) :
    ev (E56 f66 f88) tab (fun _ => false) (L56 f66 f88) (retK tab p56 r56 Proofs.Try.f56.results.toList) (loopC Proofs.Try.f56 0) (fun i s => cond (Nat.beq i 0) (decK 100 q56_0 s K) (X i s)) (fun s => decK 100 q56_0 s rec) (enc q56_0 t) = s56_0 f66 f88 t rec K := by kernel_rfl
theorem e56 (f66 : List Gust × Unit → Option (Bool × Unit)) (f88 : Place × Int × Unit → Option (Place × Unit)) (a : densS p56) : runF (E56 f66 f88) tab (fun _ => false) p56 r56 Proofs.Try.f56 (L56 f66 f88) a = F56 f66 f88 a := by kernel_rfl
theorem ok56 {f66 : List Gust × Unit → Option (Bool × Unit)} {f88 : Place × Int × Unit → Option (Place × Unit)} (h66 : OK Proofs.Try.prog 66 (mkE p66 r66 false f66)) (h88 : OK Proofs.Try.prog 88 (mkE p88 r88 false f88)) : OK Proofs.Try.prog 56 (mkE p56 r56 false (F56 f66 f88)) :=
  fn_ok tab_ok (envL_ok (l := [(66, mkE p66 r66 false f66), (88, mkE p88 r88 false f88)]) (OKs.cons h66 (OKs.cons h88 OKs.nil))) mixed (ann := (fun _ => false)) (L := L56 f66 f88) (fn := Proofs.Try.f56) (c := bodyC Proofs.Try.f56) (ls := [(0, loopC Proofs.Try.f56 0)]) Proofs.Try.func56 (by kernel_rfl) (by kernel_rfl) (by kernel_rfl) (by kernel_rfl)
    (LoopsP.cons q56_0 (s56_0 f66 f88) rfl (e56_0 f66 f88) LoopsP.nil) (e56 f66 f88)
/-! impl.TurnShow -/
def p20 : List SP := [.agg [.r .device, .r .cue, .r .gust, .int .i64], .one (.int .i64)]
def r20 : List SP := [.agg [.o 0 .device, .o 1 .cue, .o 2 .gust, .int .i64]]
noncomputable def F20 (f27 : (List Device × List Cue × List Gust × Int × Unit) × Unit → Option (Bool × Unit)) (f54 : List Device × Int × Unit → Option (List Device × Unit)) (f55 : List Cue × Unit → Option (List Cue × Unit)) (f56 : List Gust × Int × Unit → Option (List Gust × Unit)) (a : (List Device × List Cue × List Gust × Int × Unit) × Int × Unit) : Option ((List Device × List Cue × List Gust × Int × Unit) × Unit) :=
  (f27 ((a.1.1, a.1.2.1, a.1.2.2.1, a.1.2.2.2.1, ()), ())).bind fun x1 => cond (!x1.1) (some (([], [], [], 0, ()), ())) ((f54 (a.1.1, a.2.1, ())).bind fun x2 => (f55 (a.1.2.1, ())).bind fun x3 => (f56 (a.1.2.2.1, a.2.1, ())).bind fun x4 => some ((x2.1, x3.1, x4.1, a.1.2.2.2.1, ()), ()))
def E20 (f27 : (List Device × List Cue × List Gust × Int × Unit) × Unit → Option (Bool × Unit)) (f54 : List Device × Int × Unit → Option (List Device × Unit)) (f55 : List Cue × Unit → Option (List Cue × Unit)) (f56 : List Gust × Int × Unit → Option (List Gust × Unit)) : Env := envL [(27, mkE p27 r27 false f27), (54, mkE p54 r54 false f54), (55, mkE p55 r55 false f55), (56, mkE p56 r56 false f56)]
noncomputable def L20 (f27 : (List Device × List Cue × List Gust × Int × Unit) × Unit → Option (Bool × Unit)) (f54 : List Device × Int × Unit → Option (List Device × Unit)) (f55 : List Cue × Unit → Option (List Cue × Unit)) (f56 : List Gust × Int × Unit → Option (List Gust × Unit)) : LEnv (densS (muts p20 ++ r20)) := lenv []
theorem e20 (f27 : (List Device × List Cue × List Gust × Int × Unit) × Unit → Option (Bool × Unit)) (f54 : List Device × Int × Unit → Option (List Device × Unit)) (f55 : List Cue × Unit → Option (List Cue × Unit)) (f56 : List Gust × Int × Unit → Option (List Gust × Unit)) (a : densS p20) : runF (E20 f27 f54 f55 f56) tab (fun _ => false) p20 r20 Proofs.Try.f20 (L20 f27 f54 f55 f56) a = F20 f27 f54 f55 f56 a := by kernel_rfl
theorem ok20 {f27 : (List Device × List Cue × List Gust × Int × Unit) × Unit → Option (Bool × Unit)} {f54 : List Device × Int × Unit → Option (List Device × Unit)} {f55 : List Cue × Unit → Option (List Cue × Unit)} {f56 : List Gust × Int × Unit → Option (List Gust × Unit)} (h27 : OK Proofs.Try.prog 27 (mkE p27 r27 false f27)) (h54 : OK Proofs.Try.prog 54 (mkE p54 r54 false f54)) (h55 : OK Proofs.Try.prog 55 (mkE p55 r55 false f55)) (h56 : OK Proofs.Try.prog 56 (mkE p56 r56 false f56)) : OK Proofs.Try.prog 20 (mkE p20 r20 false (F20 f27 f54 f55 f56)) :=
  fn_ok tab_ok (envL_ok (l := [(27, mkE p27 r27 false f27), (54, mkE p54 r54 false f54), (55, mkE p55 r55 false f55), (56, mkE p56 r56 false f56)]) (OKs.cons h27 (OKs.cons h54 (OKs.cons h55 (OKs.cons h56 OKs.nil))))) mixed (ann := (fun _ => false)) (L := L20 f27 f54 f55 f56) (fn := Proofs.Try.f20) (c := bodyC Proofs.Try.f20) (ls := []) Proofs.Try.func20 (by kernel_rfl) (by kernel_rfl) (by kernel_rfl) (by kernel_rfl)
    LoopsP.nil (e20 f27 f54 f55 f56)
/-! laws.markText -/
def p86 : List SP := [.one (.int .i64)]
def r86 : List SP := [.one (.str)]
def q86_0 : List SP := pat 20 0 [(0, .one (.int .i64)), (3, .one (.str))]
noncomputable def s86_0 (t1 : Int × Str × Unit) (rec K : Int × Str × Unit → Option (Str × Unit)) : Option (Str × Unit) :=
  cond (decide (t1.1 > 0)) (capK (List.length (List.map (fun n => UInt8.ofNat (Int.toNat n)) ([(IntKind.wrap .u8 (w64 (48 + (Int.tmod t1.1 10))))] : List Int)) + List.length t1.2.1) (rec ((w64 (Int.tdiv t1.1 10)), ((List.map (fun n => UInt8.ofNat (Int.toNat n)) ([(IntKind.wrap .u8 (w64 (48 + (Int.tmod t1.1 10))))] : List Int)) ++ t1.2.1), ()))) (K (t1.1, t1.2.1, ()))
noncomputable def F86 (a : Int × Unit) : Option (Str × Unit) :=
  cond (decide (a.1 ≤ 0)) (some ([109, 48], ())) (iterF (s86_0) fuel (a.1, [], ()) fun t2 => capK (List.length [109] + List.length t2.2.1) (some (([109] ++ t2.2.1), ())))
def E86 : Env := envL []
noncomputable def L86 : LEnv (densS (muts p86 ++ r86)) := lenv [(0, loopL (R := densS (muts p86 ++ r86)) q86_0 (s86_0))]
theorem e86_0 (X : Nat → St → Option (densS (muts p86 ++ r86))) (rec K : densS q86_0 → Option (densS (muts p86 ++ r86))) (t : densS q86_0) :
    ev (E86) tab (fun _ => false) (L86) (retK tab p86 r86 Proofs.Try.f86.results.toList) (loopC Proofs.Try.f86 0) (fun i s => cond (Nat.beq i 0) (decK 100 q86_0 s K) (X i s)) (fun s => decK 100 q86_0 s rec) (enc q86_0 t) = s86_0 t rec K := by kernel_rfl
theorem e86 (a : densS p86) : runF (E86) tab (fun _ => false) p86 r86 Proofs.Try.f86 (L86) a = F86 a := by kernel_rfl
theorem ok86 : OK Proofs.Try.prog 86 (mkE p86 r86 false (F86)) :=
  fn_ok tab_ok (envL_ok (l := []) OKs.nil) mixed (ann := (fun _ => false)) (L := L86) (fn := Proofs.Try.f86) (c := bodyC Proofs.Try.f86) (ls := [(0, loopC Proofs.Try.f86 0)]) Proofs.Try.func86 (by kernel_rfl) (by kernel_rfl) (by kernel_rfl) (by kernel_rfl)
    (LoopsP.cons q86_0 (s86_0) rfl (e86_0) LoopsP.nil) (e86)
/-! laws.markDeviceS -/
def p45 : List SP := [.one (.o 0 .device), .one (.int .i64)]
def r45 : List SP := [.one (.int .i64)]
def q45_0 : List SP := pat 73 0 [(0, .one (.o 0 .device)), (1, .one (.int .i64)), (5, .one (.int .i64))]
noncomputable def s45_0 (f86 : Int × Unit → Option (Str × Unit)) (t1 : List Device × Int × Int × Unit) (rec K : List Device × Int × Int × Unit → Option (List Device × Int × Unit)) : Option (List Device × Int × Unit) :=
  cond (decide (t1.2.2.1 < (Int.ofNat (List.length t1.1)))) ((f86 (t1.2.1, ())).bind fun x2 => rdL t1.1 t1.2.2.1 fun _ => (t1.1[(Int.toNat t1.2.2.1)]?).bind fun d3 => rdL (List.set t1.1 (Int.toNat t1.2.2.1) (⟨x2.1, d3.Kind, d3.Line, ⟨d3.At.X, d3.At.Y⟩, d3.Heading, d3.Tilt, d3.Most⟩ : Device)) t1.2.2.1 fun _ => ((List.set t1.1 (Int.toNat t1.2.2.1) (⟨x2.1, d3.Kind, d3.Line, ⟨d3.At.X, d3.At.Y⟩, d3.Heading, d3.Tilt, d3.Most⟩ : Device))[(Int.toNat t1.2.2.1)]?).bind fun d4 => (f86 ((w64 ((w64 (t1.2.1 + 1)) + 1)), ())).bind fun x5 => rdL (List.set (List.set t1.1 (Int.toNat t1.2.2.1) (⟨x2.1, d3.Kind, d3.Line, ⟨d3.At.X, d3.At.Y⟩, d3.Heading, d3.Tilt, d3.Most⟩ : Device)) (Int.toNat t1.2.2.1) (⟨d4.Name, (w64 (t1.2.1 + 1)), d4.Line, ⟨d4.At.X, d4.At.Y⟩, d4.Heading, d4.Tilt, d4.Most⟩ : Device)) t1.2.2.1 fun _ => ((List.set (List.set t1.1 (Int.toNat t1.2.2.1) (⟨x2.1, d3.Kind, d3.Line, ⟨d3.At.X, d3.At.Y⟩, d3.Heading, d3.Tilt, d3.Most⟩ : Device)) (Int.toNat t1.2.2.1) (⟨d4.Name, (w64 (t1.2.1 + 1)), d4.Line, ⟨d4.At.X, d4.At.Y⟩, d4.Heading, d4.Tilt, d4.Most⟩ : Device))[(Int.toNat t1.2.2.1)]?).bind fun d6 => rdL (List.set (List.set (List.set t1.1 (Int.toNat t1.2.2.1) (⟨x2.1, d3.Kind, d3.Line, ⟨d3.At.X, d3.At.Y⟩, d3.Heading, d3.Tilt, d3.Most⟩ : Device)) (Int.toNat t1.2.2.1) (⟨d4.Name, (w64 (t1.2.1 + 1)), d4.Line, ⟨d4.At.X, d4.At.Y⟩, d4.Heading, d4.Tilt, d4.Most⟩ : Device)) (Int.toNat t1.2.2.1) (⟨d6.Name, d6.Kind, x5.1, ⟨d6.At.X, d6.At.Y⟩, d6.Heading, d6.Tilt, d6.Most⟩ : Device)) t1.2.2.1 fun _ => ((List.set (List.set (List.set t1.1 (Int.toNat t1.2.2.1) (⟨x2.1, d3.Kind, d3.Line, ⟨d3.At.X, d3.At.Y⟩, d3.Heading, d3.Tilt, d3.Most⟩ : Device)) (Int.toNat t1.2.2.1) (⟨d4.Name, (w64 (t1.2.1 + 1)), d4.Line, ⟨d4.At.X, d4.At.Y⟩, d4.Heading, d4.Tilt, d4.Most⟩ : Device)) (Int.toNat t1.2.2.1) (⟨d6.Name, d6.Kind, x5.1, ⟨d6.At.X, d6.At.Y⟩, d6.Heading, d6.Tilt, d6.Most⟩ : Device))[(Int.toNat t1.2.2.1)]?).bind fun d7 => rdL (List.set (List.set (List.set (List.set t1.1 (Int.toNat t1.2.2.1) (⟨x2.1, d3.Kind, d3.Line, ⟨d3.At.X, d3.At.Y⟩, d3.Heading, d3.Tilt, d3.Most⟩ : Device)) (Int.toNat t1.2.2.1) (⟨d4.Name, (w64 (t1.2.1 + 1)), d4.Line, ⟨d4.At.X, d4.At.Y⟩, d4.Heading, d4.Tilt, d4.Most⟩ : Device)) (Int.toNat t1.2.2.1) (⟨d6.Name, d6.Kind, x5.1, ⟨d6.At.X, d6.At.Y⟩, d6.Heading, d6.Tilt, d6.Most⟩ : Device)) (Int.toNat t1.2.2.1) (⟨d7.Name, d7.Kind, d7.Line, ⟨(w64 ((w64 ((w64 (t1.2.1 + 1)) + 1)) + 1)), d7.At.Y⟩, d7.Heading, d7.Tilt, d7.Most⟩ : Device)) t1.2.2.1 fun _ => ((List.set (List.set (List.set (List.set t1.1 (Int.toNat t1.2.2.1) (⟨x2.1, d3.Kind, d3.Line, ⟨d3.At.X, d3.At.Y⟩, d3.Heading, d3.Tilt, d3.Most⟩ : Device)) (Int.toNat t1.2.2.1) (⟨d4.Name, (w64 (t1.2.1 + 1)), d4.Line, ⟨d4.At.X, d4.At.Y⟩, d4.Heading, d4.Tilt, d4.Most⟩ : Device)) (Int.toNat t1.2.2.1) (⟨d6.Name, d6.Kind, x5.1, ⟨d6.At.X, d6.At.Y⟩, d6.Heading, d6.Tilt, d6.Most⟩ : Device)) (Int.toNat t1.2.2.1) (⟨d7.Name, d7.Kind, d7.Line, ⟨(w64 ((w64 ((w64 (t1.2.1 + 1)) + 1)) + 1)), d7.At.Y⟩, d7.Heading, d7.Tilt, d7.Most⟩ : Device))[(Int.toNat t1.2.2.1)]?).bind fun d8 => rdL (List.set (List.set (List.set (List.set (List.set t1.1 (Int.toNat t1.2.2.1) (⟨x2.1, d3.Kind, d3.Line, ⟨d3.At.X, d3.At.Y⟩, d3.Heading, d3.Tilt, d3.Most⟩ : Device)) (Int.toNat t1.2.2.1) (⟨d4.Name, (w64 (t1.2.1 + 1)), d4.Line, ⟨d4.At.X, d4.At.Y⟩, d4.Heading, d4.Tilt, d4.Most⟩ : Device)) (Int.toNat t1.2.2.1) (⟨d6.Name, d6.Kind, x5.1, ⟨d6.At.X, d6.At.Y⟩, d6.Heading, d6.Tilt, d6.Most⟩ : Device)) (Int.toNat t1.2.2.1) (⟨d7.Name, d7.Kind, d7.Line, ⟨(w64 ((w64 ((w64 (t1.2.1 + 1)) + 1)) + 1)), d7.At.Y⟩, d7.Heading, d7.Tilt, d7.Most⟩ : Device)) (Int.toNat t1.2.2.1) (⟨d8.Name, d8.Kind, d8.Line, ⟨d8.At.X, (w64 ((w64 ((w64 ((w64 (t1.2.1 + 1)) + 1)) + 1)) + 1))⟩, d8.Heading, d8.Tilt, d8.Most⟩ : Device)) t1.2.2.1 fun _ => ((List.set (List.set (List.set (List.set (List.set t1.1 (Int.toNat t1.2.2.1) (⟨x2.1, d3.Kind, d3.Line, ⟨d3.At.X, d3.At.Y⟩, d3.Heading, d3.Tilt, d3.Most⟩ : Device)) (Int.toNat t1.2.2.1) (⟨d4.Name, (w64 (t1.2.1 + 1)), d4.Line, ⟨d4.At.X, d4.At.Y⟩, d4.Heading, d4.Tilt, d4.Most⟩ : Device)) (Int.toNat t1.2.2.1) (⟨d6.Name, d6.Kind, x5.1, ⟨d6.At.X, d6.At.Y⟩, d6.Heading, d6.Tilt, d6.Most⟩ : Device)) (Int.toNat t1.2.2.1) (⟨d7.Name, d7.Kind, d7.Line, ⟨(w64 ((w64 ((w64 (t1.2.1 + 1)) + 1)) + 1)), d7.At.Y⟩, d7.Heading, d7.Tilt, d7.Most⟩ : Device)) (Int.toNat t1.2.2.1) (⟨d8.Name, d8.Kind, d8.Line, ⟨d8.At.X, (w64 ((w64 ((w64 ((w64 (t1.2.1 + 1)) + 1)) + 1)) + 1))⟩, d8.Heading, d8.Tilt, d8.Most⟩ : Device))[(Int.toNat t1.2.2.1)]?).bind fun d9 => rdL (List.set (List.set (List.set (List.set (List.set (List.set t1.1 (Int.toNat t1.2.2.1) (⟨x2.1, d3.Kind, d3.Line, ⟨d3.At.X, d3.At.Y⟩, d3.Heading, d3.Tilt, d3.Most⟩ : Device)) (Int.toNat t1.2.2.1) (⟨d4.Name, (w64 (t1.2.1 + 1)), d4.Line, ⟨d4.At.X, d4.At.Y⟩, d4.Heading, d4.Tilt, d4.Most⟩ : Device)) (Int.toNat t1.2.2.1) (⟨d6.Name, d6.Kind, x5.1, ⟨d6.At.X, d6.At.Y⟩, d6.Heading, d6.Tilt, d6.Most⟩ : Device)) (Int.toNat t1.2.2.1) (⟨d7.Name, d7.Kind, d7.Line, ⟨(w64 ((w64 ((w64 (t1.2.1 + 1)) + 1)) + 1)), d7.At.Y⟩, d7.Heading, d7.Tilt, d7.Most⟩ : Device)) (Int.toNat t1.2.2.1) (⟨d8.Name, d8.Kind, d8.Line, ⟨d8.At.X, (w64 ((w64 ((w64 ((w64 (t1.2.1 + 1)) + 1)) + 1)) + 1))⟩, d8.Heading, d8.Tilt, d8.Most⟩ : Device)) (Int.toNat t1.2.2.1) (⟨d9.Name, d9.Kind, d9.Line, ⟨d9.At.X, d9.At.Y⟩, (w64 ((w64 ((w64 ((w64 ((w64 (t1.2.1 + 1)) + 1)) + 1)) + 1)) + 1)), d9.Tilt, d9.Most⟩ : Device)) t1.2.2.1 fun _ => ((List.set (List.set (List.set (List.set (List.set (List.set t1.1 (Int.toNat t1.2.2.1) (⟨x2.1, d3.Kind, d3.Line, ⟨d3.At.X, d3.At.Y⟩, d3.Heading, d3.Tilt, d3.Most⟩ : Device)) (Int.toNat t1.2.2.1) (⟨d4.Name, (w64 (t1.2.1 + 1)), d4.Line, ⟨d4.At.X, d4.At.Y⟩, d4.Heading, d4.Tilt, d4.Most⟩ : Device)) (Int.toNat t1.2.2.1) (⟨d6.Name, d6.Kind, x5.1, ⟨d6.At.X, d6.At.Y⟩, d6.Heading, d6.Tilt, d6.Most⟩ : Device)) (Int.toNat t1.2.2.1) (⟨d7.Name, d7.Kind, d7.Line, ⟨(w64 ((w64 ((w64 (t1.2.1 + 1)) + 1)) + 1)), d7.At.Y⟩, d7.Heading, d7.Tilt, d7.Most⟩ : Device)) (Int.toNat t1.2.2.1) (⟨d8.Name, d8.Kind, d8.Line, ⟨d8.At.X, (w64 ((w64 ((w64 ((w64 (t1.2.1 + 1)) + 1)) + 1)) + 1))⟩, d8.Heading, d8.Tilt, d8.Most⟩ : Device)) (Int.toNat t1.2.2.1) (⟨d9.Name, d9.Kind, d9.Line, ⟨d9.At.X, d9.At.Y⟩, (w64 ((w64 ((w64 ((w64 ((w64 (t1.2.1 + 1)) + 1)) + 1)) + 1)) + 1)), d9.Tilt, d9.Most⟩ : Device))[(Int.toNat t1.2.2.1)]?).bind fun d10 => rdL (List.set (List.set (List.set (List.set (List.set (List.set (List.set t1.1 (Int.toNat t1.2.2.1) (⟨x2.1, d3.Kind, d3.Line, ⟨d3.At.X, d3.At.Y⟩, d3.Heading, d3.Tilt, d3.Most⟩ : Device)) (Int.toNat t1.2.2.1) (⟨d4.Name, (w64 (t1.2.1 + 1)), d4.Line, ⟨d4.At.X, d4.At.Y⟩, d4.Heading, d4.Tilt, d4.Most⟩ : Device)) (Int.toNat t1.2.2.1) (⟨d6.Name, d6.Kind, x5.1, ⟨d6.At.X, d6.At.Y⟩, d6.Heading, d6.Tilt, d6.Most⟩ : Device)) (Int.toNat t1.2.2.1) (⟨d7.Name, d7.Kind, d7.Line, ⟨(w64 ((w64 ((w64 (t1.2.1 + 1)) + 1)) + 1)), d7.At.Y⟩, d7.Heading, d7.Tilt, d7.Most⟩ : Device)) (Int.toNat t1.2.2.1) (⟨d8.Name, d8.Kind, d8.Line, ⟨d8.At.X, (w64 ((w64 ((w64 ((w64 (t1.2.1 + 1)) + 1)) + 1)) + 1))⟩, d8.Heading, d8.Tilt, d8.Most⟩ : Device)) (Int.toNat t1.2.2.1) (⟨d9.Name, d9.Kind, d9.Line, ⟨d9.At.X, d9.At.Y⟩, (w64 ((w64 ((w64 ((w64 ((w64 (t1.2.1 + 1)) + 1)) + 1)) + 1)) + 1)), d9.Tilt, d9.Most⟩ : Device)) (Int.toNat t1.2.2.1) (⟨d10.Name, d10.Kind, d10.Line, ⟨d10.At.X, d10.At.Y⟩, d10.Heading, (w64 ((w64 ((w64 ((w64 ((w64 ((w64 (t1.2.1 + 1)) + 1)) + 1)) + 1)) + 1)) + 1)), d10.Most⟩ : Device)) t1.2.2.1 fun _ => ((List.set (List.set (List.set (List.set (List.set (List.set (List.set t1.1 (Int.toNat t1.2.2.1) (⟨x2.1, d3.Kind, d3.Line, ⟨d3.At.X, d3.At.Y⟩, d3.Heading, d3.Tilt, d3.Most⟩ : Device)) (Int.toNat t1.2.2.1) (⟨d4.Name, (w64 (t1.2.1 + 1)), d4.Line, ⟨d4.At.X, d4.At.Y⟩, d4.Heading, d4.Tilt, d4.Most⟩ : Device)) (Int.toNat t1.2.2.1) (⟨d6.Name, d6.Kind, x5.1, ⟨d6.At.X, d6.At.Y⟩, d6.Heading, d6.Tilt, d6.Most⟩ : Device)) (Int.toNat t1.2.2.1) (⟨d7.Name, d7.Kind, d7.Line, ⟨(w64 ((w64 ((w64 (t1.2.1 + 1)) + 1)) + 1)), d7.At.Y⟩, d7.Heading, d7.Tilt, d7.Most⟩ : Device)) (Int.toNat t1.2.2.1) (⟨d8.Name, d8.Kind, d8.Line, ⟨d8.At.X, (w64 ((w64 ((w64 ((w64 (t1.2.1 + 1)) + 1)) + 1)) + 1))⟩, d8.Heading, d8.Tilt, d8.Most⟩ : Device)) (Int.toNat t1.2.2.1) (⟨d9.Name, d9.Kind, d9.Line, ⟨d9.At.X, d9.At.Y⟩, (w64 ((w64 ((w64 ((w64 ((w64 (t1.2.1 + 1)) + 1)) + 1)) + 1)) + 1)), d9.Tilt, d9.Most⟩ : Device)) (Int.toNat t1.2.2.1) (⟨d10.Name, d10.Kind, d10.Line, ⟨d10.At.X, d10.At.Y⟩, d10.Heading, (w64 ((w64 ((w64 ((w64 ((w64 ((w64 (t1.2.1 + 1)) + 1)) + 1)) + 1)) + 1)) + 1)), d10.Most⟩ : Device))[(Int.toNat t1.2.2.1)]?).bind fun d11 => rec ((List.set (List.set (List.set (List.set (List.set (List.set (List.set (List.set t1.1 (Int.toNat t1.2.2.1) (⟨x2.1, d3.Kind, d3.Line, ⟨d3.At.X, d3.At.Y⟩, d3.Heading, d3.Tilt, d3.Most⟩ : Device)) (Int.toNat t1.2.2.1) (⟨d4.Name, (w64 (t1.2.1 + 1)), d4.Line, ⟨d4.At.X, d4.At.Y⟩, d4.Heading, d4.Tilt, d4.Most⟩ : Device)) (Int.toNat t1.2.2.1) (⟨d6.Name, d6.Kind, x5.1, ⟨d6.At.X, d6.At.Y⟩, d6.Heading, d6.Tilt, d6.Most⟩ : Device)) (Int.toNat t1.2.2.1) (⟨d7.Name, d7.Kind, d7.Line, ⟨(w64 ((w64 ((w64 (t1.2.1 + 1)) + 1)) + 1)), d7.At.Y⟩, d7.Heading, d7.Tilt, d7.Most⟩ : Device)) (Int.toNat t1.2.2.1) (⟨d8.Name, d8.Kind, d8.Line, ⟨d8.At.X, (w64 ((w64 ((w64 ((w64 (t1.2.1 + 1)) + 1)) + 1)) + 1))⟩, d8.Heading, d8.Tilt, d8.Most⟩ : Device)) (Int.toNat t1.2.2.1) (⟨d9.Name, d9.Kind, d9.Line, ⟨d9.At.X, d9.At.Y⟩, (w64 ((w64 ((w64 ((w64 ((w64 (t1.2.1 + 1)) + 1)) + 1)) + 1)) + 1)), d9.Tilt, d9.Most⟩ : Device)) (Int.toNat t1.2.2.1) (⟨d10.Name, d10.Kind, d10.Line, ⟨d10.At.X, d10.At.Y⟩, d10.Heading, (w64 ((w64 ((w64 ((w64 ((w64 ((w64 (t1.2.1 + 1)) + 1)) + 1)) + 1)) + 1)) + 1)), d10.Most⟩ : Device)) (Int.toNat t1.2.2.1) (⟨d11.Name, d11.Kind, d11.Line, ⟨d11.At.X, d11.At.Y⟩, d11.Heading, d11.Tilt, (w64 ((w64 ((w64 ((w64 ((w64 ((w64 ((w64 (t1.2.1 + 1)) + 1)) + 1)) + 1)) + 1)) + 1)) + 1))⟩ : Device)), (w64 ((w64 ((w64 ((w64 ((w64 ((w64 ((w64 ((w64 (t1.2.1 + 1)) + 1)) + 1)) + 1)) + 1)) + 1)) + 1)) + 1)), (w64 (t1.2.2.1 + 1)), ())) (K (t1.1, t1.2.1, t1.2.2.1, ()))
noncomputable def F45 (f86 : Int × Unit → Option (Str × Unit)) (a : List Device × Int × Unit) : Option (List Device × Int × Unit) :=
  iterF (s45_0 f86) fuel (a.1, a.2.1, 0, ()) fun t12 => some (t12.1, t12.2.1, ())
def E45 (f86 : Int × Unit → Option (Str × Unit)) : Env := envL [(86, mkE p86 r86 false f86)]
noncomputable def L45 (f86 : Int × Unit → Option (Str × Unit)) : LEnv (densS (muts p45 ++ r45)) := lenv [(0, loopL (R := densS (muts p45 ++ r45)) q45_0 (s45_0 f86))]
theorem e45_0 (f86 : Int × Unit → Option (Str × Unit)) (X : Nat → St → Option (densS (muts p45 ++ r45))) (rec K : densS q45_0 → Option (densS (muts p45 ++ r45))) (t : densS q45_0) :
    ev (E45 f86) tab (fun _ => false) (L45 f86) (retK tab p45 r45 Proofs.Try.f45.results.toList) (loopC Proofs.Try.f45 0) (fun i s => cond (Nat.beq i 0) (decK 100 q45_0 s K) (X i s)) (fun s => decK 100 q45_0 s rec) (enc q45_0 t) = s45_0 f86 t rec K := by kernel_rfl
theorem e45 (f86 : Int × Unit → Option (Str × Unit)) (a : densS p45) : runF (E45 f86) tab (fun _ => false) p45 r45 Proofs.Try.f45 (L45 f86) a = F45 f86 a := by kernel_rfl
theorem ok45 {f86 : Int × Unit → Option (Str × Unit)} (h86 : OK Proofs.Try.prog 86 (mkE p86 r86 false f86)) : OK Proofs.Try.prog 45 (mkE p45 r45 false (F45 f86)) :=
  fn_ok tab_ok (envL_ok (l := [(86, mkE p86 r86 false f86)]) (OKs.cons h86 OKs.nil)) mixed (ann := (fun _ => false)) (L := L45 f86) (fn := Proofs.Try.f45) (c := bodyC Proofs.Try.f45) (ls := [(0, loopC Proofs.Try.f45 0)]) Proofs.Try.func45 (by kernel_rfl) (by kernel_rfl) (by kernel_rfl) (by kernel_rfl)
    (LoopsP.cons q45_0 (s45_0 f86) rfl (e45_0 f86) LoopsP.nil) (e45 f86)
/-! laws.markCueS -/
def p46 : List SP := [.one (.o 0 .cue), .one (.int .i64)]
def r46 : List SP := [.one (.int .i64)]
def q46_0 : List SP := pat 42 0 [(0, .one (.o 0 .cue)), (1, .one (.int .i64)), (5, .one (.int .i64))]
noncomputable def s46_0 (f86 : Int × Unit → Option (Str × Unit)) (t1 : List Cue × Int × Int × Unit) (rec K : List Cue × Int × Int × Unit → Option (List Cue × Int × Unit)) : Option (List Cue × Int × Unit) :=
  cond (decide (t1.2.2.1 < (Int.ofNat (List.length t1.1)))) (rdL t1.1 t1.2.2.1 fun _ => (t1.1[(Int.toNat t1.2.2.1)]?).bind fun d2 => (f86 ((w64 (t1.2.1 + 1)), ())).bind fun x3 => rdL (List.set t1.1 (Int.toNat t1.2.2.1) (⟨t1.2.1, d2.Name, d2.Level, d2.Ramp⟩ : Cue)) t1.2.2.1 fun _ => ((List.set t1.1 (Int.toNat t1.2.2.1) (⟨t1.2.1, d2.Name, d2.Level, d2.Ramp⟩ : Cue))[(Int.toNat t1.2.2.1)]?).bind fun d4 => rdL (List.set (List.set t1.1 (Int.toNat t1.2.2.1) (⟨t1.2.1, d2.Name, d2.Level, d2.Ramp⟩ : Cue)) (Int.toNat t1.2.2.1) (⟨d4.Tick, x3.1, d4.Level, d4.Ramp⟩ : Cue)) t1.2.2.1 fun _ => ((List.set (List.set t1.1 (Int.toNat t1.2.2.1) (⟨t1.2.1, d2.Name, d2.Level, d2.Ramp⟩ : Cue)) (Int.toNat t1.2.2.1) (⟨d4.Tick, x3.1, d4.Level, d4.Ramp⟩ : Cue))[(Int.toNat t1.2.2.1)]?).bind fun d5 => rdL (List.set (List.set (List.set t1.1 (Int.toNat t1.2.2.1) (⟨t1.2.1, d2.Name, d2.Level, d2.Ramp⟩ : Cue)) (Int.toNat t1.2.2.1) (⟨d4.Tick, x3.1, d4.Level, d4.Ramp⟩ : Cue)) (Int.toNat t1.2.2.1) (⟨d5.Tick, d5.Name, (w64 ((w64 (t1.2.1 + 1)) + 1)), d5.Ramp⟩ : Cue)) t1.2.2.1 fun _ => ((List.set (List.set (List.set t1.1 (Int.toNat t1.2.2.1) (⟨t1.2.1, d2.Name, d2.Level, d2.Ramp⟩ : Cue)) (Int.toNat t1.2.2.1) (⟨d4.Tick, x3.1, d4.Level, d4.Ramp⟩ : Cue)) (Int.toNat t1.2.2.1) (⟨d5.Tick, d5.Name, (w64 ((w64 (t1.2.1 + 1)) + 1)), d5.Ramp⟩ : Cue))[(Int.toNat t1.2.2.1)]?).bind fun d6 => rec ((List.set (List.set (List.set (List.set t1.1 (Int.toNat t1.2.2.1) (⟨t1.2.1, d2.Name, d2.Level, d2.Ramp⟩ : Cue)) (Int.toNat t1.2.2.1) (⟨d4.Tick, x3.1, d4.Level, d4.Ramp⟩ : Cue)) (Int.toNat t1.2.2.1) (⟨d5.Tick, d5.Name, (w64 ((w64 (t1.2.1 + 1)) + 1)), d5.Ramp⟩ : Cue)) (Int.toNat t1.2.2.1) (⟨d6.Tick, d6.Name, d6.Level, (w64 ((w64 ((w64 (t1.2.1 + 1)) + 1)) + 1))⟩ : Cue)), (w64 ((w64 ((w64 ((w64 (t1.2.1 + 1)) + 1)) + 1)) + 1)), (w64 (t1.2.2.1 + 1)), ())) (K (t1.1, t1.2.1, t1.2.2.1, ()))
noncomputable def F46 (f86 : Int × Unit → Option (Str × Unit)) (a : List Cue × Int × Unit) : Option (List Cue × Int × Unit) :=
  iterF (s46_0 f86) fuel (a.1, a.2.1, 0, ()) fun t7 => some (t7.1, t7.2.1, ())
def E46 (f86 : Int × Unit → Option (Str × Unit)) : Env := envL [(86, mkE p86 r86 false f86)]
noncomputable def L46 (f86 : Int × Unit → Option (Str × Unit)) : LEnv (densS (muts p46 ++ r46)) := lenv [(0, loopL (R := densS (muts p46 ++ r46)) q46_0 (s46_0 f86))]
theorem e46_0 (f86 : Int × Unit → Option (Str × Unit)) (X : Nat → St → Option (densS (muts p46 ++ r46))) (rec K : densS q46_0 → Option (densS (muts p46 ++ r46))) (t : densS q46_0) :
    ev (E46 f86) tab (fun _ => false) (L46 f86) (retK tab p46 r46 Proofs.Try.f46.results.toList) (loopC Proofs.Try.f46 0) (fun i s => cond (Nat.beq i 0) (decK 100 q46_0 s K) (X i s)) (fun s => decK 100 q46_0 s rec) (enc q46_0 t) = s46_0 f86 t rec K := by kernel_rfl
theorem e46 (f86 : Int × Unit → Option (Str × Unit)) (a : densS p46) : runF (E46 f86) tab (fun _ => false) p46 r46 Proofs.Try.f46 (L46 f86) a = F46 f86 a := by kernel_rfl
theorem ok46 {f86 : Int × Unit → Option (Str × Unit)} (h86 : OK Proofs.Try.prog 86 (mkE p86 r86 false f86)) : OK Proofs.Try.prog 46 (mkE p46 r46 false (F46 f86)) :=
  fn_ok tab_ok (envL_ok (l := [(86, mkE p86 r86 false f86)]) (OKs.cons h86 OKs.nil)) mixed (ann := (fun _ => false)) (L := L46 f86) (fn := Proofs.Try.f46) (c := bodyC Proofs.Try.f46) (ls := [(0, loopC Proofs.Try.f46 0)]) Proofs.Try.func46 (by kernel_rfl) (by kernel_rfl) (by kernel_rfl) (by kernel_rfl)
    (LoopsP.cons q46_0 (s46_0 f86) rfl (e46_0 f86) LoopsP.nil) (e46 f86)
/-! laws.markGustS -/
def p47 : List SP := [.one (.o 0 .gust), .one (.int .i64)]
def r47 : List SP := [.one (.int .i64)]
def q47_0 : List SP := pat 36 0 [(0, .one (.o 0 .gust)), (1, .one (.int .i64)), (5, .one (.int .i64))]
noncomputable def s47_0 (t1 : List Gust × Int × Int × Unit) (rec K : List Gust × Int × Int × Unit → Option (List Gust × Int × Unit)) : Option (List Gust × Int × Unit) :=
  cond (decide (t1.2.2.1 < (Int.ofNat (List.length t1.1)))) (rdL t1.1 t1.2.2.1 fun _ => (t1.1[(Int.toNat t1.2.2.1)]?).bind fun d2 => rdL (List.set t1.1 (Int.toNat t1.2.2.1) (⟨t1.2.1, ⟨d2.Drift.X, d2.Drift.Y⟩⟩ : Gust)) t1.2.2.1 fun _ => ((List.set t1.1 (Int.toNat t1.2.2.1) (⟨t1.2.1, ⟨d2.Drift.X, d2.Drift.Y⟩⟩ : Gust))[(Int.toNat t1.2.2.1)]?).bind fun d3 => rdL (List.set (List.set t1.1 (Int.toNat t1.2.2.1) (⟨t1.2.1, ⟨d2.Drift.X, d2.Drift.Y⟩⟩ : Gust)) (Int.toNat t1.2.2.1) (⟨d3.From, ⟨(w64 (t1.2.1 + 1)), d3.Drift.Y⟩⟩ : Gust)) t1.2.2.1 fun _ => ((List.set (List.set t1.1 (Int.toNat t1.2.2.1) (⟨t1.2.1, ⟨d2.Drift.X, d2.Drift.Y⟩⟩ : Gust)) (Int.toNat t1.2.2.1) (⟨d3.From, ⟨(w64 (t1.2.1 + 1)), d3.Drift.Y⟩⟩ : Gust))[(Int.toNat t1.2.2.1)]?).bind fun d4 => rec ((List.set (List.set (List.set t1.1 (Int.toNat t1.2.2.1) (⟨t1.2.1, ⟨d2.Drift.X, d2.Drift.Y⟩⟩ : Gust)) (Int.toNat t1.2.2.1) (⟨d3.From, ⟨(w64 (t1.2.1 + 1)), d3.Drift.Y⟩⟩ : Gust)) (Int.toNat t1.2.2.1) (⟨d4.From, ⟨d4.Drift.X, (w64 ((w64 (t1.2.1 + 1)) + 1))⟩⟩ : Gust)), (w64 ((w64 ((w64 (t1.2.1 + 1)) + 1)) + 1)), (w64 (t1.2.2.1 + 1)), ())) (K (t1.1, t1.2.1, t1.2.2.1, ()))
noncomputable def F47 (a : List Gust × Int × Unit) : Option (List Gust × Int × Unit) :=
  iterF (s47_0) fuel (a.1, a.2.1, 0, ()) fun t5 => some (t5.1, t5.2.1, ())
def E47 : Env := envL []
noncomputable def L47 : LEnv (densS (muts p47 ++ r47)) := lenv [(0, loopL (R := densS (muts p47 ++ r47)) q47_0 (s47_0))]
theorem e47_0 (X : Nat → St → Option (densS (muts p47 ++ r47))) (rec K : densS q47_0 → Option (densS (muts p47 ++ r47))) (t : densS q47_0) :
    ev (E47) tab (fun _ => false) (L47) (retK tab p47 r47 Proofs.Try.f47.results.toList) (loopC Proofs.Try.f47 0) (fun i s => cond (Nat.beq i 0) (decK 100 q47_0 s K) (X i s)) (fun s => decK 100 q47_0 s rec) (enc q47_0 t) = s47_0 t rec K := by kernel_rfl
theorem e47 (a : densS p47) : runF (E47) tab (fun _ => false) p47 r47 Proofs.Try.f47 (L47) a = F47 a := by kernel_rfl
theorem ok47 : OK Proofs.Try.prog 47 (mkE p47 r47 false (F47)) :=
  fn_ok tab_ok (envL_ok (l := []) OKs.nil) mixed (ann := (fun _ => false)) (L := L47) (fn := Proofs.Try.f47) (c := bodyC Proofs.Try.f47) (ls := [(0, loopC Proofs.Try.f47 0)]) Proofs.Try.func47 (by kernel_rfl) (by kernel_rfl) (by kernel_rfl) (by kernel_rfl)
    (LoopsP.cons q47_0 (s47_0) rfl (e47_0) LoopsP.nil) (e47)
/-! laws.markShow -/
def p17 : List SP := [.agg [.o 0 .device, .o 1 .cue, .o 2 .gust, .int .i64], .one (.int .i64)]
def r17 : List SP := [.one (.int .i64)]
noncomputable def F17 (f45 : List Device × Int × Unit → Option (List Device × Int × Unit)) (f46 : List Cue × Int × Unit → Option (List Cue × Int × Unit)) (f47 : List Gust × Int × Unit → Option (List Gust × Int × Unit)) (a : (List Device × List Cue × List Gust × Int × Unit) × Int × Unit) : Option (List Device × List Cue × List Gust × Int × Unit) :=
  (f45 (a.1.1, a.2.1, ())).bind fun x1 => (f46 (a.1.2.1, x1.2.1, ())).bind fun x2 => (f47 (a.1.2.2.1, x2.2.1, ())).bind fun x3 => some (x1.1, x2.1, x3.1, x3.2.1, ())
def E17 (f45 : List Device × Int × Unit → Option (List Device × Int × Unit)) (f46 : List Cue × Int × Unit → Option (List Cue × Int × Unit)) (f47 : List Gust × Int × Unit → Option (List Gust × Int × Unit)) : Env := envL [(45, mkE p45 r45 false f45), (46, mkE p46 r46 false f46), (47, mkE p47 r47 false f47)]
noncomputable def L17 (f45 : List Device × Int × Unit → Option (List Device × Int × Unit)) (f46 : List Cue × Int × Unit → Option (List Cue × Int × Unit)) (f47 : List Gust × Int × Unit → Option (List Gust × Int × Unit)) : LEnv (densS (muts p17 ++ r17)) := lenv []
theorem e17 (f45 : List Device × Int × Unit → Option (List Device × Int × Unit)) (f46 : List Cue × Int × Unit → Option (List Cue × Int × Unit)) (f47 : List Gust × Int × Unit → Option (List Gust × Int × Unit)) (a : densS p17) : runF (E17 f45 f46 f47) tab (fun _ => false) p17 r17 Proofs.Try.f17 (L17 f45 f46 f47) a = F17 f45 f46 f47 a := by kernel_rfl
theorem ok17 {f45 : List Device × Int × Unit → Option (List Device × Int × Unit)} {f46 : List Cue × Int × Unit → Option (List Cue × Int × Unit)} {f47 : List Gust × Int × Unit → Option (List Gust × Int × Unit)} (h45 : OK Proofs.Try.prog 45 (mkE p45 r45 false f45)) (h46 : OK Proofs.Try.prog 46 (mkE p46 r46 false f46)) (h47 : OK Proofs.Try.prog 47 (mkE p47 r47 false f47)) : OK Proofs.Try.prog 17 (mkE p17 r17 false (F17 f45 f46 f47)) :=
  fn_ok tab_ok (envL_ok (l := [(45, mkE p45 r45 false f45), (46, mkE p46 r46 false f46), (47, mkE p47 r47 false f47)]) (OKs.cons h45 (OKs.cons h46 (OKs.cons h47 OKs.nil)))) mixed (ann := (fun _ => false)) (L := L17 f45 f46 f47) (fn := Proofs.Try.f17) (c := bodyC Proofs.Try.f17) (ls := []) Proofs.Try.func17 (by kernel_rfl) (by kernel_rfl) (by kernel_rfl) (by kernel_rfl)
    LoopsP.nil (e17 f45 f46 f47)
/-! laws.heldDeviceS -/
def p48 : List SP := [.one (.r .device), .one (.int .i64)]
def r48 : List SP := [.one (.int .i64)]
def q48_0 : List SP := pat 89 0 [(0, .one (.r .device)), (1, .one (.int .i64)), (5, .one (.int .i64))]
noncomputable def s48_0 (f86 : Int × Unit → Option (Str × Unit)) (t1 : List Device × Int × Int × Unit) (rec K : List Device × Int × Int × Unit → Option (Int × Unit)) : Option (Int × Unit) :=
  cond (decide (t1.2.2.1 < (Int.ofNat (List.length t1.1)))) (rdL t1.1 t1.2.2.1 fun d2 => (f86 (t1.2.1, ())).bind fun x3 => cond (!decide (d2.Name = x3.1)) (some ((-1), ())) (rdL t1.1 t1.2.2.1 fun d4 => cond (!(decide (d4.Kind = (w64 (t1.2.1 + 1))))) (some ((-1), ())) (rdL t1.1 t1.2.2.1 fun d5 => (f86 ((w64 ((w64 (t1.2.1 + 1)) + 1)), ())).bind fun x6 => cond (!decide (d5.Line = x6.1)) (some ((-1), ())) (rdL t1.1 t1.2.2.1 fun d7 => cond (!(decide (d7.At.X = (w64 ((w64 ((w64 (t1.2.1 + 1)) + 1)) + 1))))) (some ((-1), ())) (rdL t1.1 t1.2.2.1 fun d8 => cond (!(decide (d8.At.Y = (w64 ((w64 ((w64 ((w64 (t1.2.1 + 1)) + 1)) + 1)) + 1))))) (some ((-1), ())) (rdL t1.1 t1.2.2.1 fun d9 => cond (!(decide (d9.Heading = (w64 ((w64 ((w64 ((w64 ((w64 (t1.2.1 + 1)) + 1)) + 1)) + 1)) + 1))))) (some ((-1), ())) (rdL t1.1 t1.2.2.1 fun d10 => cond (!(decide (d10.Tilt = (w64 ((w64 ((w64 ((w64 ((w64 ((w64 (t1.2.1 + 1)) + 1)) + 1)) + 1)) + 1)) + 1))))) (some ((-1), ())) (rdL t1.1 t1.2.2.1 fun d11 => cond (!(decide (d11.Most = (w64 ((w64 ((w64 ((w64 ((w64 ((w64 ((w64 (t1.2.1 + 1)) + 1)) + 1)) + 1)) + 1)) + 1)) + 1))))) (some ((-1), ())) (rec (t1.1, (w64 ((w64 ((w64 ((w64 ((w64 ((w64 ((w64 ((w64 (t1.2.1 + 1)) + 1)) + 1)) + 1)) + 1)) + 1)) + 1)) + 1)), (w64 (t1.2.2.1 + 1)), ())))))))))) (K (t1.1, t1.2.1, t1.2.2.1, ()))
noncomputable def F48 (f86 : Int × Unit → Option (Str × Unit)) (a : List Device × Int × Unit) : Option (Int × Unit) :=
  iterF (s48_0 f86) fuel (a.1, a.2.1, 0, ()) fun t12 => some (t12.2.1, ())
def E48 (f86 : Int × Unit → Option (Str × Unit)) : Env := envL [(86, mkE p86 r86 false f86)]
noncomputable def L48 (f86 : Int × Unit → Option (Str × Unit)) : LEnv (densS (muts p48 ++ r48)) := lenv [(0, loopL (R := densS (muts p48 ++ r48)) q48_0 (s48_0 f86))]
theorem e48_0 (f86 : Int × Unit → Option (Str × Unit)) (X : Nat → St → Option (densS (muts p48 ++ r48))) (rec K : densS q48_0 → Option (densS (muts p48 ++ r48))) (t : densS q48_0) :
    ev (E48 f86) tab (fun _ => false) (L48 f86) (retK tab p48 r48 Proofs.Try.f48.results.toList) (loopC Proofs.Try.f48 0) (fun i s => cond (Nat.beq i 0) (decK 100 q48_0 s K) (X i s)) (fun s => decK 100 q48_0 s rec) (enc q48_0 t) = s48_0 f86 t rec K := by kernel_rfl
theorem e48 (f86 : Int × Unit → Option (Str × Unit)) (a : densS p48) : runF (E48 f86) tab (fun _ => false) p48 r48 Proofs.Try.f48 (L48 f86) a = F48 f86 a := by kernel_rfl
theorem ok48 {f86 : Int × Unit → Option (Str × Unit)} (h86 : OK Proofs.Try.prog 86 (mkE p86 r86 false f86)) : OK Proofs.Try.prog 48 (mkE p48 r48 false (F48 f86)) :=
  fn_ok tab_ok (envL_ok (l := [(86, mkE p86 r86 false f86)]) (OKs.cons h86 OKs.nil)) mixed (ann := (fun _ => false)) (L := L48 f86) (fn := Proofs.Try.f48) (c := bodyC Proofs.Try.f48) (ls := [(0, loopC Proofs.Try.f48 0)]) Proofs.Try.func48 (by kernel_rfl) (by kernel_rfl) (by kernel_rfl) (by kernel_rfl)
    (LoopsP.cons q48_0 (s48_0 f86) rfl (e48_0 f86) LoopsP.nil) (e48 f86)
/-! laws.heldCueS -/
def p49 : List SP := [.one (.r .cue), .one (.int .i64)]
def r49 : List SP := [.one (.int .i64)]
def q49_0 : List SP := pat 50 0 [(0, .one (.r .cue)), (1, .one (.int .i64)), (5, .one (.int .i64))]
noncomputable def s49_0 (f86 : Int × Unit → Option (Str × Unit)) (t1 : List Cue × Int × Int × Unit) (rec K : List Cue × Int × Int × Unit → Option (Int × Unit)) : Option (Int × Unit) :=
  cond (decide (t1.2.2.1 < (Int.ofNat (List.length t1.1)))) (rdL t1.1 t1.2.2.1 fun d2 => cond (!(decide (d2.Tick = t1.2.1))) (some ((-1), ())) (rdL t1.1 t1.2.2.1 fun d3 => (f86 ((w64 (t1.2.1 + 1)), ())).bind fun x4 => cond (!decide (d3.Name = x4.1)) (some ((-1), ())) (rdL t1.1 t1.2.2.1 fun d5 => cond (!(decide (d5.Level = (w64 ((w64 (t1.2.1 + 1)) + 1))))) (some ((-1), ())) (rdL t1.1 t1.2.2.1 fun d6 => cond (!(decide (d6.Ramp = (w64 ((w64 ((w64 (t1.2.1 + 1)) + 1)) + 1))))) (some ((-1), ())) (rec (t1.1, (w64 ((w64 ((w64 ((w64 (t1.2.1 + 1)) + 1)) + 1)) + 1)), (w64 (t1.2.2.1 + 1)), ())))))) (K (t1.1, t1.2.1, t1.2.2.1, ()))
noncomputable def F49 (f86 : Int × Unit → Option (Str × Unit)) (a : List Cue × Int × Unit) : Option (Int × Unit) :=
  iterF (s49_0 f86) fuel (a.1, a.2.1, 0, ()) fun t7 => some (t7.2.1, ())
def E49 (f86 : Int × Unit → Option (Str × Unit)) : Env := envL [(86, mkE p86 r86 false f86)]
noncomputable def L49 (f86 : Int × Unit → Option (Str × Unit)) : LEnv (densS (muts p49 ++ r49)) := lenv [(0, loopL (R := densS (muts p49 ++ r49)) q49_0 (s49_0 f86))]
theorem e49_0 (f86 : Int × Unit → Option (Str × Unit)) (X : Nat → St → Option (densS (muts p49 ++ r49))) (rec K : densS q49_0 → Option (densS (muts p49 ++ r49))) (t : densS q49_0) :
    ev (E49 f86) tab (fun _ => false) (L49 f86) (retK tab p49 r49 Proofs.Try.f49.results.toList) (loopC Proofs.Try.f49 0) (fun i s => cond (Nat.beq i 0) (decK 100 q49_0 s K) (X i s)) (fun s => decK 100 q49_0 s rec) (enc q49_0 t) = s49_0 f86 t rec K := by kernel_rfl
theorem e49 (f86 : Int × Unit → Option (Str × Unit)) (a : densS p49) : runF (E49 f86) tab (fun _ => false) p49 r49 Proofs.Try.f49 (L49 f86) a = F49 f86 a := by kernel_rfl
theorem ok49 {f86 : Int × Unit → Option (Str × Unit)} (h86 : OK Proofs.Try.prog 86 (mkE p86 r86 false f86)) : OK Proofs.Try.prog 49 (mkE p49 r49 false (F49 f86)) :=
  fn_ok tab_ok (envL_ok (l := [(86, mkE p86 r86 false f86)]) (OKs.cons h86 OKs.nil)) mixed (ann := (fun _ => false)) (L := L49 f86) (fn := Proofs.Try.f49) (c := bodyC Proofs.Try.f49) (ls := [(0, loopC Proofs.Try.f49 0)]) Proofs.Try.func49 (by kernel_rfl) (by kernel_rfl) (by kernel_rfl) (by kernel_rfl)
    (LoopsP.cons q49_0 (s49_0 f86) rfl (e49_0 f86) LoopsP.nil) (e49 f86)
/-! laws.heldGustS -/
def p50 : List SP := [.one (.r .gust), .one (.int .i64)]
def r50 : List SP := [.one (.int .i64)]
def q50_0 : List SP := pat 42 0 [(0, .one (.r .gust)), (1, .one (.int .i64)), (5, .one (.int .i64))]
noncomputable def s50_0 (t1 : List Gust × Int × Int × Unit) (rec K : List Gust × Int × Int × Unit → Option (Int × Unit)) : Option (Int × Unit) :=
  cond (decide (t1.2.2.1 < (Int.ofNat (List.length t1.1)))) (rdL t1.1 t1.2.2.1 fun d2 => cond (!(decide (d2.From = t1.2.1))) (some ((-1), ())) (rdL t1.1 t1.2.2.1 fun d3 => cond (!(decide (d3.Drift.X = (w64 (t1.2.1 + 1))))) (some ((-1), ())) (rdL t1.1 t1.2.2.1 fun d4 => cond (!(decide (d4.Drift.Y = (w64 ((w64 (t1.2.1 + 1)) + 1))))) (some ((-1), ())) (rec (t1.1, (w64 ((w64 ((w64 (t1.2.1 + 1)) + 1)) + 1)), (w64 (t1.2.2.1 + 1)), ()))))) (K (t1.1, t1.2.1, t1.2.2.1, ()))
noncomputable def F50 (a : List Gust × Int × Unit) : Option (Int × Unit) :=
  iterF (s50_0) fuel (a.1, a.2.1, 0, ()) fun t5 => some (t5.2.1, ())
def E50 : Env := envL []
noncomputable def L50 : LEnv (densS (muts p50 ++ r50)) := lenv [(0, loopL (R := densS (muts p50 ++ r50)) q50_0 (s50_0))]
theorem e50_0 (X : Nat → St → Option (densS (muts p50 ++ r50))) (rec K : densS q50_0 → Option (densS (muts p50 ++ r50))) (t : densS q50_0) :
    ev (E50) tab (fun _ => false) (L50) (retK tab p50 r50 Proofs.Try.f50.results.toList) (loopC Proofs.Try.f50 0) (fun i s => cond (Nat.beq i 0) (decK 100 q50_0 s K) (X i s)) (fun s => decK 100 q50_0 s rec) (enc q50_0 t) = s50_0 t rec K := by kernel_rfl
theorem e50 (a : densS p50) : runF (E50) tab (fun _ => false) p50 r50 Proofs.Try.f50 (L50) a = F50 a := by kernel_rfl
theorem ok50 : OK Proofs.Try.prog 50 (mkE p50 r50 false (F50)) :=
  fn_ok tab_ok (envL_ok (l := []) OKs.nil) mixed (ann := (fun _ => false)) (L := L50) (fn := Proofs.Try.f50) (c := bodyC Proofs.Try.f50) (ls := [(0, loopC Proofs.Try.f50 0)]) Proofs.Try.func50 (by kernel_rfl) (by kernel_rfl) (by kernel_rfl) (by kernel_rfl)
    (LoopsP.cons q50_0 (s50_0) rfl (e50_0) LoopsP.nil) (e50)
/-! laws.heldShow -/
def p18 : List SP := [.agg [.r .device, .r .cue, .r .gust, .int .i64], .one (.int .i64)]
def r18 : List SP := [.one (.int .i64)]
noncomputable def F18 (f48 : List Device × Int × Unit → Option (Int × Unit)) (f49 : List Cue × Int × Unit → Option (Int × Unit)) (f50 : List Gust × Int × Unit → Option (Int × Unit)) (a : (List Device × List Cue × List Gust × Int × Unit) × Int × Unit) : Option (Int × Unit) :=
  (f48 (a.1.1, a.2.1, ())).bind fun x1 => cond (decide (x1.1 < 0)) (some ((-1), ())) ((f49 (a.1.2.1, x1.1, ())).bind fun x2 => cond (decide (x2.1 < 0)) (some ((-1), ())) ((f50 (a.1.2.2.1, x2.1, ())).bind fun x3 => cond (decide (x3.1 < 0)) (some ((-1), ())) (some (x3.1, ()))))
def E18 (f48 : List Device × Int × Unit → Option (Int × Unit)) (f49 : List Cue × Int × Unit → Option (Int × Unit)) (f50 : List Gust × Int × Unit → Option (Int × Unit)) : Env := envL [(48, mkE p48 r48 false f48), (49, mkE p49 r49 false f49), (50, mkE p50 r50 false f50)]
noncomputable def L18 (f48 : List Device × Int × Unit → Option (Int × Unit)) (f49 : List Cue × Int × Unit → Option (Int × Unit)) (f50 : List Gust × Int × Unit → Option (Int × Unit)) : LEnv (densS (muts p18 ++ r18)) := lenv []
theorem e18 (f48 : List Device × Int × Unit → Option (Int × Unit)) (f49 : List Cue × Int × Unit → Option (Int × Unit)) (f50 : List Gust × Int × Unit → Option (Int × Unit)) (a : densS p18) : runF (E18 f48 f49 f50) tab (fun _ => false) p18 r18 Proofs.Try.f18 (L18 f48 f49 f50) a = F18 f48 f49 f50 a := by kernel_rfl
theorem ok18 {f48 : List Device × Int × Unit → Option (Int × Unit)} {f49 : List Cue × Int × Unit → Option (Int × Unit)} {f50 : List Gust × Int × Unit → Option (Int × Unit)} (h48 : OK Proofs.Try.prog 48 (mkE p48 r48 false f48)) (h49 : OK Proofs.Try.prog 49 (mkE p49 r49 false f49)) (h50 : OK Proofs.Try.prog 50 (mkE p50 r50 false f50)) : OK Proofs.Try.prog 18 (mkE p18 r18 false (F18 f48 f49 f50)) :=
  fn_ok tab_ok (envL_ok (l := [(48, mkE p48 r48 false f48), (49, mkE p49 r49 false f49), (50, mkE p50 r50 false f50)]) (OKs.cons h48 (OKs.cons h49 (OKs.cons h50 OKs.nil)))) mixed (ann := (fun _ => false)) (L := L18 f48 f49 f50) (fn := Proofs.Try.f18) (c := bodyC Proofs.Try.f18) (ls := []) Proofs.Try.func18 (by kernel_rfl) (by kernel_rfl) (by kernel_rfl) (by kernel_rfl)
    LoopsP.nil (e18 f48 f49 f50)
/-! laws.FnExactTurnShow -/
def p5 : List SP := [.agg [.r .device, .r .cue, .r .gust, .int .i64], .one (.int .i64)]
def r5 : List SP := [.one (.bool)]
noncomputable def F5 (f11 : (List Device × List Cue × List Gust × Int × Unit) × Int × Unit → Option (Int × Unit)) (f13 : (List Device × List Cue × List Gust × Int × Unit) × Unit → Option ((List Device × List Cue × List Gust × Int × Unit) × Unit)) (f19 : (List Device × List Cue × List Gust × Int × Unit) × Int × Unit → Option ((List Device × List Cue × List Gust × Int × Unit) × Unit)) (f20 : (List Device × List Cue × List Gust × Int × Unit) × Int × Unit → Option ((List Device × List Cue × List Gust × Int × Unit) × Unit)) (f16 : (List Device × List Cue × List Gust × Int × Unit) × (List Device × List Cue × List Gust × Int × Unit) × Unit → Option (Bool × Unit)) (f17 : (List Device × List Cue × List Gust × Int × Unit) × Int × Unit → Option (List Device × List Cue × List Gust × Int × Unit)) (f18 : (List Device × List Cue × List Gust × Int × Unit) × Int × Unit → Option (Int × Unit)) (a : (List Device × List Cue × List Gust × Int × Unit) × Int × Unit) : Option (Bool × Unit) :=
  (f11 ((a.1.1, a.1.2.1, a.1.2.2.1, a.1.2.2.2.1, ()), 1048576, ())).bind fun x1 => cond (decide (x1.1 < 0)) (some (true, ())) ((f13 ((a.1.1, a.1.2.1, a.1.2.2.1, a.1.2.2.2.1, ()), ())).bind fun x2 => (f19 ((x2.1.1, x2.1.2.1, x2.1.2.2.1, x2.1.2.2.2.1, ()), a.2.1, ())).bind fun x3 => (f13 ((a.1.1, a.1.2.1, a.1.2.2.1, a.1.2.2.2.1, ()), ())).bind fun x4 => (f20 ((x4.1.1, x4.1.2.1, x4.1.2.2.1, x4.1.2.2.2.1, ()), a.2.1, ())).bind fun x5 => (f16 ((x5.1.1, x5.1.2.1, x5.1.2.2.1, x5.1.2.2.2.1, ()), (x3.1.1, x3.1.2.1, x3.1.2.2.1, x3.1.2.2.2.1, ()), ())).bind fun x6 => cond (!x6.1) (some (false, ())) ((f13 ((a.1.1, a.1.2.1, a.1.2.2.1, a.1.2.2.2.1, ()), ())).bind fun x7 => (f16 ((x4.1.1, x4.1.2.1, x4.1.2.2.1, x4.1.2.2.2.1, ()), (x7.1.1, x7.1.2.1, x7.1.2.2.1, x7.1.2.2.2.1, ()), ())).bind fun x8 => cond (!x8.1) (some (false, ())) ((f17 ((x4.1.1, x4.1.2.1, x4.1.2.2.1, x4.1.2.2.2.1, ()), 1, ())).bind fun x9 => cond (!(decide (x9.2.2.2.1 < 0))) ((f16 ((x5.1.1, x5.1.2.1, x5.1.2.2.1, x5.1.2.2.2.1, ()), (x3.1.1, x3.1.2.1, x3.1.2.2.1, x3.1.2.2.2.1, ()), ())).bind fun x10 => cond (!x10.1) (some (false, ())) ((f17 ((x5.1.1, x5.1.2.1, x5.1.2.2.1, x5.1.2.2.2.1, ()), 1, ())).bind fun x11 => (f18 ((x11.1, x11.2.1, x11.2.2.1, x5.1.2.2.2.1, ()), 1, ())).bind fun x12 => cond (decide (x12.1 < 0)) (some (false, ())) (cond (!(decide (x12.1 = x11.2.2.2.1))) (some (false, ())) ((f13 ((a.1.1, a.1.2.1, a.1.2.2.1, a.1.2.2.2.1, ()), ())).bind fun x13 => (f20 ((x13.1.1, x13.1.2.1, x13.1.2.2.1, x13.1.2.2.2.1, ()), a.2.1, ())).bind fun x14 => (f16 ((x14.1.1, x14.1.2.1, x14.1.2.2.1, x14.1.2.2.2.1, ()), (x3.1.1, x3.1.2.1, x3.1.2.2.1, x3.1.2.2.2.1, ()), ())).bind fun x15 => cond (!x15.1) (some (false, ())) ((f18 ((x11.1, x11.2.1, x11.2.2.1, x5.1.2.2.2.1, ()), 1, ())).bind fun x16 => cond (decide (x16.1 < 0)) (some (false, ())) (cond (!(decide (x16.1 = x11.2.2.2.1))) (some (false, ())) (some (true, ())))))))) (some (false, ())))))
def E5 (f11 : (List Device × List Cue × List Gust × Int × Unit) × Int × Unit → Option (Int × Unit)) (f13 : (List Device × List Cue × List Gust × Int × Unit) × Unit → Option ((List Device × List Cue × List Gust × Int × Unit) × Unit)) (f19 : (List Device × List Cue × List Gust × Int × Unit) × Int × Unit → Option ((List Device × List Cue × List Gust × Int × Unit) × Unit)) (f20 : (List Device × List Cue × List Gust × Int × Unit) × Int × Unit → Option ((List Device × List Cue × List Gust × Int × Unit) × Unit)) (f16 : (List Device × List Cue × List Gust × Int × Unit) × (List Device × List Cue × List Gust × Int × Unit) × Unit → Option (Bool × Unit)) (f17 : (List Device × List Cue × List Gust × Int × Unit) × Int × Unit → Option (List Device × List Cue × List Gust × Int × Unit)) (f18 : (List Device × List Cue × List Gust × Int × Unit) × Int × Unit → Option (Int × Unit)) : Env := envL [(11, mkE p11 r11 false f11), (13, mkE p13 r13 false f13), (19, mkE p19 r19 false f19), (20, mkE p20 r20 false f20), (16, mkE p16 r16 false f16), (17, mkE p17 r17 false f17), (18, mkE p18 r18 false f18)]
noncomputable def L5 (f11 : (List Device × List Cue × List Gust × Int × Unit) × Int × Unit → Option (Int × Unit)) (f13 : (List Device × List Cue × List Gust × Int × Unit) × Unit → Option ((List Device × List Cue × List Gust × Int × Unit) × Unit)) (f19 : (List Device × List Cue × List Gust × Int × Unit) × Int × Unit → Option ((List Device × List Cue × List Gust × Int × Unit) × Unit)) (f20 : (List Device × List Cue × List Gust × Int × Unit) × Int × Unit → Option ((List Device × List Cue × List Gust × Int × Unit) × Unit)) (f16 : (List Device × List Cue × List Gust × Int × Unit) × (List Device × List Cue × List Gust × Int × Unit) × Unit → Option (Bool × Unit)) (f17 : (List Device × List Cue × List Gust × Int × Unit) × Int × Unit → Option (List Device × List Cue × List Gust × Int × Unit)) (f18 : (List Device × List Cue × List Gust × Int × Unit) × Int × Unit → Option (Int × Unit)) : LEnv (densS (muts p5 ++ r5)) := lenv []
theorem e5 (f11 : (List Device × List Cue × List Gust × Int × Unit) × Int × Unit → Option (Int × Unit)) (f13 : (List Device × List Cue × List Gust × Int × Unit) × Unit → Option ((List Device × List Cue × List Gust × Int × Unit) × Unit)) (f19 : (List Device × List Cue × List Gust × Int × Unit) × Int × Unit → Option ((List Device × List Cue × List Gust × Int × Unit) × Unit)) (f20 : (List Device × List Cue × List Gust × Int × Unit) × Int × Unit → Option ((List Device × List Cue × List Gust × Int × Unit) × Unit)) (f16 : (List Device × List Cue × List Gust × Int × Unit) × (List Device × List Cue × List Gust × Int × Unit) × Unit → Option (Bool × Unit)) (f17 : (List Device × List Cue × List Gust × Int × Unit) × Int × Unit → Option (List Device × List Cue × List Gust × Int × Unit)) (f18 : (List Device × List Cue × List Gust × Int × Unit) × Int × Unit → Option (Int × Unit)) (a : densS p5) : runF (E5 f11 f13 f19 f20 f16 f17 f18) tab (fun _ => false) p5 r5 Proofs.Try.f5 (L5 f11 f13 f19 f20 f16 f17 f18) a = F5 f11 f13 f19 f20 f16 f17 f18 a := by kernel_rfl
theorem ok5 {f11 : (List Device × List Cue × List Gust × Int × Unit) × Int × Unit → Option (Int × Unit)} {f13 : (List Device × List Cue × List Gust × Int × Unit) × Unit → Option ((List Device × List Cue × List Gust × Int × Unit) × Unit)} {f19 : (List Device × List Cue × List Gust × Int × Unit) × Int × Unit → Option ((List Device × List Cue × List Gust × Int × Unit) × Unit)} {f20 : (List Device × List Cue × List Gust × Int × Unit) × Int × Unit → Option ((List Device × List Cue × List Gust × Int × Unit) × Unit)} {f16 : (List Device × List Cue × List Gust × Int × Unit) × (List Device × List Cue × List Gust × Int × Unit) × Unit → Option (Bool × Unit)} {f17 : (List Device × List Cue × List Gust × Int × Unit) × Int × Unit → Option (List Device × List Cue × List Gust × Int × Unit)} {f18 : (List Device × List Cue × List Gust × Int × Unit) × Int × Unit → Option (Int × Unit)} (h11 : OK Proofs.Try.prog 11 (mkE p11 r11 false f11)) (h13 : OK Proofs.Try.prog 13 (mkE p13 r13 false f13)) (h19 : OK Proofs.Try.prog 19 (mkE p19 r19 false f19)) (h20 : OK Proofs.Try.prog 20 (mkE p20 r20 false f20)) (h16 : OK Proofs.Try.prog 16 (mkE p16 r16 false f16)) (h17 : OK Proofs.Try.prog 17 (mkE p17 r17 false f17)) (h18 : OK Proofs.Try.prog 18 (mkE p18 r18 false f18)) : OK Proofs.Try.prog 5 (mkE p5 r5 false (F5 f11 f13 f19 f20 f16 f17 f18)) :=
  fn_ok tab_ok (envL_ok (l := [(11, mkE p11 r11 false f11), (13, mkE p13 r13 false f13), (19, mkE p19 r19 false f19), (20, mkE p20 r20 false f20), (16, mkE p16 r16 false f16), (17, mkE p17 r17 false f17), (18, mkE p18 r18 false f18)]) (OKs.cons h11 (OKs.cons h13 (OKs.cons h19 (OKs.cons h20 (OKs.cons h16 (OKs.cons h17 (OKs.cons h18 OKs.nil)))))))) mixed (ann := (fun _ => false)) (L := L5 f11 f13 f19 f20 f16 f17 f18) (fn := Proofs.Try.f5) (c := bodyC Proofs.Try.f5) (ls := []) Proofs.Try.func5 (by kernel_rfl) (by kernel_rfl) (by kernel_rfl) (by kernel_rfl)
    LoopsP.nil (e5 f11 f13 f19 f20 f16 f17 f18)
end Ev
