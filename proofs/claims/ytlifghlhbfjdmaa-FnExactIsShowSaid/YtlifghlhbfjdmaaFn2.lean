/- Functions of the program, as the evaluator sees them. -/
import Derived.Test.YtlifghlhbfjdmaaFn
set_option linter.unusedVariables false
set_option maxRecDepth 100000
namespace Ev
open Go
def tab2 : Tab := [(3, ⟨1, false, 8, [.int .i64 0], [], .int .i64, false⟩),
  (4, ⟨1, false, 1, [.bool false], [], .bool, false⟩),
  (5, ⟨1, false, 1, [.int .u8 0], [], .int .u8, false⟩),
  (9, ⟨1, false, 16, [.str []], [], .str, false⟩),
  (24, ⟨1, false, 24, [.nils], [], .sl .int, false⟩),
  (52, ⟨2, true, 16, [.int .i64 0, .int .i64 0], [(0, 1, false), (1, 1, false)], .struct, false⟩),
  (54, ⟨5, true, 40, [.int .i64 0, .int .i64 0, .int .i64 0, .int .i64 0, .int .i64 0], [(0, 2, true), (2, 1, false), (3, 1, false), (4, 1, false)], .struct, false⟩),
  (55, ⟨1, false, 24, [.nils], [], .sl .place, false⟩),
  (57, ⟨2, true, 16, [.int .i64 0, .int .i64 0], [(0, 1, false), (1, 1, false)], .struct, true⟩),
  (59, ⟨4, true, 32, [.int .i64 0, .int .i64 0, .int .i64 0, .int .i64 0], [(0, 2, true), (2, 2, true)], .struct, false⟩),
  (63, ⟨5, true, 40, [.int .i64 0, .int .i64 0, .int .i64 0, .int .i64 0, .int .i64 0], [(0, 2, true), (2, 1, false), (3, 1, false), (4, 1, false)], .struct, false⟩),
  (65, ⟨1, false, 24, [.nils], [], .sl .place, false⟩),
  (88, ⟨8, true, 80, [.str [], .int .i64 0, .str [], .int .i64 0, .int .i64 0, .int .i64 0, .int .i64 0, .int .i64 0], [(0, 1, false), (1, 1, false), (2, 1, false), (3, 2, true), (5, 1, false), (6, 1, false), (7, 1, false)], .struct, true⟩),
  (97, ⟨8, true, 80, [.str [], .int .i64 0, .str [], .int .i64 0, .int .i64 0, .int .i64 0, .int .i64 0, .int .i64 0], [(0, 1, false), (1, 1, false), (2, 1, false), (3, 2, true), (5, 1, false), (6, 1, false), (7, 1, false)], .struct, false⟩),
  (99, ⟨4, true, 32, [.int .i64 0, .int .i64 0, .int .i64 0, .int .i64 0], [(0, 2, true), (2, 2, true)], .struct, false⟩)]
theorem tab_ok2 : TabOK Proofs.Try.prog tab2 := tab_of2 (by kernel_rfl) (by kernel_rfl)
theorem mixed2 : Proofs.Try.prog.follows .mixedOrders = true := by kernel_rfl
/-! laws.szPlaceS -/
def p34 : List SP := [.one (.r .place), .one (.int .i64)]
def r34 : List SP := [.one (.int .i64)]
noncomputable def F34 (a : List Place × Int × Unit) : Option (Int × Unit) :=
  cond (decide ((w64 (a.2.1 - (Int.ofNat (List.length a.1)))) < 0)) (some ((-1), ())) (some ((w64 (a.2.1 - (Int.ofNat (List.length a.1)))), ()))
def E34 : Env := envL []
noncomputable def L34 : LEnv (densS (muts p34 ++ r34)) := lenv []
theorem e34 (a : densS p34) : runF (E34) tab2 (fun _ => false) p34 r34 Proofs.Try.f34 (L34) a = F34 a := by kernel_rfl
theorem ok34 : OK Proofs.Try.prog 34 (mkE p34 r34 false (F34)) :=
  fn_ok tab_ok2 (envL_ok (l := []) OKs.nil) mixed2 (ann := (fun _ => false)) (L := L34) (fn := Proofs.Try.f34) (c := bodyC Proofs.Try.f34) (ls := []) Proofs.Try.func34 (by kernel_rfl) (by kernel_rfl) (by kernel_rfl) (by kernel_rfl)
    LoopsP.nil (e34)
/-! laws.toPlace -/
def p92 : List SP := [.t .place]
def r92 : List SP := [.t .place]
noncomputable def F92 (a : Place × Unit) : Option (Place × Unit) :=
  some (a.1, ())
def E92 : Env := envL []
noncomputable def L92 : LEnv (densS (muts p92 ++ r92)) := lenv []
theorem e92 (a : densS p92) : runF (E92) tab2 (fun _ => false) p92 r92 Proofs.Try.f92 (L92) a = F92 a := by kernel_rfl
theorem ok92 : OK Proofs.Try.prog 92 (mkE p92 r92 false (F92)) :=
  fn_ok tab_ok2 (envL_ok (l := []) OKs.nil) mixed2 (ann := (fun _ => false)) (L := L92) (fn := Proofs.Try.f92) (c := bodyC Proofs.Try.f92) (ls := []) Proofs.Try.func92 (by kernel_rfl) (by kernel_rfl) (by kernel_rfl) (by kernel_rfl)
    LoopsP.nil (e92)
/-! laws.toJet -/
def p36 : List SP := [.t .jet]
def r36 : List SP := [.t .jet]
noncomputable def F36 (f92 : Place × Unit → Option (Place × Unit)) (a : Jet × Unit) : Option (Jet × Unit) :=
  (f92 (a.1.At, ())).bind fun x1 => some ((⟨⟨x1.1.X, x1.1.Y⟩, a.1.Heading, a.1.Tilt, a.1.Lift⟩ : Jet), ())
def E36 (f92 : Place × Unit → Option (Place × Unit)) : Env := envL [(92, mkE p92 r92 false f92)]
noncomputable def L36 (f92 : Place × Unit → Option (Place × Unit)) : LEnv (densS (muts p36 ++ r36)) := lenv []
theorem e36 (f92 : Place × Unit → Option (Place × Unit)) (a : densS p36) : runF (E36 f92) tab2 (fun _ => false) p36 r36 Proofs.Try.f36 (L36 f92) a = F36 f92 a := by kernel_rfl
theorem ok36 {f92 : Place × Unit → Option (Place × Unit)} (h92 : OK Proofs.Try.prog 92 (mkE p92 r92 false f92)) : OK Proofs.Try.prog 36 (mkE p36 r36 false (F36 f92)) :=
  fn_ok tab_ok2 (envL_ok (l := [(92, mkE p92 r92 false f92)]) (OKs.cons h92 OKs.nil)) mixed2 (ann := (fun _ => false)) (L := L36 f92) (fn := Proofs.Try.f36) (c := bodyC Proofs.Try.f36) (ls := []) Proofs.Try.func36 (by kernel_rfl) (by kernel_rfl) (by kernel_rfl) (by kernel_rfl)
    LoopsP.nil (e36 f92)
/-! laws.toPlaceS -/
def p37 : List SP := [.one (.r .place)]
def r37 : List SP := [.one (.o 0 .place)]
def q37_0 : List SP := pat 23 0 [(0, .one (.r .place)), (3, .one (.o 5000001 .place)), (4, .one (.int .i64))]
noncomputable def s37_0 (f92 : Place × Unit → Option (Place × Unit)) (t1 : List Place × List Place × Int × Unit) (rec K : List Place × List Place × Int × Unit → Option (List Place × Unit)) : Option (List Place × Unit) :=
  cond (decide (t1.2.2.1 < (Int.ofNat (List.length t1.1)))) (rdL t1.1 t1.2.2.1 fun d2 => (f92 (d2, ())).bind fun x3 => rdL t1.2.1 t1.2.2.1 fun _ => (t1.2.1[(Int.toNat t1.2.2.1)]?).bind fun d4 => rec (t1.1, (List.set t1.2.1 (Int.toNat t1.2.2.1) x3.1), (w64 (t1.2.2.1 + 1)), ())) (K (t1.1, t1.2.1, t1.2.2.1, ()))
noncomputable def F37 (f92 : Place × Unit → Option (Place × Unit)) (a : List Place × Unit) : Option (List Place × Unit) :=
  okIf (0 ≤ (Int.ofNat (List.length a.1))) (capK (Int.toNat (Int.ofNat (List.length a.1))) (iterF (s37_0 f92) fuel (a.1, (List.replicate (Int.toNat (Int.ofNat (List.length a.1))) (Ty.zero .place)), 0, ()) fun t5 => some (t5.2.1, ())))
def E37 (f92 : Place × Unit → Option (Place × Unit)) : Env := envL [(92, mkE p92 r92 false f92)]
noncomputable def L37 (f92 : Place × Unit → Option (Place × Unit)) : LEnv (densS (muts p37 ++ r37)) := lenv [(0, loopL (R := densS (muts p37 ++ r37)) q37_0 (s37_0 f92))]
theorem e37_0 (f92 : Place × Unit → Option (Place × Unit)) (X : Nat → St → Option (densS (muts p37 ++ r37))) (rec K : densS q37_0 → Option (densS (muts p37 ++ r37))) (t : densS q37_0) :
    ev (E37 f92) tab2 (fun _ => false) (L37 f92) (retK tab2 p37 r37 Proofs.Try.f37.results.toList) (loopC Proofs.Try.f37 0) (fun i s => cond (Nat.beq i 0) (decK 100 q37_0 s K) (X i s)) (fun s => decK 100 q37_0 s rec) (enc q37_0 t) = s37_0 f92 t rec K := by kernel_rfl
theorem e37 (f92 : Place × Unit → Option (Place × Unit)) (a : densS p37) : runF (E37 f92) tab2 (fun _ => false) p37 r37 Proofs.Try.f37 (L37 f92) a = F37 f92 a := by kernel_rfl
theorem ok37 {f92 : Place × Unit → Option (Place × Unit)} (h92 : OK Proofs.Try.prog 92 (mkE p92 r92 false f92)) : OK Proofs.Try.prog 37 (mkE p37 r37 false (F37 f92)) :=
  fn_ok tab_ok2 (envL_ok (l := [(92, mkE p92 r92 false f92)]) (OKs.cons h92 OKs.nil)) mixed2 (ann := (fun _ => false)) (L := L37 f92) (fn := Proofs.Try.f37) (c := bodyC Proofs.Try.f37) (ls := [(0, loopC Proofs.Try.f37 0)]) Proofs.Try.func37 (by kernel_rfl) (by kernel_rfl) (by kernel_rfl) (by kernel_rfl)
    (LoopsP.cons q37_0 (s37_0 f92) rfl (e37_0 f92) LoopsP.nil) (e37 f92)
/-! spec.IsHeading -/
def p186 : List SP := [.one (.int .i64)]
def r186 : List SP := [.one (.bool)]
noncomputable def F186 (a : Int × Unit) : Option (Bool × Unit) :=
  cond (decide (a.1 ≥ 0)) (some ((decide (a.1 ≤ 3)), ())) (some (false, ()))
def E186 : Env := envL []
noncomputable def L186 : LEnv (densS (muts p186 ++ r186)) := lenv []
theorem e186 (a : densS p186) : runF (E186) tab2 (fun _ => false) p186 r186 Proofs.Try.f186 (L186) a = F186 a := by kernel_rfl
theorem ok186 : OK Proofs.Try.prog 186 (mkE p186 r186 false (F186)) :=
  fn_ok tab_ok2 (envL_ok (l := []) OKs.nil) mixed2 (ann := (fun _ => false)) (L := L186) (fn := Proofs.Try.f186) (c := bodyC Proofs.Try.f186) (ls := []) Proofs.Try.func186 (by kernel_rfl) (by kernel_rfl) (by kernel_rfl) (by kernel_rfl)
    LoopsP.nil (e186)
/-! spec.IsJet -/
def p149 : List SP := [.t .jet]
def r149 : List SP := [.one (.bool)]
noncomputable def F149 (f119 : Int × Int × Int × Unit → Option (Bool × Unit)) (f186 : Int × Unit → Option (Bool × Unit)) (a : Jet × Unit) : Option (Bool × Unit) :=
  (f119 (a.1.At.X, (-1024), 1024, ())).bind fun x1 => cond x1.1 ((f119 (a.1.At.Y, (-1024), 1024, ())).bind fun x2 => cond x2.1 ((f186 (a.1.Heading, ())).bind fun x3 => cond x3.1 ((f119 (a.1.Tilt, 0, 16, ())).bind fun x4 => cond x4.1 ((f119 (a.1.Lift, 1, 32, ())).bind fun x5 => some (x5.1, ())) (some (false, ()))) (some (false, ()))) (some (false, ()))) (some (false, ()))
def E149 (f119 : Int × Int × Int × Unit → Option (Bool × Unit)) (f186 : Int × Unit → Option (Bool × Unit)) : Env := envL [(119, mkE p119 r119 false f119), (186, mkE p186 r186 false f186)]
noncomputable def L149 (f119 : Int × Int × Int × Unit → Option (Bool × Unit)) (f186 : Int × Unit → Option (Bool × Unit)) : LEnv (densS (muts p149 ++ r149)) := lenv []
theorem e149 (f119 : Int × Int × Int × Unit → Option (Bool × Unit)) (f186 : Int × Unit → Option (Bool × Unit)) (a : densS p149) : runF (E149 f119 f186) tab2 (fun _ => false) p149 r149 Proofs.Try.f149 (L149 f119 f186) a = F149 f119 f186 a := by kernel_rfl
theorem ok149 {f119 : Int × Int × Int × Unit → Option (Bool × Unit)} {f186 : Int × Unit → Option (Bool × Unit)} (h119 : OK Proofs.Try.prog 119 (mkE p119 r119 false f119)) (h186 : OK Proofs.Try.prog 186 (mkE p186 r186 false f186)) : OK Proofs.Try.prog 149 (mkE p149 r149 false (F149 f119 f186)) :=
  fn_ok tab_ok2 (envL_ok (l := [(119, mkE p119 r119 false f119), (186, mkE p186 r186 false f186)]) (OKs.cons h119 (OKs.cons h186 OKs.nil))) mixed2 (ann := (fun _ => false)) (L := L149 f119 f186) (fn := Proofs.Try.f149) (c := bodyC Proofs.Try.f149) (ls := []) Proofs.Try.func149 (by kernel_rfl) (by kernel_rfl) (by kernel_rfl) (by kernel_rfl)
    LoopsP.nil (e149 f119 f186)
/-! spec.FlightOf -/
def p90 : List SP := [.t .jet]
def r90 : List SP := [.one (.int .i64)]
def q90_0 : List SP := pat 24 0 [(3, .one (.int .i64)), (4, .one (.int .i64)), (5, .one (.int .i64))]
noncomputable def s90_0 (f149 : Jet × Unit → Option (Bool × Unit)) (t2 : Int × Int × Int × Unit) (rec K : Int × Int × Int × Unit → Option (Int × Unit)) : Option (Int × Unit) :=
  cond (decide (t2.2.1 > 0)) (rec ((w64 (t2.1 + 1)), (w64 (t2.2.1 + t2.2.2.1)), (w64 (t2.2.2.1 - 2)), ())) (K (t2.1, t2.2.1, t2.2.2.1, ()))
noncomputable def F90 (f149 : Jet × Unit → Option (Bool × Unit)) (a : Jet × Unit) : Option (Int × Unit) :=
  (f149 (a.1, ())).bind fun x1 => cond (!x1.1) (some (0, ())) (iterF (s90_0 f149) fuel (1, a.1.Lift, (w64 (a.1.Lift - 2)), ()) fun t3 => some (t3.1, ()))
def E90 (f149 : Jet × Unit → Option (Bool × Unit)) : Env := envL [(149, mkE p149 r149 false f149)]
noncomputable def L90 (f149 : Jet × Unit → Option (Bool × Unit)) : LEnv (densS (muts p90 ++ r90)) := lenv [(0, loopL (R := densS (muts p90 ++ r90)) q90_0 (s90_0 f149))]
theorem e90_0 (f149 : Jet × Unit → Option (Bool × Unit)) (X : Nat → St → Option (densS (muts p90 ++ r90))) (rec K : densS q90_0 → Option (densS (muts p90 ++ r90))) (t : densS q90_0) :
    ev (E90 f149) tab2 (fun _ => false) (L90 f149) (retK tab2 p90 r90 Proofs.Try.f90.results.toList) (loopC Proofs.Try.f90 0) (fun i s => cond (Nat.beq i 0) (decK 100 q90_0 s K) (X i s)) (fun s => decK 100 q90_0 s rec) (enc q90_0 t) = s90_0 f149 t rec K := by kernel_rfl
theorem e90 (f149 : Jet × Unit → Option (Bool × Unit)) (a : densS p90) : runF (E90 f149) tab2 (fun _ => false) p90 r90 Proofs.Try.f90 (L90 f149) a = F90 f149 a := by kernel_rfl
theorem ok90 {f149 : Jet × Unit → Option (Bool × Unit)} (h149 : OK Proofs.Try.prog 149 (mkE p149 r149 false f149)) : OK Proofs.Try.prog 90 (mkE p90 r90 false (F90 f149)) :=
  fn_ok tab_ok2 (envL_ok (l := [(149, mkE p149 r149 false f149)]) (OKs.cons h149 OKs.nil)) mixed2 (ann := (fun _ => false)) (L := L90 f149) (fn := Proofs.Try.f90) (c := bodyC Proofs.Try.f90) (ls := [(0, loopC Proofs.Try.f90 0)]) Proofs.Try.func90 (by kernel_rfl) (by kernel_rfl) (by kernel_rfl) (by kernel_rfl)
    (LoopsP.cons q90_0 (s90_0 f149) rfl (e90_0 f149) LoopsP.nil) (e90 f149)
/-! spec.l2Mod -/
def p202 : List SP := [.one (.int .i64)]
def r202 : List SP := [.one (.int .i64)]
noncomputable def F202 (a : Int × Unit) : Option (Int × Unit) :=
  cond (decide ((Int.tmod a.1 4) < 0)) (some ((w64 ((Int.tmod a.1 4) + 4)), ())) (some ((Int.tmod a.1 4), ()))
def E202 : Env := envL []
noncomputable def L202 : LEnv (densS (muts p202 ++ r202)) := lenv []
theorem e202 (a : densS p202) : runF (E202) tab2 (fun _ => false) p202 r202 Proofs.Try.f202 (L202) a = F202 a := by kernel_rfl
theorem ok202 : OK Proofs.Try.prog 202 (mkE p202 r202 false (F202)) :=
  fn_ok tab_ok2 (envL_ok (l := []) OKs.nil) mixed2 (ann := (fun _ => false)) (L := L202) (fn := Proofs.Try.f202) (c := bodyC Proofs.Try.f202) (ls := []) Proofs.Try.func202 (by kernel_rfl) (by kernel_rfl) (by kernel_rfl) (by kernel_rfl)
    LoopsP.nil (e202)
/-! spec.l2Turn -/
def p196 : List SP := [.t .place, .one (.int .i64)]
def r196 : List SP := [.t .place]
def q196_0 : List SP := pat 19 0 [(2, .boxt 5000001 .place), (4, .boxt 5000002 .place), (5, .one (.int .i64))]
noncomputable def s196_0 (f202 : Int × Unit → Option (Int × Unit)) (t2 : Place × Place × Int × Unit) (rec K : Place × Place × Int × Unit → Option (Place × Unit)) : Option (Place × Unit) :=
  cond (decide (t2.2.2.1 > 0)) (rec ((⟨(w64 (0 - t2.1.Y)), t2.1.X⟩ : Place), t2.2.1, (w64 (t2.2.2.1 - 1)), ())) (K (t2.1, t2.2.1, t2.2.2.1, ()))
noncomputable def F196 (f202 : Int × Unit → Option (Int × Unit)) (a : Place × Int × Unit) : Option (Place × Unit) :=
  (f202 (a.2.1, ())).bind fun x1 => iterF (s196_0 f202) fuel (a.1, (⟨0, 0⟩ : Place), x1.1, ()) fun t3 => some (t3.1, ())
def E196 (f202 : Int × Unit → Option (Int × Unit)) : Env := envL [(202, mkE p202 r202 false f202)]
noncomputable def L196 (f202 : Int × Unit → Option (Int × Unit)) : LEnv (densS (muts p196 ++ r196)) := lenv [(0, loopL (R := densS (muts p196 ++ r196)) q196_0 (s196_0 f202))]
theorem e196_0 (f202 : Int × Unit → Option (Int × Unit)) (X : Nat → St → Option (densS (muts p196 ++ r196))) (rec K : densS q196_0 → Option (densS (muts p196 ++ r196))) (t : densS q196_0) :
    ev (E196 f202) tab2 (fun _ => false) (L196 f202) (retK tab2 p196 r196 Proofs.Try.f196.results.toList) (loopC Proofs.Try.f196 0) (fun i s => cond (Nat.beq i 0) (decK 100 q196_0 s K) (X i s)) (fun s => decK 100 q196_0 s rec) (enc q196_0 t) = s196_0 f202 t rec K := by kernel_rfl
theorem e196 (f202 : Int × Unit → Option (Int × Unit)) (a : densS p196) : runF (E196 f202) tab2 (fun _ => false) p196 r196 Proofs.Try.f196 (L196 f202) a = F196 f202 a := by kernel_rfl
theorem ok196 {f202 : Int × Unit → Option (Int × Unit)} (h202 : OK Proofs.Try.prog 202 (mkE p202 r202 false f202)) : OK Proofs.Try.prog 196 (mkE p196 r196 false (F196 f202)) :=
  fn_ok tab_ok2 (envL_ok (l := [(202, mkE p202 r202 false f202)]) (OKs.cons h202 OKs.nil)) mixed2 (ann := (fun _ => false)) (L := L196 f202) (fn := Proofs.Try.f196) (c := bodyC Proofs.Try.f196) (ls := [(0, loopC Proofs.Try.f196 0)]) Proofs.Try.func196 (by kernel_rfl) (by kernel_rfl) (by kernel_rfl) (by kernel_rfl)
    (LoopsP.cons q196_0 (s196_0 f202) rfl (e196_0 f202) LoopsP.nil) (e196 f202)
/-! spec.l2Add -/
def p91 : List SP := [.t .place, .t .place]
def r91 : List SP := [.t .place]
noncomputable def F91 (a : Place × Place × Unit) : Option (Place × Unit) :=
  some ((⟨(w64 (a.1.X + a.2.1.X)), (w64 (a.1.Y + a.2.1.Y))⟩ : Place), ())
def E91 : Env := envL []
noncomputable def L91 : LEnv (densS (muts p91 ++ r91)) := lenv []
theorem e91 (a : densS p91) : runF (E91) tab2 (fun _ => false) p91 r91 Proofs.Try.f91 (L91) a = F91 a := by kernel_rfl
theorem ok91 : OK Proofs.Try.prog 91 (mkE p91 r91 false (F91)) :=
  fn_ok tab_ok2 (envL_ok (l := []) OKs.nil) mixed2 (ann := (fun _ => false)) (L := L91) (fn := Proofs.Try.f91) (c := bodyC Proofs.Try.f91) (ls := []) Proofs.Try.func91 (by kernel_rfl) (by kernel_rfl) (by kernel_rfl) (by kernel_rfl)
    LoopsP.nil (e91)
/-! spec.l3Place -/
def p183 : List SP := [.t .jet, .one (.int .i64)]
def r183 : List SP := [.t .place]
noncomputable def F183 (f196 : Place × Int × Unit → Option (Place × Unit)) (f91 : Place × Place × Unit → Option (Place × Unit)) (a : Jet × Int × Unit) : Option (Place × Unit) :=
  (f196 ((⟨(w64 (a.2.1 * a.1.Tilt)), 0⟩ : Place), a.1.Heading, ())).bind fun x1 => (f91 (a.1.At, x1.1, ())).bind fun x2 => some (x2.1, ())
def E183 (f196 : Place × Int × Unit → Option (Place × Unit)) (f91 : Place × Place × Unit → Option (Place × Unit)) : Env := envL [(196, mkE p196 r196 false f196), (91, mkE p91 r91 false f91)]
noncomputable def L183 (f196 : Place × Int × Unit → Option (Place × Unit)) (f91 : Place × Place × Unit → Option (Place × Unit)) : LEnv (densS (muts p183 ++ r183)) := lenv []
theorem e183 (f196 : Place × Int × Unit → Option (Place × Unit)) (f91 : Place × Place × Unit → Option (Place × Unit)) (a : densS p183) : runF (E183 f196 f91) tab2 (fun _ => false) p183 r183 Proofs.Try.f183 (L183 f196 f91) a = F183 f196 f91 a := by kernel_rfl
theorem ok183 {f196 : Place × Int × Unit → Option (Place × Unit)} {f91 : Place × Place × Unit → Option (Place × Unit)} (h196 : OK Proofs.Try.prog 196 (mkE p196 r196 false f196)) (h91 : OK Proofs.Try.prog 91 (mkE p91 r91 false f91)) : OK Proofs.Try.prog 183 (mkE p183 r183 false (F183 f196 f91)) :=
  fn_ok tab_ok2 (envL_ok (l := [(196, mkE p196 r196 false f196), (91, mkE p91 r91 false f91)]) (OKs.cons h196 (OKs.cons h91 OKs.nil))) mixed2 (ann := (fun _ => false)) (L := L183 f196 f91) (fn := Proofs.Try.f183) (c := bodyC Proofs.Try.f183) (ls := []) Proofs.Try.func183 (by kernel_rfl) (by kernel_rfl) (by kernel_rfl) (by kernel_rfl)
    LoopsP.nil (e183 f196 f91)
/-! spec.PlaceAt -/
def p146 : List SP := [.t .jet, .one (.int .i64)]
def r146 : List SP := [.t .place, .one (.bool)]
noncomputable def F146 (f149 : Jet × Unit → Option (Bool × Unit)) (f90 : Jet × Unit → Option (Int × Unit)) (f183 : Jet × Int × Unit → Option (Place × Unit)) (a : Jet × Int × Unit) : Option (Place × Bool × Unit) :=
  (f149 (a.1, ())).bind fun x1 => cond (!(!x1.1)) (cond (!(decide (a.2.1 < 0))) ((f90 (a.1, ())).bind fun x2 => cond (decide (a.2.1 > x2.1)) (some ((⟨0, 0⟩ : Place), false, ())) ((f183 (a.1, a.2.1, ())).bind fun x3 => some (x3.1, true, ()))) (some ((⟨0, 0⟩ : Place), false, ()))) (some ((⟨0, 0⟩ : Place), false, ()))
def E146 (f149 : Jet × Unit → Option (Bool × Unit)) (f90 : Jet × Unit → Option (Int × Unit)) (f183 : Jet × Int × Unit → Option (Place × Unit)) : Env := envL [(149, mkE p149 r149 false f149), (90, mkE p90 r90 false f90), (183, mkE p183 r183 false f183)]
noncomputable def L146 (f149 : Jet × Unit → Option (Bool × Unit)) (f90 : Jet × Unit → Option (Int × Unit)) (f183 : Jet × Int × Unit → Option (Place × Unit)) : LEnv (densS (muts p146 ++ r146)) := lenv []
theorem e146 (f149 : Jet × Unit → Option (Bool × Unit)) (f90 : Jet × Unit → Option (Int × Unit)) (f183 : Jet × Int × Unit → Option (Place × Unit)) (a : densS p146) : runF (E146 f149 f90 f183) tab2 (fun _ => false) p146 r146 Proofs.Try.f146 (L146 f149 f90 f183) a = F146 f149 f90 f183 a := by kernel_rfl
theorem ok146 {f149 : Jet × Unit → Option (Bool × Unit)} {f90 : Jet × Unit → Option (Int × Unit)} {f183 : Jet × Int × Unit → Option (Place × Unit)} (h149 : OK Proofs.Try.prog 149 (mkE p149 r149 false f149)) (h90 : OK Proofs.Try.prog 90 (mkE p90 r90 false f90)) (h183 : OK Proofs.Try.prog 183 (mkE p183 r183 false f183)) : OK Proofs.Try.prog 146 (mkE p146 r146 false (F146 f149 f90 f183)) :=
  fn_ok tab_ok2 (envL_ok (l := [(149, mkE p149 r149 false f149), (90, mkE p90 r90 false f90), (183, mkE p183 r183 false f183)]) (OKs.cons h149 (OKs.cons h90 (OKs.cons h183 OKs.nil)))) mixed2 (ann := (fun _ => false)) (L := L146 f149 f90 f183) (fn := Proofs.Try.f146) (c := bodyC Proofs.Try.f146) (ls := []) Proofs.Try.func146 (by kernel_rfl) (by kernel_rfl) (by kernel_rfl) (by kernel_rfl)
    LoopsP.nil (e146 f149 f90 f183)
/-! spec.LandingOf -/
def p88 : List SP := [.t .jet]
def r88 : List SP := [.t .place, .one (.bool)]
noncomputable def F88 (f90 : Jet × Unit → Option (Int × Unit)) (f146 : Jet × Int × Unit → Option (Place × Bool × Unit)) (a : Jet × Unit) : Option (Place × Bool × Unit) :=
  (f90 (a.1, ())).bind fun x1 => (f146 (a.1, x1.1, ())).bind fun x2 => some (x2.1, x2.2.1, ())
def E88 (f90 : Jet × Unit → Option (Int × Unit)) (f146 : Jet × Int × Unit → Option (Place × Bool × Unit)) : Env := envL [(90, mkE p90 r90 false f90), (146, mkE p146 r146 false f146)]
noncomputable def L88 (f90 : Jet × Unit → Option (Int × Unit)) (f146 : Jet × Int × Unit → Option (Place × Bool × Unit)) : LEnv (densS (muts p88 ++ r88)) := lenv []
theorem e88 (f90 : Jet × Unit → Option (Int × Unit)) (f146 : Jet × Int × Unit → Option (Place × Bool × Unit)) (a : densS p88) : runF (E88 f90 f146) tab2 (fun _ => false) p88 r88 Proofs.Try.f88 (L88 f90 f146) a = F88 f90 f146 a := by kernel_rfl
theorem ok88 {f90 : Jet × Unit → Option (Int × Unit)} {f146 : Jet × Int × Unit → Option (Place × Bool × Unit)} (h90 : OK Proofs.Try.prog 90 (mkE p90 r90 false f90)) (h146 : OK Proofs.Try.prog 146 (mkE p146 r146 false f146)) : OK Proofs.Try.prog 88 (mkE p88 r88 false (F88 f90 f146)) :=
  fn_ok tab_ok2 (envL_ok (l := [(90, mkE p90 r90 false f90), (146, mkE p146 r146 false f146)]) (OKs.cons h90 (OKs.cons h146 OKs.nil))) mixed2 (ann := (fun _ => false)) (L := L88 f90 f146) (fn := Proofs.Try.f88) (c := bodyC Proofs.Try.f88) (ls := []) Proofs.Try.func88 (by kernel_rfl) (by kernel_rfl) (by kernel_rfl) (by kernel_rfl)
    LoopsP.nil (e88 f90 f146)
/-! spec.IsMeasure -/
def p170 : List SP := [.one (.int .i64)]
def r170 : List SP := [.one (.bool)]
noncomputable def F170 (a : Int × Unit) : Option (Bool × Unit) :=
  cond (decide (a.1 ≥ (-4096))) (some ((decide (a.1 ≤ 4096)), ())) (some (false, ()))
def E170 : Env := envL []
noncomputable def L170 : LEnv (densS (muts p170 ++ r170)) := lenv []
theorem e170 (a : densS p170) : runF (E170) tab2 (fun _ => false) p170 r170 Proofs.Try.f170 (L170) a = F170 a := by kernel_rfl
theorem ok170 : OK Proofs.Try.prog 170 (mkE p170 r170 false (F170)) :=
  fn_ok tab_ok2 (envL_ok (l := []) OKs.nil) mixed2 (ann := (fun _ => false)) (L := L170) (fn := Proofs.Try.f170) (c := bodyC Proofs.Try.f170) (ls := []) Proofs.Try.func170 (by kernel_rfl) (by kernel_rfl) (by kernel_rfl) (by kernel_rfl)
    LoopsP.nil (e170)
/-! spec.IsPlace -/
def p120 : List SP := [.t .place]
def r120 : List SP := [.one (.bool)]
noncomputable def F120 (f170 : Int × Unit → Option (Bool × Unit)) (a : Place × Unit) : Option (Bool × Unit) :=
  (f170 (a.1.X, ())).bind fun x1 => cond x1.1 ((f170 (a.1.Y, ())).bind fun x2 => some (x2.1, ())) (some (false, ()))
def E120 (f170 : Int × Unit → Option (Bool × Unit)) : Env := envL [(170, mkE p170 r170 false f170)]
noncomputable def L120 (f170 : Int × Unit → Option (Bool × Unit)) : LEnv (densS (muts p120 ++ r120)) := lenv []
theorem e120 (f170 : Int × Unit → Option (Bool × Unit)) (a : densS p120) : runF (E120 f170) tab2 (fun _ => false) p120 r120 Proofs.Try.f120 (L120 f170) a = F120 f170 a := by kernel_rfl
theorem ok120 {f170 : Int × Unit → Option (Bool × Unit)} (h170 : OK Proofs.Try.prog 170 (mkE p170 r170 false f170)) : OK Proofs.Try.prog 120 (mkE p120 r120 false (F120 f170)) :=
  fn_ok tab_ok2 (envL_ok (l := [(170, mkE p170 r170 false f170)]) (OKs.cons h170 OKs.nil)) mixed2 (ann := (fun _ => false)) (L := L120 f170) (fn := Proofs.Try.f120) (c := bodyC Proofs.Try.f120) (ls := []) Proofs.Try.func120 (by kernel_rfl) (by kernel_rfl) (by kernel_rfl) (by kernel_rfl)
    LoopsP.nil (e120 f170)
/-! spec.l1Min -/
def p184 : List SP := [.one (.int .i64), .one (.int .i64)]
def r184 : List SP := [.one (.int .i64)]
noncomputable def F184 (a : Int × Int × Unit) : Option (Int × Unit) :=
  cond (decide (a.1 < a.2.1)) (some (a.1, ())) (some (a.2.1, ()))
def E184 : Env := envL []
noncomputable def L184 : LEnv (densS (muts p184 ++ r184)) := lenv []
theorem e184 (a : densS p184) : runF (E184) tab2 (fun _ => false) p184 r184 Proofs.Try.f184 (L184) a = F184 a := by kernel_rfl
theorem ok184 : OK Proofs.Try.prog 184 (mkE p184 r184 false (F184)) :=
  fn_ok tab_ok2 (envL_ok (l := []) OKs.nil) mixed2 (ann := (fun _ => false)) (L := L184) (fn := Proofs.Try.f184) (c := bodyC Proofs.Try.f184) (ls := []) Proofs.Try.func184 (by kernel_rfl) (by kernel_rfl) (by kernel_rfl) (by kernel_rfl)
    LoopsP.nil (e184)
/-! spec.BoxOf -/
def p147 : List SP := [.one (.r .place)]
def r147 : List SP := [.t .box, .one (.bool)]
def q147_0 : List SP := pat 57 0 [(0, .one (.r .place)), (2, .boxt 5000001 .box), (4, .boxt 5000002 .box), (8, .one (.r .place)), (9, .one (.int .i64)), (10, .one (.int .i64))]
noncomputable def s147_0 (f120 : Place × Unit → Option (Bool × Unit)) (f184 : Int × Int × Unit → Option (Int × Unit)) (f79 : Int × Int × Unit → Option (Int × Unit)) (t1 : List Place × Box × Box × List Place × Int × Int × Unit) (rec K : List Place × Box × Box × List Place × Int × Int × Unit → Option (Box × Bool × Unit)) : Option (Box × Bool × Unit) :=
  cond (decide (t1.2.2.2.2.2.1 < t1.2.2.2.2.1)) (rdL t1.2.2.2.1 t1.2.2.2.2.2.1 fun d2 => (f120 (d2, ())).bind fun x3 => cond (!x3.1) (some ((⟨⟨0, 0⟩, ⟨0, 0⟩⟩ : Box), false, ())) (cond (decide (t1.2.2.2.2.2.1 = 0)) ((f184 (d2.X, d2.X, ())).bind fun x4 => (f184 (d2.Y, d2.Y, ())).bind fun x5 => (f79 (d2.X, d2.X, ())).bind fun x6 => (f79 (d2.Y, d2.Y, ())).bind fun x7 => rec (t1.1, t1.2.1, (⟨⟨x4.1, x5.1⟩, ⟨x6.1, x7.1⟩⟩ : Box), t1.2.2.2.1, t1.2.2.2.2.1, (w64 (t1.2.2.2.2.2.1 + 1)), ())) ((f184 (t1.2.2.1.Low.X, d2.X, ())).bind fun x8 => (f184 (t1.2.2.1.Low.Y, d2.Y, ())).bind fun x9 => (f79 (t1.2.2.1.High.X, d2.X, ())).bind fun x10 => (f79 (t1.2.2.1.High.Y, d2.Y, ())).bind fun x11 => rec (t1.1, t1.2.1, (⟨⟨x8.1, x9.1⟩, ⟨x10.1, x11.1⟩⟩ : Box), t1.2.2.2.1, t1.2.2.2.2.1, (w64 (t1.2.2.2.2.2.1 + 1)), ())))) (K (t1.1, t1.2.1, t1.2.2.1, t1.2.2.2.1, t1.2.2.2.2.1, t1.2.2.2.2.2.1, ()))
noncomputable def F147 (f120 : Place × Unit → Option (Bool × Unit)) (f184 : Int × Int × Unit → Option (Int × Unit)) (f79 : Int × Int × Unit → Option (Int × Unit)) (a : List Place × Unit) : Option (Box × Bool × Unit) :=
  iterF (s147_0 f120 f184 f79) fuel (a.1, (⟨⟨0, 0⟩, ⟨0, 0⟩⟩ : Box), (⟨⟨0, 0⟩, ⟨0, 0⟩⟩ : Box), a.1, (Int.ofNat (List.length a.1)), 0, ()) fun t12 => some (t12.2.2.1, (decide ((Int.ofNat (List.length t12.1)) > 0)), ())
def E147 (f120 : Place × Unit → Option (Bool × Unit)) (f184 : Int × Int × Unit → Option (Int × Unit)) (f79 : Int × Int × Unit → Option (Int × Unit)) : Env := envL [(120, mkE p120 r120 false f120), (184, mkE p184 r184 false f184), (79, mkE p79 r79 false f79)]
noncomputable def L147 (f120 : Place × Unit → Option (Bool × Unit)) (f184 : Int × Int × Unit → Option (Int × Unit)) (f79 : Int × Int × Unit → Option (Int × Unit)) : LEnv (densS (muts p147 ++ r147)) := lenv [(0, loopL (R := densS (muts p147 ++ r147)) q147_0 (s147_0 f120 f184 f79))]
theorem e147_0 (f120 : Place × Unit → Option (Bool × Unit)) (f184 : Int × Int × Unit → Option (Int × Unit)) (f79 : Int × Int × Unit → Option (Int × Unit)) (X : Nat → St → Option (densS (muts p147 ++ r147))) (rec K : densS q147_0 → Option (densS (muts p147 ++ r147))) (t : densS q147_0) :
    ev (E147 f120 f184 f79) tab2 (fun _ => false) (L147 f120 f184 f79) (retK tab2 p147 r147 Proofs.Try.f147.results.toList) (loopC Proofs.Try.f147 0) (fun i s => cond (Nat.beq i 0) (decK 100 q147_0 s K) (X i s)) (fun s => decK 100 q147_0 s rec) (enc q147_0 t) = s147_0 f120 f184 f79 t rec K := by kernel_rfl
theorem e147 (f120 : Place × Unit → Option (Bool × Unit)) (f184 : Int × Int × Unit → Option (Int × Unit)) (f79 : Int × Int × Unit → Option (Int × Unit)) (a : densS p147) : runF (E147 f120 f184 f79) tab2 (fun _ => false) p147 r147 Proofs.Try.f147 (L147 f120 f184 f79) a = F147 f120 f184 f79 a := by kernel_rfl
theorem ok147 {f120 : Place × Unit → Option (Bool × Unit)} {f184 : Int × Int × Unit → Option (Int × Unit)} {f79 : Int × Int × Unit → Option (Int × Unit)} (h120 : OK Proofs.Try.prog 120 (mkE p120 r120 false f120)) (h184 : OK Proofs.Try.prog 184 (mkE p184 r184 false f184)) (h79 : OK Proofs.Try.prog 79 (mkE p79 r79 false f79)) : OK Proofs.Try.prog 147 (mkE p147 r147 false (F147 f120 f184 f79)) :=
  fn_ok tab_ok2 (envL_ok (l := [(120, mkE p120 r120 false f120), (184, mkE p184 r184 false f184), (79, mkE p79 r79 false f79)]) (OKs.cons h120 (OKs.cons h184 (OKs.cons h79 OKs.nil)))) mixed2 (ann := (fun _ => false)) (L := L147 f120 f184 f79) (fn := Proofs.Try.f147) (c := bodyC Proofs.Try.f147) (ls := [(0, loopC Proofs.Try.f147 0)]) Proofs.Try.func147 (by kernel_rfl) (by kernel_rfl) (by kernel_rfl) (by kernel_rfl)
    (LoopsP.cons q147_0 (s147_0 f120 f184 f79) rfl (e147_0 f120 f184 f79) LoopsP.nil) (e147 f120 f184 f79)
/-! spec.l4Drift -/
def p175 : List SP := [.t .place]
def r175 : List SP := [.one (.bool)]
noncomputable def F175 (f119 : Int × Int × Int × Unit → Option (Bool × Unit)) (a : Place × Unit) : Option (Bool × Unit) :=
  (f119 (a.1.X, (-8), 8, ())).bind fun x1 => cond x1.1 ((f119 (a.1.Y, (-8), 8, ())).bind fun x2 => some (x2.1, ())) (some (false, ()))
def E175 (f119 : Int × Int × Int × Unit → Option (Bool × Unit)) : Env := envL [(119, mkE p119 r119 false f119)]
noncomputable def L175 (f119 : Int × Int × Int × Unit → Option (Bool × Unit)) : LEnv (densS (muts p175 ++ r175)) := lenv []
theorem e175 (f119 : Int × Int × Int × Unit → Option (Bool × Unit)) (a : densS p175) : runF (E175 f119) tab2 (fun _ => false) p175 r175 Proofs.Try.f175 (L175 f119) a = F175 f119 a := by kernel_rfl
theorem ok175 {f119 : Int × Int × Int × Unit → Option (Bool × Unit)} (h119 : OK Proofs.Try.prog 119 (mkE p119 r119 false f119)) : OK Proofs.Try.prog 175 (mkE p175 r175 false (F175 f119)) :=
  fn_ok tab_ok2 (envL_ok (l := [(119, mkE p119 r119 false f119)]) (OKs.cons h119 OKs.nil)) mixed2 (ann := (fun _ => false)) (L := L175 f119) (fn := Proofs.Try.f175) (c := bodyC Proofs.Try.f175) (ls := []) Proofs.Try.func175 (by kernel_rfl) (by kernel_rfl) (by kernel_rfl) (by kernel_rfl)
    LoopsP.nil (e175 f119)
/-! spec.ComparePlaces -/
def p185 : List SP := [.t .place, .t .place]
def r185 : List SP := [.one (.int .i64)]
noncomputable def F185 (a : Place × Place × Unit) : Option (Int × Unit) :=
  cond (decide (a.1.X < a.2.1.X)) (cond (decide (a.1.X < a.2.1.X)) (some ((-1), ())) (cond (decide (a.1.X = a.2.1.X) && (decide (a.1.Y = a.2.1.Y) && true)) (some (0, ())) (some (1, ())))) (cond (decide (a.1.X = a.2.1.X)) (cond (decide (a.1.Y < a.2.1.Y)) (some ((-1), ())) (cond (decide (a.1.X = a.2.1.X) && (decide (a.1.Y = a.2.1.Y) && true)) (some (0, ())) (some (1, ())))) (cond (decide (a.1.X = a.2.1.X) && (decide (a.1.Y = a.2.1.Y) && true)) (some (0, ())) (some (1, ()))))
def E185 : Env := envL []
noncomputable def L185 : LEnv (densS (muts p185 ++ r185)) := lenv []
theorem e185 (a : densS p185) : runF (E185) tab2 (fun _ => false) p185 r185 Proofs.Try.f185 (L185) a = F185 a := by kernel_rfl
theorem ok185 : OK Proofs.Try.prog 185 (mkE p185 r185 false (F185)) :=
  fn_ok tab_ok2 (envL_ok (l := []) OKs.nil) mixed2 (ann := (fun _ => false)) (L := L185) (fn := Proofs.Try.f185) (c := bodyC Proofs.Try.f185) (ls := []) Proofs.Try.func185 (by kernel_rfl) (by kernel_rfl) (by kernel_rfl) (by kernel_rfl)
    LoopsP.nil (e185)
/-! spec.IsRose -/
def p148 : List SP := [.one (.r .place)]
def r148 : List SP := [.one (.bool)]
def q148_0 : List SP := pat 38 0 [(0, .one (.r .place)), (5, .one (.r .place)), (6, .one (.int .i64)), (7, .one (.int .i64))]
noncomputable def s148_0 (f175 : Place × Unit → Option (Bool × Unit)) (f185 : Place × Place × Unit → Option (Int × Unit)) (t1 : List Place × List Place × Int × Int × Unit) (rec K : List Place × List Place × Int × Int × Unit → Option (Bool × Unit)) : Option (Bool × Unit) :=
  cond (decide (t1.2.2.2.1 < t1.2.2.1)) (rdL t1.2.1 t1.2.2.2.1 fun d2 => (f175 (d2, ())).bind fun x3 => cond (!(!x3.1)) (cond (decide (t1.2.2.2.1 > 0)) (rdL t1.1 (w64 (t1.2.2.2.1 - 1)) fun d4 => (f185 (d4, d2, ())).bind fun x5 => cond (decide (x5.1 ≥ 0)) (some (false, ())) (rec (t1.1, t1.2.1, t1.2.2.1, (w64 (t1.2.2.2.1 + 1)), ()))) (rec (t1.1, t1.2.1, t1.2.2.1, (w64 (t1.2.2.2.1 + 1)), ()))) (some (false, ()))) (K (t1.1, t1.2.1, t1.2.2.1, t1.2.2.2.1, ()))
noncomputable def F148 (f175 : Place × Unit → Option (Bool × Unit)) (f185 : Place × Place × Unit → Option (Int × Unit)) (a : List Place × Unit) : Option (Bool × Unit) :=
  iterF (s148_0 f175 f185) fuel (a.1, a.1, (Int.ofNat (List.length a.1)), 0, ()) fun t6 => cond (decide ((Int.ofNat (List.length t6.1)) ≥ 1)) (some ((decide ((Int.ofNat (List.length t6.1)) ≤ 4)), ())) (some (false, ()))
def E148 (f175 : Place × Unit → Option (Bool × Unit)) (f185 : Place × Place × Unit → Option (Int × Unit)) : Env := envL [(175, mkE p175 r175 false f175), (185, mkE p185 r185 false f185)]
noncomputable def L148 (f175 : Place × Unit → Option (Bool × Unit)) (f185 : Place × Place × Unit → Option (Int × Unit)) : LEnv (densS (muts p148 ++ r148)) := lenv [(0, loopL (R := densS (muts p148 ++ r148)) q148_0 (s148_0 f175 f185))]
theorem e148_0 (f175 : Place × Unit → Option (Bool × Unit)) (f185 : Place × Place × Unit → Option (Int × Unit)) (X : Nat → St → Option (densS (muts p148 ++ r148))) (rec K : densS q148_0 → Option (densS (muts p148 ++ r148))) (t : densS q148_0) :
    ev (E148 f175 f185) tab2 (fun _ => false) (L148 f175 f185) (retK tab2 p148 r148 Proofs.Try.f148.results.toList) (loopC Proofs.Try.f148 0) (fun i s => cond (Nat.beq i 0) (decK 100 q148_0 s K) (X i s)) (fun s => decK 100 q148_0 s rec) (enc q148_0 t) = s148_0 f175 f185 t rec K := by kernel_rfl
theorem e148 (f175 : Place × Unit → Option (Bool × Unit)) (f185 : Place × Place × Unit → Option (Int × Unit)) (a : densS p148) : runF (E148 f175 f185) tab2 (fun _ => false) p148 r148 Proofs.Try.f148 (L148 f175 f185) a = F148 f175 f185 a := by kernel_rfl
theorem ok148 {f175 : Place × Unit → Option (Bool × Unit)} {f185 : Place × Place × Unit → Option (Int × Unit)} (h175 : OK Proofs.Try.prog 175 (mkE p175 r175 false f175)) (h185 : OK Proofs.Try.prog 185 (mkE p185 r185 false f185)) : OK Proofs.Try.prog 148 (mkE p148 r148 false (F148 f175 f185)) :=
  fn_ok tab_ok2 (envL_ok (l := [(175, mkE p175 r175 false f175), (185, mkE p185 r185 false f185)]) (OKs.cons h175 (OKs.cons h185 OKs.nil))) mixed2 (ann := (fun _ => false)) (L := L148 f175 f185) (fn := Proofs.Try.f148) (c := bodyC Proofs.Try.f148) (ls := [(0, loopC Proofs.Try.f148 0)]) Proofs.Try.func148 (by kernel_rfl) (by kernel_rfl) (by kernel_rfl) (by kernel_rfl)
    (LoopsP.cons q148_0 (s148_0 f175 f185) rfl (e148_0 f175 f185) LoopsP.nil) (e148 f175 f185)
/-! spec.RoseBox -/
def p89 : List SP := [.one (.r .place), .one (.int .i64)]
def r89 : List SP := [.t .box, .one (.bool)]
noncomputable def F89 (f147 : List Place × Unit → Option (Box × Bool × Unit)) (f148 : List Place × Unit → Option (Bool × Unit)) (a : List Place × Int × Unit) : Option (Box × Bool × Unit) :=
  (f147 (a.1, ())).bind fun x1 => (f148 (a.1, ())).bind fun x2 => cond (!(!x2.1)) (cond (!(decide (a.2.1 < 0))) (cond (decide (a.2.1 > 128)) (some ((⟨⟨0, 0⟩, ⟨0, 0⟩⟩ : Box), false, ())) (some ((⟨⟨(w64 (a.2.1 * x1.1.Low.X)), (w64 (a.2.1 * x1.1.Low.Y))⟩, ⟨(w64 (a.2.1 * x1.1.High.X)), (w64 (a.2.1 * x1.1.High.Y))⟩⟩ : Box), true, ()))) (some ((⟨⟨0, 0⟩, ⟨0, 0⟩⟩ : Box), false, ()))) (some ((⟨⟨0, 0⟩, ⟨0, 0⟩⟩ : Box), false, ()))
def E89 (f147 : List Place × Unit → Option (Box × Bool × Unit)) (f148 : List Place × Unit → Option (Bool × Unit)) : Env := envL [(147, mkE p147 r147 false f147), (148, mkE p148 r148 false f148)]
noncomputable def L89 (f147 : List Place × Unit → Option (Box × Bool × Unit)) (f148 : List Place × Unit → Option (Bool × Unit)) : LEnv (densS (muts p89 ++ r89)) := lenv []
theorem e89 (f147 : List Place × Unit → Option (Box × Bool × Unit)) (f148 : List Place × Unit → Option (Bool × Unit)) (a : densS p89) : runF (E89 f147 f148) tab2 (fun _ => false) p89 r89 Proofs.Try.f89 (L89 f147 f148) a = F89 f147 f148 a := by kernel_rfl
theorem ok89 {f147 : List Place × Unit → Option (Box × Bool × Unit)} {f148 : List Place × Unit → Option (Bool × Unit)} (h147 : OK Proofs.Try.prog 147 (mkE p147 r147 false f147)) (h148 : OK Proofs.Try.prog 148 (mkE p148 r148 false f148)) : OK Proofs.Try.prog 89 (mkE p89 r89 false (F89 f147 f148)) :=
  fn_ok tab_ok2 (envL_ok (l := [(147, mkE p147 r147 false f147), (148, mkE p148 r148 false f148)]) (OKs.cons h147 (OKs.cons h148 OKs.nil))) mixed2 (ann := (fun _ => false)) (L := L89 f147 f148) (fn := Proofs.Try.f89) (c := bodyC Proofs.Try.f89) (ls := []) Proofs.Try.func89 (by kernel_rfl) (by kernel_rfl) (by kernel_rfl) (by kernel_rfl)
    LoopsP.nil (e89 f147 f148)
/-! spec.LandingBox -/
def p35 : List SP := [.t .jet, .one (.r .place)]
def r35 : List SP := [.t .box, .one (.bool)]
noncomputable def F35 (f88 : Jet × Unit → Option (Place × Bool × Unit)) (f90 : Jet × Unit → Option (Int × Unit)) (f89 : List Place × Int × Unit → Option (Box × Bool × Unit)) (f91 : Place × Place × Unit → Option (Place × Unit)) (a : Jet × List Place × Unit) : Option (Box × Bool × Unit) :=
  (f88 (a.1, ())).bind fun x1 => (f90 (a.1, ())).bind fun x2 => (f89 (a.2.1, x2.1, ())).bind fun x3 => cond (!(!x1.2.1)) (cond (!x3.2.1) (some ((⟨⟨0, 0⟩, ⟨0, 0⟩⟩ : Box), false, ())) ((f91 (x1.1, x3.1.Low, ())).bind fun x4 => (f91 (x1.1, x3.1.High, ())).bind fun x5 => some ((⟨⟨x4.1.X, x4.1.Y⟩, ⟨x5.1.X, x5.1.Y⟩⟩ : Box), true, ()))) (some ((⟨⟨0, 0⟩, ⟨0, 0⟩⟩ : Box), false, ()))
def E35 (f88 : Jet × Unit → Option (Place × Bool × Unit)) (f90 : Jet × Unit → Option (Int × Unit)) (f89 : List Place × Int × Unit → Option (Box × Bool × Unit)) (f91 : Place × Place × Unit → Option (Place × Unit)) : Env := envL [(88, mkE p88 r88 false f88), (90, mkE p90 r90 false f90), (89, mkE p89 r89 false f89), (91, mkE p91 r91 false f91)]
noncomputable def L35 (f88 : Jet × Unit → Option (Place × Bool × Unit)) (f90 : Jet × Unit → Option (Int × Unit)) (f89 : List Place × Int × Unit → Option (Box × Bool × Unit)) (f91 : Place × Place × Unit → Option (Place × Unit)) : LEnv (densS (muts p35 ++ r35)) := lenv []
theorem e35 (f88 : Jet × Unit → Option (Place × Bool × Unit)) (f90 : Jet × Unit → Option (Int × Unit)) (f89 : List Place × Int × Unit → Option (Box × Bool × Unit)) (f91 : Place × Place × Unit → Option (Place × Unit)) (a : densS p35) : runF (E35 f88 f90 f89 f91) tab2 (fun _ => false) p35 r35 Proofs.Try.f35 (L35 f88 f90 f89 f91) a = F35 f88 f90 f89 f91 a := by kernel_rfl
theorem ok35 {f88 : Jet × Unit → Option (Place × Bool × Unit)} {f90 : Jet × Unit → Option (Int × Unit)} {f89 : List Place × Int × Unit → Option (Box × Bool × Unit)} {f91 : Place × Place × Unit → Option (Place × Unit)} (h88 : OK Proofs.Try.prog 88 (mkE p88 r88 false f88)) (h90 : OK Proofs.Try.prog 90 (mkE p90 r90 false f90)) (h89 : OK Proofs.Try.prog 89 (mkE p89 r89 false f89)) (h91 : OK Proofs.Try.prog 91 (mkE p91 r91 false f91)) : OK Proofs.Try.prog 35 (mkE p35 r35 false (F35 f88 f90 f89 f91)) :=
  fn_ok tab_ok2 (envL_ok (l := [(88, mkE p88 r88 false f88), (90, mkE p90 r90 false f90), (89, mkE p89 r89 false f89), (91, mkE p91 r91 false f91)]) (OKs.cons h88 (OKs.cons h90 (OKs.cons h89 (OKs.cons h91 OKs.nil))))) mixed2 (ann := (fun _ => false)) (L := L35 f88 f90 f89 f91) (fn := Proofs.Try.f35) (c := bodyC Proofs.Try.f35) (ls := []) Proofs.Try.func35 (by kernel_rfl) (by kernel_rfl) (by kernel_rfl) (by kernel_rfl)
    LoopsP.nil (e35 f88 f90 f89 f91)
/-! impl.IsHeading -/
def p169 : List SP := [.one (.int .i64)]
def r169 : List SP := [.one (.bool)]
noncomputable def F169 (f72 : Int × Int × Int × Unit → Option (Bool × Unit)) (a : Int × Unit) : Option (Bool × Unit) :=
  (f72 (a.1, 0, 3, ())).bind fun x1 => some (x1.1, ())
def E169 (f72 : Int × Int × Int × Unit → Option (Bool × Unit)) : Env := envL [(72, mkE p72 r72 false f72)]
noncomputable def L169 (f72 : Int × Int × Int × Unit → Option (Bool × Unit)) : LEnv (densS (muts p169 ++ r169)) := lenv []
theorem e169 (f72 : Int × Int × Int × Unit → Option (Bool × Unit)) (a : densS p169) : runF (E169 f72) tab2 (fun _ => false) p169 r169 Proofs.Try.f169 (L169 f72) a = F169 f72 a := by kernel_rfl
theorem ok169 {f72 : Int × Int × Int × Unit → Option (Bool × Unit)} (h72 : OK Proofs.Try.prog 72 (mkE p72 r72 false f72)) : OK Proofs.Try.prog 169 (mkE p169 r169 false (F169 f72)) :=
  fn_ok tab_ok2 (envL_ok (l := [(72, mkE p72 r72 false f72)]) (OKs.cons h72 OKs.nil)) mixed2 (ann := (fun _ => false)) (L := L169 f72) (fn := Proofs.Try.f169) (c := bodyC Proofs.Try.f169) (ls := []) Proofs.Try.func169 (by kernel_rfl) (by kernel_rfl) (by kernel_rfl) (by kernel_rfl)
    LoopsP.nil (e169 f72)
/-! impl.IsJet -/
def p114 : List SP := [.t .jet]
def r114 : List SP := [.one (.bool)]
noncomputable def F114 (f72 : Int × Int × Int × Unit → Option (Bool × Unit)) (f169 : Int × Unit → Option (Bool × Unit)) (a : Jet × Unit) : Option (Bool × Unit) :=
  (f72 (a.1.At.X, (-1024), 1024, ())).bind fun x1 => cond x1.1 ((f72 (a.1.At.Y, (-1024), 1024, ())).bind fun x2 => cond x2.1 ((f169 (a.1.Heading, ())).bind fun x3 => cond x3.1 ((f72 (a.1.Tilt, 0, 16, ())).bind fun x4 => cond x4.1 ((f72 (a.1.Lift, 1, 32, ())).bind fun x5 => some (x5.1, ())) (some (false, ()))) (some (false, ()))) (some (false, ()))) (some (false, ()))
def E114 (f72 : Int × Int × Int × Unit → Option (Bool × Unit)) (f169 : Int × Unit → Option (Bool × Unit)) : Env := envL [(72, mkE p72 r72 false f72), (169, mkE p169 r169 false f169)]
noncomputable def L114 (f72 : Int × Int × Int × Unit → Option (Bool × Unit)) (f169 : Int × Unit → Option (Bool × Unit)) : LEnv (densS (muts p114 ++ r114)) := lenv []
theorem e114 (f72 : Int × Int × Int × Unit → Option (Bool × Unit)) (f169 : Int × Unit → Option (Bool × Unit)) (a : densS p114) : runF (E114 f72 f169) tab2 (fun _ => false) p114 r114 Proofs.Try.f114 (L114 f72 f169) a = F114 f72 f169 a := by kernel_rfl
theorem ok114 {f72 : Int × Int × Int × Unit → Option (Bool × Unit)} {f169 : Int × Unit → Option (Bool × Unit)} (h72 : OK Proofs.Try.prog 72 (mkE p72 r72 false f72)) (h169 : OK Proofs.Try.prog 169 (mkE p169 r169 false f169)) : OK Proofs.Try.prog 114 (mkE p114 r114 false (F114 f72 f169)) :=
  fn_ok tab_ok2 (envL_ok (l := [(72, mkE p72 r72 false f72), (169, mkE p169 r169 false f169)]) (OKs.cons h72 (OKs.cons h169 OKs.nil))) mixed2 (ann := (fun _ => false)) (L := L114 f72 f169) (fn := Proofs.Try.f114) (c := bodyC Proofs.Try.f114) (ls := []) Proofs.Try.func114 (by kernel_rfl) (by kernel_rfl) (by kernel_rfl) (by kernel_rfl)
    LoopsP.nil (e114 f72 f169)
/-! impl.FlightOf -/
def p95 : List SP := [.t .jet]
def r95 : List SP := [.one (.int .i64)]
noncomputable def F95 (f114 : Jet × Unit → Option (Bool × Unit)) (a : Jet × Unit) : Option (Int × Unit) :=
  (f114 (a.1, ())).bind fun x1 => cond (!x1.1) (some (0, ())) (some ((w64 (a.1.Lift + 1)), ()))
def E95 (f114 : Jet × Unit → Option (Bool × Unit)) : Env := envL [(114, mkE p114 r114 false f114)]
noncomputable def L95 (f114 : Jet × Unit → Option (Bool × Unit)) : LEnv (densS (muts p95 ++ r95)) := lenv []
theorem e95 (f114 : Jet × Unit → Option (Bool × Unit)) (a : densS p95) : runF (E95 f114) tab2 (fun _ => false) p95 r95 Proofs.Try.f95 (L95 f114) a = F95 f114 a := by kernel_rfl
theorem ok95 {f114 : Jet × Unit → Option (Bool × Unit)} (h114 : OK Proofs.Try.prog 114 (mkE p114 r114 false f114)) : OK Proofs.Try.prog 95 (mkE p95 r95 false (F95 f114)) :=
  fn_ok tab_ok2 (envL_ok (l := [(114, mkE p114 r114 false f114)]) (OKs.cons h114 OKs.nil)) mixed2 (ann := (fun _ => false)) (L := L95 f114) (fn := Proofs.Try.f95) (c := bodyC Proofs.Try.f95) (ls := []) Proofs.Try.func95 (by kernel_rfl) (by kernel_rfl) (by kernel_rfl) (by kernel_rfl)
    LoopsP.nil (e95 f114)
/-! impl.isInAir -/
def p187 : List SP := [.t .jet, .one (.int .i64)]
def r187 : List SP := [.one (.bool)]
noncomputable def F187 (f114 : Jet × Unit → Option (Bool × Unit)) (f95 : Jet × Unit → Option (Int × Unit)) (f72 : Int × Int × Int × Unit → Option (Bool × Unit)) (a : Jet × Int × Unit) : Option (Bool × Unit) :=
  (f114 (a.1, ())).bind fun x1 => cond x1.1 ((f95 (a.1, ())).bind fun x2 => (f72 (a.2.1, 0, x2.1, ())).bind fun x3 => some (x3.1, ())) (some (false, ()))
def E187 (f114 : Jet × Unit → Option (Bool × Unit)) (f95 : Jet × Unit → Option (Int × Unit)) (f72 : Int × Int × Int × Unit → Option (Bool × Unit)) : Env := envL [(114, mkE p114 r114 false f114), (95, mkE p95 r95 false f95), (72, mkE p72 r72 false f72)]
noncomputable def L187 (f114 : Jet × Unit → Option (Bool × Unit)) (f95 : Jet × Unit → Option (Int × Unit)) (f72 : Int × Int × Int × Unit → Option (Bool × Unit)) : LEnv (densS (muts p187 ++ r187)) := lenv []
theorem e187 (f114 : Jet × Unit → Option (Bool × Unit)) (f95 : Jet × Unit → Option (Int × Unit)) (f72 : Int × Int × Int × Unit → Option (Bool × Unit)) (a : densS p187) : runF (E187 f114 f95 f72) tab2 (fun _ => false) p187 r187 Proofs.Try.f187 (L187 f114 f95 f72) a = F187 f114 f95 f72 a := by kernel_rfl
theorem ok187 {f114 : Jet × Unit → Option (Bool × Unit)} {f95 : Jet × Unit → Option (Int × Unit)} {f72 : Int × Int × Int × Unit → Option (Bool × Unit)} (h114 : OK Proofs.Try.prog 114 (mkE p114 r114 false f114)) (h95 : OK Proofs.Try.prog 95 (mkE p95 r95 false f95)) (h72 : OK Proofs.Try.prog 72 (mkE p72 r72 false f72)) : OK Proofs.Try.prog 187 (mkE p187 r187 false (F187 f114 f95 f72)) :=
  fn_ok tab_ok2 (envL_ok (l := [(114, mkE p114 r114 false f114), (95, mkE p95 r95 false f95), (72, mkE p72 r72 false f72)]) (OKs.cons h114 (OKs.cons h95 (OKs.cons h72 OKs.nil)))) mixed2 (ann := (fun _ => false)) (L := L187 f114 f95 f72) (fn := Proofs.Try.f187) (c := bodyC Proofs.Try.f187) (ls := []) Proofs.Try.func187 (by kernel_rfl) (by kernel_rfl) (by kernel_rfl) (by kernel_rfl)
    LoopsP.nil (e187 f114 f95 f72)
/-! impl.IsMeasure -/
def p144 : List SP := [.one (.int .i64)]
def r144 : List SP := [.one (.bool)]
noncomputable def F144 (f72 : Int × Int × Int × Unit → Option (Bool × Unit)) (a : Int × Unit) : Option (Bool × Unit) :=
  (f72 (a.1, (-4096), 4096, ())).bind fun x1 => some (x1.1, ())
def E144 (f72 : Int × Int × Int × Unit → Option (Bool × Unit)) : Env := envL [(72, mkE p72 r72 false f72)]
noncomputable def L144 (f72 : Int × Int × Int × Unit → Option (Bool × Unit)) : LEnv (densS (muts p144 ++ r144)) := lenv []
theorem e144 (f72 : Int × Int × Int × Unit → Option (Bool × Unit)) (a : densS p144) : runF (E144 f72) tab2 (fun _ => false) p144 r144 Proofs.Try.f144 (L144 f72) a = F144 f72 a := by kernel_rfl
theorem ok144 {f72 : Int × Int × Int × Unit → Option (Bool × Unit)} (h72 : OK Proofs.Try.prog 72 (mkE p72 r72 false f72)) : OK Proofs.Try.prog 144 (mkE p144 r144 false (F144 f72)) :=
  fn_ok tab_ok2 (envL_ok (l := [(72, mkE p72 r72 false f72)]) (OKs.cons h72 OKs.nil)) mixed2 (ann := (fun _ => false)) (L := L144 f72) (fn := Proofs.Try.f144) (c := bodyC Proofs.Try.f144) (ls := []) Proofs.Try.func144 (by kernel_rfl) (by kernel_rfl) (by kernel_rfl) (by kernel_rfl)
    LoopsP.nil (e144 f72)
/-! impl.IsPlace -/
def p115 : List SP := [.t .place]
def r115 : List SP := [.one (.bool)]
noncomputable def F115 (f144 : Int × Unit → Option (Bool × Unit)) (a : Place × Unit) : Option (Bool × Unit) :=
  (f144 (a.1.X, ())).bind fun x1 => cond x1.1 ((f144 (a.1.Y, ())).bind fun x2 => some (x2.1, ())) (some (false, ()))
def E115 (f144 : Int × Unit → Option (Bool × Unit)) : Env := envL [(144, mkE p144 r144 false f144)]
noncomputable def L115 (f144 : Int × Unit → Option (Bool × Unit)) : LEnv (densS (muts p115 ++ r115)) := lenv []
theorem e115 (f144 : Int × Unit → Option (Bool × Unit)) (a : densS p115) : runF (E115 f144) tab2 (fun _ => false) p115 r115 Proofs.Try.f115 (L115 f144) a = F115 f144 a := by kernel_rfl
theorem ok115 {f144 : Int × Unit → Option (Bool × Unit)} (h144 : OK Proofs.Try.prog 144 (mkE p144 r144 false f144)) : OK Proofs.Try.prog 115 (mkE p115 r115 false (F115 f144)) :=
  fn_ok tab_ok2 (envL_ok (l := [(144, mkE p144 r144 false f144)]) (OKs.cons h144 OKs.nil)) mixed2 (ann := (fun _ => false)) (L := L115 f144) (fn := Proofs.Try.f115) (c := bodyC Proofs.Try.f115) (ls := []) Proofs.Try.func115 (by kernel_rfl) (by kernel_rfl) (by kernel_rfl) (by kernel_rfl)
    LoopsP.nil (e115 f144)
/-! impl.turns -/
def p203 : List SP := [.one (.int .i64)]
def r203 : List SP := [.one (.int .i64)]
noncomputable def F203 (a : Int × Unit) : Option (Int × Unit) :=
  some ((Int.tmod (w64 ((Int.tmod a.1 4) + 4)) 4), ())
def E203 : Env := envL []
noncomputable def L203 : LEnv (densS (muts p203 ++ r203)) := lenv []
theorem e203 (a : densS p203) : runF (E203) tab2 (fun _ => false) p203 r203 Proofs.Try.f203 (L203) a = F203 a := by kernel_rfl
theorem ok203 : OK Proofs.Try.prog 203 (mkE p203 r203 false (F203)) :=
  fn_ok tab_ok2 (envL_ok (l := []) OKs.nil) mixed2 (ann := (fun _ => false)) (L := L203) (fn := Proofs.Try.f203) (c := bodyC Proofs.Try.f203) (ls := []) Proofs.Try.func203 (by kernel_rfl) (by kernel_rfl) (by kernel_rfl) (by kernel_rfl)
    LoopsP.nil (e203)
/-! impl.turned -/
def p197 : List SP := [.t .place, .one (.int .i64)]
def r197 : List SP := [.t .place]
def q197_0 : List SP := pat 17 0 [(2, .boxt 5000001 .place), (4, .boxt 5000002 .place), (6, .one (.int .i64)), (7, .one (.int .i64))]
noncomputable def s197_0 (f203 : Int × Unit → Option (Int × Unit)) (t2 : Place × Place × Int × Int × Unit) (rec K : Place × Place × Int × Int × Unit → Option (Place × Unit)) : Option (Place × Unit) :=
  cond (decide (t2.2.2.2.1 < t2.2.2.1)) (rec ((⟨(w64 (0 - t2.1.Y)), t2.1.X⟩ : Place), t2.2.1, t2.2.2.1, (w64 (t2.2.2.2.1 + 1)), ())) (K (t2.1, t2.2.1, t2.2.2.1, t2.2.2.2.1, ()))
noncomputable def F197 (f203 : Int × Unit → Option (Int × Unit)) (a : Place × Int × Unit) : Option (Place × Unit) :=
  (f203 (a.2.1, ())).bind fun x1 => iterF (s197_0 f203) fuel (a.1, (⟨0, 0⟩ : Place), x1.1, 0, ()) fun t3 => some (t3.1, ())
def E197 (f203 : Int × Unit → Option (Int × Unit)) : Env := envL [(203, mkE p203 r203 false f203)]
noncomputable def L197 (f203 : Int × Unit → Option (Int × Unit)) : LEnv (densS (muts p197 ++ r197)) := lenv [(0, loopL (R := densS (muts p197 ++ r197)) q197_0 (s197_0 f203))]
theorem e197_0 (f203 : Int × Unit → Option (Int × Unit)) (X : Nat → St → Option (densS (muts p197 ++ r197))) (rec K : densS q197_0 → Option (densS (muts p197 ++ r197))) (t : densS q197_0) :
    ev (E197 f203) tab2 (fun _ => false) (L197 f203) (retK tab2 p197 r197 Proofs.Try.f197.results.toList) (loopC Proofs.Try.f197 0) (fun i s => cond (Nat.beq i 0) (decK 100 q197_0 s K) (X i s)) (fun s => decK 100 q197_0 s rec) (enc q197_0 t) = s197_0 f203 t rec K := by kernel_rfl
theorem e197 (f203 : Int × Unit → Option (Int × Unit)) (a : densS p197) : runF (E197 f203) tab2 (fun _ => false) p197 r197 Proofs.Try.f197 (L197 f203) a = F197 f203 a := by kernel_rfl
theorem ok197 {f203 : Int × Unit → Option (Int × Unit)} (h203 : OK Proofs.Try.prog 203 (mkE p203 r203 false f203)) : OK Proofs.Try.prog 197 (mkE p197 r197 false (F197 f203)) :=
  fn_ok tab_ok2 (envL_ok (l := [(203, mkE p203 r203 false f203)]) (OKs.cons h203 OKs.nil)) mixed2 (ann := (fun _ => false)) (L := L197 f203) (fn := Proofs.Try.f197) (c := bodyC Proofs.Try.f197) (ls := [(0, loopC Proofs.Try.f197 0)]) Proofs.Try.func197 (by kernel_rfl) (by kernel_rfl) (by kernel_rfl) (by kernel_rfl)
    (LoopsP.cons q197_0 (s197_0 f203) rfl (e197_0 f203) LoopsP.nil) (e197 f203)
/-! impl.checked -/
def p198 : List SP := [.t .place]
def r198 : List SP := [.t .place, .one (.bool)]
noncomputable def F198 (f115 : Place × Unit → Option (Bool × Unit)) (a : Place × Unit) : Option (Place × Bool × Unit) :=
  (f115 (a.1, ())).bind fun x1 => cond (!x1.1) (some ((⟨0, 0⟩ : Place), false, ())) (some (a.1, true, ()))
def E198 (f115 : Place × Unit → Option (Bool × Unit)) : Env := envL [(115, mkE p115 r115 false f115)]
noncomputable def L198 (f115 : Place × Unit → Option (Bool × Unit)) : LEnv (densS (muts p198 ++ r198)) := lenv []
theorem e198 (f115 : Place × Unit → Option (Bool × Unit)) (a : densS p198) : runF (E198 f115) tab2 (fun _ => false) p198 r198 Proofs.Try.f198 (L198 f115) a = F198 f115 a := by kernel_rfl
theorem ok198 {f115 : Place × Unit → Option (Bool × Unit)} (h115 : OK Proofs.Try.prog 115 (mkE p115 r115 false f115)) : OK Proofs.Try.prog 198 (mkE p198 r198 false (F198 f115)) :=
  fn_ok tab_ok2 (envL_ok (l := [(115, mkE p115 r115 false f115)]) (OKs.cons h115 OKs.nil)) mixed2 (ann := (fun _ => false)) (L := L198 f115) (fn := Proofs.Try.f198) (c := bodyC Proofs.Try.f198) (ls := []) Proofs.Try.func198 (by kernel_rfl) (by kernel_rfl) (by kernel_rfl) (by kernel_rfl)
    LoopsP.nil (e198 f115)
/-! impl.StepFrom -/
def p188 : List SP := [.t .place, .one (.int .i64), .one (.int .i64)]
def r188 : List SP := [.t .place, .one (.bool)]
noncomputable def F188 (f115 : Place × Unit → Option (Bool × Unit)) (f169 : Int × Unit → Option (Bool × Unit)) (f144 : Int × Unit → Option (Bool × Unit)) (f197 : Place × Int × Unit → Option (Place × Unit)) (f198 : Place × Unit → Option (Place × Bool × Unit)) (a : Place × Int × Int × Unit) : Option (Place × Bool × Unit) :=
  (f115 (a.1, ())).bind fun x1 => cond (!(!x1.1)) ((f169 (a.2.1, ())).bind fun x2 => cond (!(!x2.1)) ((f144 (a.2.2.1, ())).bind fun x3 => cond (!x3.1) (some ((⟨0, 0⟩ : Place), false, ())) ((f197 ((⟨a.2.2.1, 0⟩ : Place), a.2.1, ())).bind fun x4 => (f198 ((⟨(w64 (a.1.X + x4.1.X)), (w64 (a.1.Y + x4.1.Y))⟩ : Place), ())).bind fun x5 => some (x5.1, x5.2.1, ()))) (some ((⟨0, 0⟩ : Place), false, ()))) (some ((⟨0, 0⟩ : Place), false, ()))
def E188 (f115 : Place × Unit → Option (Bool × Unit)) (f169 : Int × Unit → Option (Bool × Unit)) (f144 : Int × Unit → Option (Bool × Unit)) (f197 : Place × Int × Unit → Option (Place × Unit)) (f198 : Place × Unit → Option (Place × Bool × Unit)) : Env := envL [(115, mkE p115 r115 false f115), (169, mkE p169 r169 false f169), (144, mkE p144 r144 false f144), (197, mkE p197 r197 false f197), (198, mkE p198 r198 false f198)]
noncomputable def L188 (f115 : Place × Unit → Option (Bool × Unit)) (f169 : Int × Unit → Option (Bool × Unit)) (f144 : Int × Unit → Option (Bool × Unit)) (f197 : Place × Int × Unit → Option (Place × Unit)) (f198 : Place × Unit → Option (Place × Bool × Unit)) : LEnv (densS (muts p188 ++ r188)) := lenv []
theorem e188 (f115 : Place × Unit → Option (Bool × Unit)) (f169 : Int × Unit → Option (Bool × Unit)) (f144 : Int × Unit → Option (Bool × Unit)) (f197 : Place × Int × Unit → Option (Place × Unit)) (f198 : Place × Unit → Option (Place × Bool × Unit)) (a : densS p188) : runF (E188 f115 f169 f144 f197 f198) tab2 (fun _ => false) p188 r188 Proofs.Try.f188 (L188 f115 f169 f144 f197 f198) a = F188 f115 f169 f144 f197 f198 a := by kernel_rfl
theorem ok188 {f115 : Place × Unit → Option (Bool × Unit)} {f169 : Int × Unit → Option (Bool × Unit)} {f144 : Int × Unit → Option (Bool × Unit)} {f197 : Place × Int × Unit → Option (Place × Unit)} {f198 : Place × Unit → Option (Place × Bool × Unit)} (h115 : OK Proofs.Try.prog 115 (mkE p115 r115 false f115)) (h169 : OK Proofs.Try.prog 169 (mkE p169 r169 false f169)) (h144 : OK Proofs.Try.prog 144 (mkE p144 r144 false f144)) (h197 : OK Proofs.Try.prog 197 (mkE p197 r197 false f197)) (h198 : OK Proofs.Try.prog 198 (mkE p198 r198 false f198)) : OK Proofs.Try.prog 188 (mkE p188 r188 false (F188 f115 f169 f144 f197 f198)) :=
  fn_ok tab_ok2 (envL_ok (l := [(115, mkE p115 r115 false f115), (169, mkE p169 r169 false f169), (144, mkE p144 r144 false f144), (197, mkE p197 r197 false f197), (198, mkE p198 r198 false f198)]) (OKs.cons h115 (OKs.cons h169 (OKs.cons h144 (OKs.cons h197 (OKs.cons h198 OKs.nil)))))) mixed2 (ann := (fun _ => false)) (L := L188 f115 f169 f144 f197 f198) (fn := Proofs.Try.f188) (c := bodyC Proofs.Try.f188) (ls := []) Proofs.Try.func188 (by kernel_rfl) (by kernel_rfl) (by kernel_rfl) (by kernel_rfl)
    LoopsP.nil (e188 f115 f169 f144 f197 f198)
/-! impl.PlaceAt -/
def p150 : List SP := [.t .jet, .one (.int .i64)]
def r150 : List SP := [.t .place, .one (.bool)]
noncomputable def F150 (f187 : Jet × Int × Unit → Option (Bool × Unit)) (f188 : Place × Int × Int × Unit → Option (Place × Bool × Unit)) (a : Jet × Int × Unit) : Option (Place × Bool × Unit) :=
  (f187 (a.1, a.2.1, ())).bind fun x1 => cond (!x1.1) (some ((⟨0, 0⟩ : Place), false, ())) ((f188 (a.1.At, a.1.Heading, (w64 (a.2.1 * a.1.Tilt)), ())).bind fun x2 => some (x2.1, x2.2.1, ()))
def E150 (f187 : Jet × Int × Unit → Option (Bool × Unit)) (f188 : Place × Int × Int × Unit → Option (Place × Bool × Unit)) : Env := envL [(187, mkE p187 r187 false f187), (188, mkE p188 r188 false f188)]
noncomputable def L150 (f187 : Jet × Int × Unit → Option (Bool × Unit)) (f188 : Place × Int × Int × Unit → Option (Place × Bool × Unit)) : LEnv (densS (muts p150 ++ r150)) := lenv []
theorem e150 (f187 : Jet × Int × Unit → Option (Bool × Unit)) (f188 : Place × Int × Int × Unit → Option (Place × Bool × Unit)) (a : densS p150) : runF (E150 f187 f188) tab2 (fun _ => false) p150 r150 Proofs.Try.f150 (L150 f187 f188) a = F150 f187 f188 a := by kernel_rfl
theorem ok150 {f187 : Jet × Int × Unit → Option (Bool × Unit)} {f188 : Place × Int × Int × Unit → Option (Place × Bool × Unit)} (h187 : OK Proofs.Try.prog 187 (mkE p187 r187 false f187)) (h188 : OK Proofs.Try.prog 188 (mkE p188 r188 false f188)) : OK Proofs.Try.prog 150 (mkE p150 r150 false (F150 f187 f188)) :=
  fn_ok tab_ok2 (envL_ok (l := [(187, mkE p187 r187 false f187), (188, mkE p188 r188 false f188)]) (OKs.cons h187 (OKs.cons h188 OKs.nil))) mixed2 (ann := (fun _ => false)) (L := L150 f187 f188) (fn := Proofs.Try.f150) (c := bodyC Proofs.Try.f150) (ls := []) Proofs.Try.func150 (by kernel_rfl) (by kernel_rfl) (by kernel_rfl) (by kernel_rfl)
    LoopsP.nil (e150 f187 f188)
/-! impl.LandingOf -/
def p93 : List SP := [.t .jet]
def r93 : List SP := [.t .place, .one (.bool)]
noncomputable def F93 (f95 : Jet × Unit → Option (Int × Unit)) (f150 : Jet × Int × Unit → Option (Place × Bool × Unit)) (a : Jet × Unit) : Option (Place × Bool × Unit) :=
  (f95 (a.1, ())).bind fun x1 => (f150 (a.1, x1.1, ())).bind fun x2 => some (x2.1, x2.2.1, ())
def E93 (f95 : Jet × Unit → Option (Int × Unit)) (f150 : Jet × Int × Unit → Option (Place × Bool × Unit)) : Env := envL [(95, mkE p95 r95 false f95), (150, mkE p150 r150 false f150)]
noncomputable def L93 (f95 : Jet × Unit → Option (Int × Unit)) (f150 : Jet × Int × Unit → Option (Place × Bool × Unit)) : LEnv (densS (muts p93 ++ r93)) := lenv []
theorem e93 (f95 : Jet × Unit → Option (Int × Unit)) (f150 : Jet × Int × Unit → Option (Place × Bool × Unit)) (a : densS p93) : runF (E93 f95 f150) tab2 (fun _ => false) p93 r93 Proofs.Try.f93 (L93 f95 f150) a = F93 f95 f150 a := by kernel_rfl
theorem ok93 {f95 : Jet × Unit → Option (Int × Unit)} {f150 : Jet × Int × Unit → Option (Place × Bool × Unit)} (h95 : OK Proofs.Try.prog 95 (mkE p95 r95 false f95)) (h150 : OK Proofs.Try.prog 150 (mkE p150 r150 false f150)) : OK Proofs.Try.prog 93 (mkE p93 r93 false (F93 f95 f150)) :=
  fn_ok tab_ok2 (envL_ok (l := [(95, mkE p95 r95 false f95), (150, mkE p150 r150 false f150)]) (OKs.cons h95 (OKs.cons h150 OKs.nil))) mixed2 (ann := (fun _ => false)) (L := L93 f95 f150) (fn := Proofs.Try.f93) (c := bodyC Proofs.Try.f93) (ls := []) Proofs.Try.func93 (by kernel_rfl) (by kernel_rfl) (by kernel_rfl) (by kernel_rfl)
    LoopsP.nil (e93 f95 f150)
/-! impl.isDrift -/
def p121 : List SP := [.t .place]
def r121 : List SP := [.one (.bool)]
noncomputable def F121 (f72 : Int × Int × Int × Unit → Option (Bool × Unit)) (a : Place × Unit) : Option (Bool × Unit) :=
  (f72 (a.1.X, (-8), 8, ())).bind fun x1 => cond x1.1 ((f72 (a.1.Y, (-8), 8, ())).bind fun x2 => some (x2.1, ())) (some (false, ()))
def E121 (f72 : Int × Int × Int × Unit → Option (Bool × Unit)) : Env := envL [(72, mkE p72 r72 false f72)]
noncomputable def L121 (f72 : Int × Int × Int × Unit → Option (Bool × Unit)) : LEnv (densS (muts p121 ++ r121)) := lenv []
theorem e121 (f72 : Int × Int × Int × Unit → Option (Bool × Unit)) (a : densS p121) : runF (E121 f72) tab2 (fun _ => false) p121 r121 Proofs.Try.f121 (L121 f72) a = F121 f72 a := by kernel_rfl
theorem ok121 {f72 : Int × Int × Int × Unit → Option (Bool × Unit)} (h72 : OK Proofs.Try.prog 72 (mkE p72 r72 false f72)) : OK Proofs.Try.prog 121 (mkE p121 r121 false (F121 f72)) :=
  fn_ok tab_ok2 (envL_ok (l := [(72, mkE p72 r72 false f72)]) (OKs.cons h72 OKs.nil)) mixed2 (ann := (fun _ => false)) (L := L121 f72) (fn := Proofs.Try.f121) (c := bodyC Proofs.Try.f121) (ls := []) Proofs.Try.func121 (by kernel_rfl) (by kernel_rfl) (by kernel_rfl) (by kernel_rfl)
    LoopsP.nil (e121 f72)
/-! cmp.isNaN[int] -/
def p192 : List SP := [.one (.int .i64)]
def r192 : List SP := [.one (.bool)]
noncomputable def F192 (a : Int × Unit) : Option (Bool × Unit) :=
  some ((!(decide (a.1 = a.1))), ())
def E192 : Env := envL []
noncomputable def L192 : LEnv (densS (muts p192 ++ r192)) := lenv []
theorem e192 (a : densS p192) : runF (E192) tab2 (fun _ => false) p192 r192 Proofs.Try.f192 (L192) a = F192 a := by kernel_rfl
theorem ok192 : OK Proofs.Try.prog 192 (mkE p192 r192 false (F192)) :=
  fn_ok tab_ok2 (envL_ok (l := []) OKs.nil) mixed2 (ann := (fun _ => false)) (L := L192) (fn := Proofs.Try.f192) (c := bodyC Proofs.Try.f192) (ls := []) Proofs.Try.func192 (by kernel_rfl) (by kernel_rfl) (by kernel_rfl) (by kernel_rfl)
    LoopsP.nil (e192)
/-! cmp.Compare[int] -/
def p172 : List SP := [.one (.int .i64), .one (.int .i64)]
def r172 : List SP := [.one (.int .i64)]
noncomputable def F172 (f192 : Int × Unit → Option (Bool × Unit)) (a : Int × Int × Unit) : Option (Int × Unit) :=
  (f192 (a.1, ())).bind fun x1 => (f192 (a.2.1, ())).bind fun x2 => cond x1.1 (cond x2.1 (some (0, ())) (some ((-1), ()))) (cond x2.1 (some (1, ())) (cond (decide (a.1 < a.2.1)) (some ((-1), ())) (cond (decide (a.1 > a.2.1)) (some (1, ())) (some (0, ())))))
def E172 (f192 : Int × Unit → Option (Bool × Unit)) : Env := envL [(192, mkE p192 r192 false f192)]
noncomputable def L172 (f192 : Int × Unit → Option (Bool × Unit)) : LEnv (densS (muts p172 ++ r172)) := lenv []
theorem e172 (f192 : Int × Unit → Option (Bool × Unit)) (a : densS p172) : runF (E172 f192) tab2 (fun _ => false) p172 r172 Proofs.Try.f172 (L172 f192) a = F172 f192 a := by kernel_rfl
theorem ok172 {f192 : Int × Unit → Option (Bool × Unit)} (h192 : OK Proofs.Try.prog 192 (mkE p192 r192 false f192)) : OK Proofs.Try.prog 172 (mkE p172 r172 false (F172 f192)) :=
  fn_ok tab_ok2 (envL_ok (l := [(192, mkE p192 r192 false f192)]) (OKs.cons h192 OKs.nil)) mixed2 (ann := (fun _ => false)) (L := L172 f192) (fn := Proofs.Try.f172) (c := bodyC Proofs.Try.f172) (ls := []) Proofs.Try.func172 (by kernel_rfl) (by kernel_rfl) (by kernel_rfl) (by kernel_rfl)
    LoopsP.nil (e172 f192)
/-! cmp.Or[int] -/
def p171 : List SP := [.one (.r .int)]
def r171 : List SP := [.one (.int .i64)]
def q171_0 : List SP := pat 18 0 [(3, .one (.int .i64)), (6, .one (.r .int)), (7, .one (.int .i64)), (8, .one (.int .i64))]
noncomputable def s171_0 (t1 : Int × List Int × Int × Int × Unit) (rec K : Int × List Int × Int × Int × Unit → Option (Int × Unit)) : Option (Int × Unit) :=
  cond (decide (t1.2.2.2.1 < t1.2.2.1)) (rdL t1.2.1 t1.2.2.2.1 fun d2 => cond (!(decide (d2 = t1.1))) (some (d2, ())) (rec (t1.1, t1.2.1, t1.2.2.1, (w64 (t1.2.2.2.1 + 1)), ()))) (K (t1.1, t1.2.1, t1.2.2.1, t1.2.2.2.1, ()))
noncomputable def F171 (a : List Int × Unit) : Option (Int × Unit) :=
  iterF (s171_0) fuel (0, a.1, (Int.ofNat (List.length a.1)), 0, ()) fun t3 => some (t3.1, ())
def E171 : Env := envL []
noncomputable def L171 : LEnv (densS (muts p171 ++ r171)) := lenv [(0, loopL (R := densS (muts p171 ++ r171)) q171_0 (s171_0))]
theorem e171_0 (X : Nat → St → Option (densS (muts p171 ++ r171))) (rec K : densS q171_0 → Option (densS (muts p171 ++ r171))) (t : densS q171_0) :
    ev (E171) tab2 (fun _ => false) (L171) (retK tab2 p171 r171 Proofs.Try.f171.results.toList) (loopC Proofs.Try.f171 0) (fun i s => cond (Nat.beq i 0) (decK 100 q171_0 s K) (X i s)) (fun s => decK 100 q171_0 s rec) (enc q171_0 t) = s171_0 t rec K := by kernel_rfl
theorem e171 (a : densS p171) : runF (E171) tab2 (fun _ => false) p171 r171 Proofs.Try.f171 (L171) a = F171 a := by kernel_rfl
theorem ok171 : OK Proofs.Try.prog 171 (mkE p171 r171 false (F171)) :=
  fn_ok tab_ok2 (envL_ok (l := []) OKs.nil) mixed2 (ann := (fun _ => false)) (L := L171) (fn := Proofs.Try.f171) (c := bodyC Proofs.Try.f171) (ls := [(0, loopC Proofs.Try.f171 0)]) Proofs.Try.func171 (by kernel_rfl) (by kernel_rfl) (by kernel_rfl) (by kernel_rfl)
    (LoopsP.cons q171_0 (s171_0) rfl (e171_0) LoopsP.nil) (e171)
/-! impl.ComparePlaces -/
def p122 : List SP := [.t .place, .t .place]
def r122 : List SP := [.one (.int .i64)]
noncomputable def F122 (f172 : Int × Int × Unit → Option (Int × Unit)) (f171 : List Int × Unit → Option (Int × Unit)) (a : Place × Place × Unit) : Option (Int × Unit) :=
  (f172 (a.1.X, a.2.1.X, ())).bind fun x1 => (f172 (a.1.Y, a.2.1.Y, ())).bind fun x2 => (f171 (([x1.1, x2.1] : List Int), ())).bind fun x3 => some (x3.1, ())
def E122 (f172 : Int × Int × Unit → Option (Int × Unit)) (f171 : List Int × Unit → Option (Int × Unit)) : Env := envL [(172, mkE p172 r172 false f172), (171, mkE p171 r171 false f171)]
noncomputable def L122 (f172 : Int × Int × Unit → Option (Int × Unit)) (f171 : List Int × Unit → Option (Int × Unit)) : LEnv (densS (muts p122 ++ r122)) := lenv []
theorem e122 (f172 : Int × Int × Unit → Option (Int × Unit)) (f171 : List Int × Unit → Option (Int × Unit)) (a : densS p122) : runF (E122 f172 f171) tab2 (fun _ => false) p122 r122 Proofs.Try.f122 (L122 f172 f171) a = F122 f172 f171 a := by kernel_rfl
theorem ok122 {f172 : Int × Int × Unit → Option (Int × Unit)} {f171 : List Int × Unit → Option (Int × Unit)} (h172 : OK Proofs.Try.prog 172 (mkE p172 r172 false f172)) (h171 : OK Proofs.Try.prog 171 (mkE p171 r171 false f171)) : OK Proofs.Try.prog 122 (mkE p122 r122 false (F122 f172 f171)) :=
  fn_ok tab_ok2 (envL_ok (l := [(172, mkE p172 r172 false f172), (171, mkE p171 r171 false f171)]) (OKs.cons h172 (OKs.cons h171 OKs.nil))) mixed2 (ann := (fun _ => false)) (L := L122 f172 f171) (fn := Proofs.Try.f122) (c := bodyC Proofs.Try.f122) (ls := []) Proofs.Try.func122 (by kernel_rfl) (by kernel_rfl) (by kernel_rfl) (by kernel_rfl)
    LoopsP.nil (e122 f172 f171)
/-! impl.IsRose -/
def p58 : List SP := [.one (.r .place)]
def r58 : List SP := [.one (.bool)]
def q58_0 : List SP := pat 33 0 [(0, .one (.r .place)), (5, .one (.r .place)), (6, .one (.int .i64)), (7, .one (.int .i64))]
noncomputable def s58_0 (f121 : Place × Unit → Option (Bool × Unit)) (f122 : Place × Place × Unit → Option (Int × Unit)) (f72 : Int × Int × Int × Unit → Option (Bool × Unit)) (t1 : List Place × List Place × Int × Int × Unit) (rec K : List Place × List Place × Int × Int × Unit → Option (Bool × Unit)) : Option (Bool × Unit) :=
  cond (decide (t1.2.2.2.1 < t1.2.2.1)) (rdL t1.2.1 t1.2.2.2.1 fun d2 => (f121 (d2, ())).bind fun x3 => cond (!(!x3.1)) (cond (decide (t1.2.2.2.1 > 0)) (rdL t1.1 (w64 (t1.2.2.2.1 - 1)) fun d4 => (f122 (d4, d2, ())).bind fun x5 => cond (decide (x5.1 ≥ 0)) (some (false, ())) (rec (t1.1, t1.2.1, t1.2.2.1, (w64 (t1.2.2.2.1 + 1)), ()))) (rec (t1.1, t1.2.1, t1.2.2.1, (w64 (t1.2.2.2.1 + 1)), ()))) (some (false, ()))) (K (t1.1, t1.2.1, t1.2.2.1, t1.2.2.2.1, ()))
noncomputable def F58 (f121 : Place × Unit → Option (Bool × Unit)) (f122 : Place × Place × Unit → Option (Int × Unit)) (f72 : Int × Int × Int × Unit → Option (Bool × Unit)) (a : List Place × Unit) : Option (Bool × Unit) :=
  iterF (s58_0 f121 f122 f72) fuel (a.1, a.1, (Int.ofNat (List.length a.1)), 0, ()) fun t6 => (f72 ((Int.ofNat (List.length t6.1)), 1, 4, ())).bind fun x7 => some (x7.1, ())
def E58 (f121 : Place × Unit → Option (Bool × Unit)) (f122 : Place × Place × Unit → Option (Int × Unit)) (f72 : Int × Int × Int × Unit → Option (Bool × Unit)) : Env := envL [(121, mkE p121 r121 false f121), (122, mkE p122 r122 false f122), (72, mkE p72 r72 false f72)]
noncomputable def L58 (f121 : Place × Unit → Option (Bool × Unit)) (f122 : Place × Place × Unit → Option (Int × Unit)) (f72 : Int × Int × Int × Unit → Option (Bool × Unit)) : LEnv (densS (muts p58 ++ r58)) := lenv [(0, loopL (R := densS (muts p58 ++ r58)) q58_0 (s58_0 f121 f122 f72))]
theorem e58_0 (f121 : Place × Unit → Option (Bool × Unit)) (f122 : Place × Place × Unit → Option (Int × Unit)) (f72 : Int × Int × Int × Unit → Option (Bool × Unit)) (X : Nat → St → Option (densS (muts p58 ++ r58))) (rec K : densS q58_0 → Option (densS (muts p58 ++ r58))) (t : densS q58_0) :
    ev (E58 f121 f122 f72) tab2 (fun _ => false) (L58 f121 f122 f72) (retK tab2 p58 r58 Proofs.Try.f58.results.toList) (loopC Proofs.Try.f58 0) (fun i s => cond (Nat.beq i 0) (decK 100 q58_0 s K) (X i s)) (fun s => decK 100 q58_0 s rec) (enc q58_0 t) = s58_0 f121 f122 f72 t rec K := by kernel_rfl
theorem e58 (f121 : Place × Unit → Option (Bool × Unit)) (f122 : Place × Place × Unit → Option (Int × Unit)) (f72 : Int × Int × Int × Unit → Option (Bool × Unit)) (a : densS p58) : runF (E58 f121 f122 f72) tab2 (fun _ => false) p58 r58 Proofs.Try.f58 (L58 f121 f122 f72) a = F58 f121 f122 f72 a := by kernel_rfl
theorem ok58 {f121 : Place × Unit → Option (Bool × Unit)} {f122 : Place × Place × Unit → Option (Int × Unit)} {f72 : Int × Int × Int × Unit → Option (Bool × Unit)} (h121 : OK Proofs.Try.prog 121 (mkE p121 r121 false f121)) (h122 : OK Proofs.Try.prog 122 (mkE p122 r122 false f122)) (h72 : OK Proofs.Try.prog 72 (mkE p72 r72 false f72)) : OK Proofs.Try.prog 58 (mkE p58 r58 false (F58 f121 f122 f72)) :=
  fn_ok tab_ok2 (envL_ok (l := [(121, mkE p121 r121 false f121), (122, mkE p122 r122 false f122), (72, mkE p72 r72 false f72)]) (OKs.cons h121 (OKs.cons h122 (OKs.cons h72 OKs.nil)))) mixed2 (ann := (fun _ => false)) (L := L58 f121 f122 f72) (fn := Proofs.Try.f58) (c := bodyC Proofs.Try.f58) (ls := [(0, loopC Proofs.Try.f58 0)]) Proofs.Try.func58 (by kernel_rfl) (by kernel_rfl) (by kernel_rfl) (by kernel_rfl)
    (LoopsP.cons q58_0 (s58_0 f121 f122 f72) rfl (e58_0 f121 f122 f72) LoopsP.nil) (e58 f121 f122 f72)
/-! impl.BoxOf -/
def p151 : List SP := [.one (.r .place)]
def r151 : List SP := [.t .box, .one (.bool)]
def q151_0 : List SP := pat 58 0 [(2, .boxt 5000001 .box), (4, .boxt 5000002 .box), (18, .one (.r .place)), (19, .one (.int .i64)), (20, .one (.int .i64))]
noncomputable def s151_0 (f115 : Place × Unit → Option (Bool × Unit)) (t3 : Box × Box × List Place × Int × Int × Unit) (rec K : Box × Box × List Place × Int × Int × Unit → Option (Box × Bool × Unit)) : Option (Box × Bool × Unit) :=
  cond (decide (t3.2.2.2.2.1 < t3.2.2.2.1)) (rdL t3.2.2.1 t3.2.2.2.2.1 fun d4 => (f115 (d4, ())).bind fun x5 => cond (!x5.1) (some ((⟨⟨0, 0⟩, ⟨0, 0⟩⟩ : Box), false, ())) (rec (t3.1, (⟨⟨(mn t3.2.1.Low.X d4.X), (mn t3.2.1.Low.Y d4.Y)⟩, ⟨(mx t3.2.1.High.X d4.X), (mx t3.2.1.High.Y d4.Y)⟩⟩ : Box), t3.2.2.1, t3.2.2.2.1, (w64 (t3.2.2.2.2.1 + 1)), ()))) (K (t3.1, t3.2.1, t3.2.2.1, t3.2.2.2.1, t3.2.2.2.2.1, ()))
noncomputable def F151 (f115 : Place × Unit → Option (Bool × Unit)) (a : List Place × Unit) : Option (Box × Bool × Unit) :=
  cond (decide ((Int.ofNat (List.length a.1)) = 0)) (some ((⟨⟨0, 0⟩, ⟨0, 0⟩⟩ : Box), false, ())) (rdL a.1 0 fun d1 => rdL a.1 0 fun d2 => iterF (s151_0 f115) fuel ((⟨⟨0, 0⟩, ⟨0, 0⟩⟩ : Box), (⟨⟨d1.X, d1.Y⟩, ⟨d2.X, d2.Y⟩⟩ : Box), a.1, (Int.ofNat (List.length a.1)), 0, ()) fun t6 => some (t6.2.1, true, ()))
def E151 (f115 : Place × Unit → Option (Bool × Unit)) : Env := envL [(115, mkE p115 r115 false f115)]
noncomputable def L151 (f115 : Place × Unit → Option (Bool × Unit)) : LEnv (densS (muts p151 ++ r151)) := lenv [(0, loopL (R := densS (muts p151 ++ r151)) q151_0 (s151_0 f115))]
theorem e151_0 (f115 : Place × Unit → Option (Bool × Unit)) (X : Nat → St → Option (densS (muts p151 ++ r151))) (rec K : densS q151_0 → Option (densS (muts p151 ++ r151))) (t : densS q151_0) :
    ev (E151 f115) tab2 (fun _ => false) (L151 f115) (retK tab2 p151 r151 Proofs.Try.f151.results.toList) (loopC Proofs.Try.f151 0) (fun i s => cond (Nat.beq i 0) (decK 100 q151_0 s K) (X i s)) (fun s => decK 100 q151_0 s rec) (enc q151_0 t) = s151_0 f115 t rec K := by kernel_rfl
theorem e151 (f115 : Place × Unit → Option (Bool × Unit)) (a : densS p151) : runF (E151 f115) tab2 (fun _ => false) p151 r151 Proofs.Try.f151 (L151 f115) a = F151 f115 a := by kernel_rfl
theorem ok151 {f115 : Place × Unit → Option (Bool × Unit)} (h115 : OK Proofs.Try.prog 115 (mkE p115 r115 false f115)) : OK Proofs.Try.prog 151 (mkE p151 r151 false (F151 f115)) :=
  fn_ok tab_ok2 (envL_ok (l := [(115, mkE p115 r115 false f115)]) (OKs.cons h115 OKs.nil)) mixed2 (ann := (fun _ => false)) (L := L151 f115) (fn := Proofs.Try.f151) (c := bodyC Proofs.Try.f151) (ls := [(0, loopC Proofs.Try.f151 0)]) Proofs.Try.func151 (by kernel_rfl) (by kernel_rfl) (by kernel_rfl) (by kernel_rfl)
    (LoopsP.cons q151_0 (s151_0 f115) rfl (e151_0 f115) LoopsP.nil) (e151 f115)
/-! impl.RoseBox -/
def p94 : List SP := [.one (.r .place), .one (.int .i64)]
def r94 : List SP := [.t .box, .one (.bool)]
noncomputable def F94 (f58 : List Place × Unit → Option (Bool × Unit)) (f72 : Int × Int × Int × Unit → Option (Bool × Unit)) (f151 : List Place × Unit → Option (Box × Bool × Unit)) (a : List Place × Int × Unit) : Option (Box × Bool × Unit) :=
  (f58 (a.1, ())).bind fun x1 => cond (!(!x1.1)) ((f72 (a.2.1, 0, 128, ())).bind fun x2 => cond (!x2.1) (some ((⟨⟨0, 0⟩, ⟨0, 0⟩⟩ : Box), false, ())) ((f151 (a.1, ())).bind fun x3 => some ((⟨⟨(w64 (a.2.1 * x3.1.Low.X)), (w64 (a.2.1 * x3.1.Low.Y))⟩, ⟨(w64 (a.2.1 * x3.1.High.X)), (w64 (a.2.1 * x3.1.High.Y))⟩⟩ : Box), true, ()))) (some ((⟨⟨0, 0⟩, ⟨0, 0⟩⟩ : Box), false, ()))
def E94 (f58 : List Place × Unit → Option (Bool × Unit)) (f72 : Int × Int × Int × Unit → Option (Bool × Unit)) (f151 : List Place × Unit → Option (Box × Bool × Unit)) : Env := envL [(58, mkE p58 r58 false f58), (72, mkE p72 r72 false f72), (151, mkE p151 r151 false f151)]
noncomputable def L94 (f58 : List Place × Unit → Option (Bool × Unit)) (f72 : Int × Int × Int × Unit → Option (Bool × Unit)) (f151 : List Place × Unit → Option (Box × Bool × Unit)) : LEnv (densS (muts p94 ++ r94)) := lenv []
theorem e94 (f58 : List Place × Unit → Option (Bool × Unit)) (f72 : Int × Int × Int × Unit → Option (Bool × Unit)) (f151 : List Place × Unit → Option (Box × Bool × Unit)) (a : densS p94) : runF (E94 f58 f72 f151) tab2 (fun _ => false) p94 r94 Proofs.Try.f94 (L94 f58 f72 f151) a = F94 f58 f72 f151 a := by kernel_rfl
theorem ok94 {f58 : List Place × Unit → Option (Bool × Unit)} {f72 : Int × Int × Int × Unit → Option (Bool × Unit)} {f151 : List Place × Unit → Option (Box × Bool × Unit)} (h58 : OK Proofs.Try.prog 58 (mkE p58 r58 false f58)) (h72 : OK Proofs.Try.prog 72 (mkE p72 r72 false f72)) (h151 : OK Proofs.Try.prog 151 (mkE p151 r151 false f151)) : OK Proofs.Try.prog 94 (mkE p94 r94 false (F94 f58 f72 f151)) :=
  fn_ok tab_ok2 (envL_ok (l := [(58, mkE p58 r58 false f58), (72, mkE p72 r72 false f72), (151, mkE p151 r151 false f151)]) (OKs.cons h58 (OKs.cons h72 (OKs.cons h151 OKs.nil)))) mixed2 (ann := (fun _ => false)) (L := L94 f58 f72 f151) (fn := Proofs.Try.f94) (c := bodyC Proofs.Try.f94) (ls := []) Proofs.Try.func94 (by kernel_rfl) (by kernel_rfl) (by kernel_rfl) (by kernel_rfl)
    LoopsP.nil (e94 f58 f72 f151)
/-! impl.LandingBox -/
def p38 : List SP := [.t .jet, .one (.r .place)]
def r38 : List SP := [.t .box, .one (.bool)]
noncomputable def F38 (f93 : Jet × Unit → Option (Place × Bool × Unit)) (f95 : Jet × Unit → Option (Int × Unit)) (f94 : List Place × Int × Unit → Option (Box × Bool × Unit)) (a : Jet × List Place × Unit) : Option (Box × Bool × Unit) :=
  (f93 (a.1, ())).bind fun x1 => (f95 (a.1, ())).bind fun x2 => (f94 (a.2.1, x2.1, ())).bind fun x3 => cond (!(!x1.2.1)) (cond (!x3.2.1) (some ((⟨⟨0, 0⟩, ⟨0, 0⟩⟩ : Box), false, ())) (some ((⟨⟨(w64 (x1.1.X + x3.1.Low.X)), (w64 (x1.1.Y + x3.1.Low.Y))⟩, ⟨(w64 (x1.1.X + x3.1.High.X)), (w64 (x1.1.Y + x3.1.High.Y))⟩⟩ : Box), true, ()))) (some ((⟨⟨0, 0⟩, ⟨0, 0⟩⟩ : Box), false, ()))
def E38 (f93 : Jet × Unit → Option (Place × Bool × Unit)) (f95 : Jet × Unit → Option (Int × Unit)) (f94 : List Place × Int × Unit → Option (Box × Bool × Unit)) : Env := envL [(93, mkE p93 r93 false f93), (95, mkE p95 r95 false f95), (94, mkE p94 r94 false f94)]
noncomputable def L38 (f93 : Jet × Unit → Option (Place × Bool × Unit)) (f95 : Jet × Unit → Option (Int × Unit)) (f94 : List Place × Int × Unit → Option (Box × Bool × Unit)) : LEnv (densS (muts p38 ++ r38)) := lenv []
theorem e38 (f93 : Jet × Unit → Option (Place × Bool × Unit)) (f95 : Jet × Unit → Option (Int × Unit)) (f94 : List Place × Int × Unit → Option (Box × Bool × Unit)) (a : densS p38) : runF (E38 f93 f95 f94) tab2 (fun _ => false) p38 r38 Proofs.Try.f38 (L38 f93 f95 f94) a = F38 f93 f95 f94 a := by kernel_rfl
theorem ok38 {f93 : Jet × Unit → Option (Place × Bool × Unit)} {f95 : Jet × Unit → Option (Int × Unit)} {f94 : List Place × Int × Unit → Option (Box × Bool × Unit)} (h93 : OK Proofs.Try.prog 93 (mkE p93 r93 false f93)) (h95 : OK Proofs.Try.prog 95 (mkE p95 r95 false f95)) (h94 : OK Proofs.Try.prog 94 (mkE p94 r94 false f94)) : OK Proofs.Try.prog 38 (mkE p38 r38 false (F38 f93 f95 f94)) :=
  fn_ok tab_ok2 (envL_ok (l := [(93, mkE p93 r93 false f93), (95, mkE p95 r95 false f95), (94, mkE p94 r94 false f94)]) (OKs.cons h93 (OKs.cons h95 (OKs.cons h94 OKs.nil)))) mixed2 (ann := (fun _ => false)) (L := L38 f93 f95 f94) (fn := Proofs.Try.f38) (c := bodyC Proofs.Try.f38) (ls := []) Proofs.Try.func38 (by kernel_rfl) (by kernel_rfl) (by kernel_rfl) (by kernel_rfl)
    LoopsP.nil (e38 f93 f95 f94)
/-! laws.eqPlace -/
def p96 : List SP := [.t .place, .t .place]
def r96 : List SP := [.one (.bool)]
noncomputable def F96 (a : Place × Place × Unit) : Option (Bool × Unit) :=
  cond (!(decide (a.1.X = a.2.1.X))) (some (false, ())) (cond (!(decide (a.1.Y = a.2.1.Y))) (some (false, ())) (some (true, ())))
def E96 : Env := envL []
noncomputable def L96 : LEnv (densS (muts p96 ++ r96)) := lenv []
theorem e96 (a : densS p96) : runF (E96) tab2 (fun _ => false) p96 r96 Proofs.Try.f96 (L96) a = F96 a := by kernel_rfl
theorem ok96 : OK Proofs.Try.prog 96 (mkE p96 r96 false (F96)) :=
  fn_ok tab_ok2 (envL_ok (l := []) OKs.nil) mixed2 (ann := (fun _ => false)) (L := L96) (fn := Proofs.Try.f96) (c := bodyC Proofs.Try.f96) (ls := []) Proofs.Try.func96 (by kernel_rfl) (by kernel_rfl) (by kernel_rfl) (by kernel_rfl)
    LoopsP.nil (e96)
/-! laws.eqBox -/
def p39 : List SP := [.t .box, .t .box]
def r39 : List SP := [.one (.bool)]
noncomputable def F39 (f96 : Place × Place × Unit → Option (Bool × Unit)) (a : Box × Box × Unit) : Option (Bool × Unit) :=
  (f96 (a.1.Low, a.2.1.Low, ())).bind fun x1 => cond (!x1.1) (some (false, ())) ((f96 (a.1.High, a.2.1.High, ())).bind fun x2 => cond (!x2.1) (some (false, ())) (some (true, ())))
def E39 (f96 : Place × Place × Unit → Option (Bool × Unit)) : Env := envL [(96, mkE p96 r96 false f96)]
noncomputable def L39 (f96 : Place × Place × Unit → Option (Bool × Unit)) : LEnv (densS (muts p39 ++ r39)) := lenv []
theorem e39 (f96 : Place × Place × Unit → Option (Bool × Unit)) (a : densS p39) : runF (E39 f96) tab2 (fun _ => false) p39 r39 Proofs.Try.f39 (L39 f96) a = F39 f96 a := by kernel_rfl
theorem ok39 {f96 : Place × Place × Unit → Option (Bool × Unit)} (h96 : OK Proofs.Try.prog 96 (mkE p96 r96 false f96)) : OK Proofs.Try.prog 39 (mkE p39 r39 false (F39 f96)) :=
  fn_ok tab_ok2 (envL_ok (l := [(96, mkE p96 r96 false f96)]) (OKs.cons h96 OKs.nil)) mixed2 (ann := (fun _ => false)) (L := L39 f96) (fn := Proofs.Try.f39) (c := bodyC Proofs.Try.f39) (ls := []) Proofs.Try.func39 (by kernel_rfl) (by kernel_rfl) (by kernel_rfl) (by kernel_rfl)
    LoopsP.nil (e39 f96)
/-! laws.eqPlaceS -/
def p40 : List SP := [.one (.r .place), .one (.r .place)]
def r40 : List SP := [.one (.bool)]
def q40_0 : List SP := pat 27 0 [(0, .one (.r .place)), (1, .one (.r .place)), (5, .one (.int .i64))]
noncomputable def s40_0 (f96 : Place × Place × Unit → Option (Bool × Unit)) (t1 : List Place × List Place × Int × Unit) (rec K : List Place × List Place × Int × Unit → Option (Bool × Unit)) : Option (Bool × Unit) :=
  cond (decide (t1.2.2.1 < (Int.ofNat (List.length t1.1)))) (rdL t1.1 t1.2.2.1 fun d2 => rdL t1.2.1 t1.2.2.1 fun d3 => (f96 (d2, d3, ())).bind fun x4 => cond (!x4.1) (some (false, ())) (rec (t1.1, t1.2.1, (w64 (t1.2.2.1 + 1)), ()))) (K (t1.1, t1.2.1, t1.2.2.1, ()))
noncomputable def F40 (f96 : Place × Place × Unit → Option (Bool × Unit)) (a : List Place × List Place × Unit) : Option (Bool × Unit) :=
  cond (!(decide ((Int.ofNat (List.length a.1)) = (Int.ofNat (List.length a.2.1))))) (some (false, ())) (iterF (s40_0 f96) fuel (a.1, a.2.1, 0, ()) fun t5 => some (true, ()))
def E40 (f96 : Place × Place × Unit → Option (Bool × Unit)) : Env := envL [(96, mkE p96 r96 false f96)]
noncomputable def L40 (f96 : Place × Place × Unit → Option (Bool × Unit)) : LEnv (densS (muts p40 ++ r40)) := lenv [(0, loopL (R := densS (muts p40 ++ r40)) q40_0 (s40_0 f96))]
theorem e40_0 (f96 : Place × Place × Unit → Option (Bool × Unit)) (X : Nat → St → Option (densS (muts p40 ++ r40))) (rec K : densS q40_0 → Option (densS (muts p40 ++ r40))) (t : densS q40_0) :
    ev (E40 f96) tab2 (fun _ => false) (L40 f96) (retK tab2 p40 r40 Proofs.Try.f40.results.toList) (loopC Proofs.Try.f40 0) (fun i s => cond (Nat.beq i 0) (decK 100 q40_0 s K) (X i s)) (fun s => decK 100 q40_0 s rec) (enc q40_0 t) = s40_0 f96 t rec K := by kernel_rfl
theorem e40 (f96 : Place × Place × Unit → Option (Bool × Unit)) (a : densS p40) : runF (E40 f96) tab2 (fun _ => false) p40 r40 Proofs.Try.f40 (L40 f96) a = F40 f96 a := by kernel_rfl
theorem ok40 {f96 : Place × Place × Unit → Option (Bool × Unit)} (h96 : OK Proofs.Try.prog 96 (mkE p96 r96 false f96)) : OK Proofs.Try.prog 40 (mkE p40 r40 false (F40 f96)) :=
  fn_ok tab_ok2 (envL_ok (l := [(96, mkE p96 r96 false f96)]) (OKs.cons h96 OKs.nil)) mixed2 (ann := (fun _ => false)) (L := L40 f96) (fn := Proofs.Try.f40) (c := bodyC Proofs.Try.f40) (ls := [(0, loopC Proofs.Try.f40 0)]) Proofs.Try.func40 (by kernel_rfl) (by kernel_rfl) (by kernel_rfl) (by kernel_rfl)
    (LoopsP.cons q40_0 (s40_0 f96) rfl (e40_0 f96) LoopsP.nil) (e40 f96)
/-! laws.FnExactLandingBox -/
def p7 : List SP := [.t .jet, .one (.r .place)]
def r7 : List SP := [.one (.bool)]
noncomputable def F7 (f34 : List Place × Int × Unit → Option (Int × Unit)) (f36 : Jet × Unit → Option (Jet × Unit)) (f37 : List Place × Unit → Option (List Place × Unit)) (f35 : Jet × List Place × Unit → Option (Box × Bool × Unit)) (f38 : Jet × List Place × Unit → Option (Box × Bool × Unit)) (f39 : Box × Box × Unit → Option (Bool × Unit)) (f40 : List Place × List Place × Unit → Option (Bool × Unit)) (a : Jet × List Place × Unit) : Option (Bool × Unit) :=
  (f34 (a.2.1, 1048576, ())).bind fun x1 => cond (decide (x1.1 < 0)) (some (true, ())) ((f36 (a.1, ())).bind fun x2 => (f37 (a.2.1, ())).bind fun x3 => (f35 (x2.1, x3.1, ())).bind fun x4 => (f37 (a.2.1, ())).bind fun x5 => (f36 (a.1, ())).bind fun x6 => (f38 (x6.1, x5.1, ())).bind fun x7 => (f39 (x7.1, x4.1, ())).bind fun x8 => cond (!(!x8.1)) (cond (!(decide (x7.2.1 = x4.2.1))) (some (false, ())) ((f37 (a.2.1, ())).bind fun x9 => (f40 (x5.1, x9.1, ())).bind fun x10 => cond (!x10.1) (some (false, ())) (some (true, ())))) (some (false, ())))
def E7 (f34 : List Place × Int × Unit → Option (Int × Unit)) (f36 : Jet × Unit → Option (Jet × Unit)) (f37 : List Place × Unit → Option (List Place × Unit)) (f35 : Jet × List Place × Unit → Option (Box × Bool × Unit)) (f38 : Jet × List Place × Unit → Option (Box × Bool × Unit)) (f39 : Box × Box × Unit → Option (Bool × Unit)) (f40 : List Place × List Place × Unit → Option (Bool × Unit)) : Env := envL [(34, mkE p34 r34 false f34), (36, mkE p36 r36 false f36), (37, mkE p37 r37 false f37), (35, mkE p35 r35 false f35), (38, mkE p38 r38 false f38), (39, mkE p39 r39 false f39), (40, mkE p40 r40 false f40)]
noncomputable def L7 (f34 : List Place × Int × Unit → Option (Int × Unit)) (f36 : Jet × Unit → Option (Jet × Unit)) (f37 : List Place × Unit → Option (List Place × Unit)) (f35 : Jet × List Place × Unit → Option (Box × Bool × Unit)) (f38 : Jet × List Place × Unit → Option (Box × Bool × Unit)) (f39 : Box × Box × Unit → Option (Bool × Unit)) (f40 : List Place × List Place × Unit → Option (Bool × Unit)) : LEnv (densS (muts p7 ++ r7)) := lenv []
theorem e7 (f34 : List Place × Int × Unit → Option (Int × Unit)) (f36 : Jet × Unit → Option (Jet × Unit)) (f37 : List Place × Unit → Option (List Place × Unit)) (f35 : Jet × List Place × Unit → Option (Box × Bool × Unit)) (f38 : Jet × List Place × Unit → Option (Box × Bool × Unit)) (f39 : Box × Box × Unit → Option (Bool × Unit)) (f40 : List Place × List Place × Unit → Option (Bool × Unit)) (a : densS p7) : runF (E7 f34 f36 f37 f35 f38 f39 f40) tab2 (fun _ => false) p7 r7 Proofs.Try.f7 (L7 f34 f36 f37 f35 f38 f39 f40) a = F7 f34 f36 f37 f35 f38 f39 f40 a := by kernel_rfl
theorem ok7 {f34 : List Place × Int × Unit → Option (Int × Unit)} {f36 : Jet × Unit → Option (Jet × Unit)} {f37 : List Place × Unit → Option (List Place × Unit)} {f35 : Jet × List Place × Unit → Option (Box × Bool × Unit)} {f38 : Jet × List Place × Unit → Option (Box × Bool × Unit)} {f39 : Box × Box × Unit → Option (Bool × Unit)} {f40 : List Place × List Place × Unit → Option (Bool × Unit)} (h34 : OK Proofs.Try.prog 34 (mkE p34 r34 false f34)) (h36 : OK Proofs.Try.prog 36 (mkE p36 r36 false f36)) (h37 : OK Proofs.Try.prog 37 (mkE p37 r37 false f37)) (h35 : OK Proofs.Try.prog 35 (mkE p35 r35 false f35)) (h38 : OK Proofs.Try.prog 38 (mkE p38 r38 false f38)) (h39 : OK Proofs.Try.prog 39 (mkE p39 r39 false f39)) (h40 : OK Proofs.Try.prog 40 (mkE p40 r40 false f40)) : OK Proofs.Try.prog 7 (mkE p7 r7 false (F7 f34 f36 f37 f35 f38 f39 f40)) :=
  fn_ok tab_ok2 (envL_ok (l := [(34, mkE p34 r34 false f34), (36, mkE p36 r36 false f36), (37, mkE p37 r37 false f37), (35, mkE p35 r35 false f35), (38, mkE p38 r38 false f38), (39, mkE p39 r39 false f39), (40, mkE p40 r40 false f40)]) (OKs.cons h34 (OKs.cons h36 (OKs.cons h37 (OKs.cons h35 (OKs.cons h38 (OKs.cons h39 (OKs.cons h40 OKs.nil)))))))) mixed2 (ann := (fun _ => false)) (L := L7 f34 f36 f37 f35 f38 f39 f40) (fn := Proofs.Try.f7) (c := bodyC Proofs.Try.f7) (ls := []) Proofs.Try.func7 (by kernel_rfl) (by kernel_rfl) (by kernel_rfl) (by kernel_rfl)
    LoopsP.nil (e7 f34 f36 f37 f35 f38 f39 f40)
/-! laws.szDevice -/
def p61 : List SP := [.t .device, .one (.int .i64)]
def r61 : List SP := [.one (.int .i64)]
noncomputable def F61 (a : Device × Int × Unit) : Option (Int × Unit) :=
  cond (decide ((w64 (a.2.1 - (Int.ofNat (List.length a.1.Name)))) < 0)) (some ((-1), ())) (cond (decide ((w64 ((w64 (a.2.1 - (Int.ofNat (List.length a.1.Name)))) - (Int.ofNat (List.length a.1.Line)))) < 0)) (some ((-1), ())) (some ((w64 ((w64 (a.2.1 - (Int.ofNat (List.length a.1.Name)))) - (Int.ofNat (List.length a.1.Line)))), ())))
def E61 : Env := envL []
noncomputable def L61 : LEnv (densS (muts p61 ++ r61)) := lenv []
theorem e61 (a : densS p61) : runF (E61) tab2 (fun _ => false) p61 r61 Proofs.Try.f61 (L61) a = F61 a := by kernel_rfl
theorem ok61 : OK Proofs.Try.prog 61 (mkE p61 r61 false (F61)) :=
  fn_ok tab_ok2 (envL_ok (l := []) OKs.nil) mixed2 (ann := (fun _ => false)) (L := L61) (fn := Proofs.Try.f61) (c := bodyC Proofs.Try.f61) (ls := []) Proofs.Try.func61 (by kernel_rfl) (by kernel_rfl) (by kernel_rfl) (by kernel_rfl)
    LoopsP.nil (e61)
/-! laws.toDevice -/
def p63 : List SP := [.t .device]
def r63 : List SP := [.t .device]
noncomputable def F63 (f92 : Place × Unit → Option (Place × Unit)) (a : Device × Unit) : Option (Device × Unit) :=
  (f92 (a.1.At, ())).bind fun x1 => some ((⟨a.1.Name, a.1.Kind, a.1.Line, ⟨x1.1.X, x1.1.Y⟩, a.1.Heading, a.1.Tilt, a.1.Most⟩ : Device), ())
def E63 (f92 : Place × Unit → Option (Place × Unit)) : Env := envL [(92, mkE p92 r92 false f92)]
noncomputable def L63 (f92 : Place × Unit → Option (Place × Unit)) : LEnv (densS (muts p63 ++ r63)) := lenv []
theorem e63 (f92 : Place × Unit → Option (Place × Unit)) (a : densS p63) : runF (E63 f92) tab2 (fun _ => false) p63 r63 Proofs.Try.f63 (L63 f92) a = F63 f92 a := by kernel_rfl
theorem ok63 {f92 : Place × Unit → Option (Place × Unit)} (h92 : OK Proofs.Try.prog 92 (mkE p92 r92 false f92)) : OK Proofs.Try.prog 63 (mkE p63 r63 false (F63 f92)) :=
  fn_ok tab_ok2 (envL_ok (l := [(92, mkE p92 r92 false f92)]) (OKs.cons h92 OKs.nil)) mixed2 (ann := (fun _ => false)) (L := L63 f92) (fn := Proofs.Try.f63) (c := bodyC Proofs.Try.f63) (ls := []) Proofs.Try.func63 (by kernel_rfl) (by kernel_rfl) (by kernel_rfl) (by kernel_rfl)
    LoopsP.nil (e63 f92)
/-! laws.toBox -/
def p64 : List SP := [.t .box]
def r64 : List SP := [.t .box]
noncomputable def F64 (f92 : Place × Unit → Option (Place × Unit)) (a : Box × Unit) : Option (Box × Unit) :=
  (f92 (a.1.Low, ())).bind fun x1 => (f92 (a.1.High, ())).bind fun x2 => some ((⟨⟨x1.1.X, x1.1.Y⟩, ⟨x2.1.X, x2.1.Y⟩⟩ : Box), ())
def E64 (f92 : Place × Unit → Option (Place × Unit)) : Env := envL [(92, mkE p92 r92 false f92)]
noncomputable def L64 (f92 : Place × Unit → Option (Place × Unit)) : LEnv (densS (muts p64 ++ r64)) := lenv []
theorem e64 (f92 : Place × Unit → Option (Place × Unit)) (a : densS p64) : runF (E64 f92) tab2 (fun _ => false) p64 r64 Proofs.Try.f64 (L64 f92) a = F64 f92 a := by kernel_rfl
theorem ok64 {f92 : Place × Unit → Option (Place × Unit)} (h92 : OK Proofs.Try.prog 92 (mkE p92 r92 false f92)) : OK Proofs.Try.prog 64 (mkE p64 r64 false (F64 f92)) :=
  fn_ok tab_ok2 (envL_ok (l := [(92, mkE p92 r92 false f92)]) (OKs.cons h92 OKs.nil)) mixed2 (ann := (fun _ => false)) (L := L64 f92) (fn := Proofs.Try.f64) (c := bodyC Proofs.Try.f64) (ls := []) Proofs.Try.func64 (by kernel_rfl) (by kernel_rfl) (by kernel_rfl) (by kernel_rfl)
    LoopsP.nil (e64 f92)
/-! spec.IsName -/
def p116 : List SP := [.one (.str)]
def r116 : List SP := [.one (.bool)]
def q116_0 : List SP := pat 50 0 [(0, .one (.str)), (3, .one (.int .i64))]
noncomputable def s116_0 (t1 : Str × Int × Unit) (rec K : Str × Int × Unit → Option (Bool × Unit)) : Option (Bool × Unit) :=
  cond (decide (t1.2.1 < (Int.ofNat (List.length t1.1)))) (rdL t1.1 t1.2.1 fun d2 => cond (decide ((Int.ofNat (UInt8.toNat d2)) ≥ 97)) (rdL t1.1 t1.2.1 fun d3 => rdL t1.1 t1.2.1 fun d4 => cond (decide ((Int.ofNat (UInt8.toNat d4)) ≥ 48)) (rdL t1.1 t1.2.1 fun d5 => cond (!(decide ((Int.ofNat (UInt8.toNat d3)) ≤ 122))) (cond (!(!(decide ((Int.ofNat (UInt8.toNat d5)) ≤ 57)))) (cond (decide (t1.2.1 = 0)) (some (false, ())) (rec (t1.1, (w64 (t1.2.1 + 1)), ()))) (some (false, ()))) (rec (t1.1, (w64 (t1.2.1 + 1)), ()))) (cond (!(decide ((Int.ofNat (UInt8.toNat d3)) ≤ 122))) (some (false, ())) (rec (t1.1, (w64 (t1.2.1 + 1)), ())))) (rdL t1.1 t1.2.1 fun d6 => cond (decide ((Int.ofNat (UInt8.toNat d6)) ≥ 48)) (rdL t1.1 t1.2.1 fun d7 => cond (!(!(decide ((Int.ofNat (UInt8.toNat d7)) ≤ 57)))) (cond (decide (t1.2.1 = 0)) (some (false, ())) (rec (t1.1, (w64 (t1.2.1 + 1)), ()))) (some (false, ()))) (some (false, ())))) (K (t1.1, t1.2.1, ()))
noncomputable def F116 (a : Str × Unit) : Option (Bool × Unit) :=
  iterF (s116_0) fuel (a.1, 0, ()) fun t8 => cond (decide ((Int.ofNat (List.length t8.1)) > 0)) (some ((decide ((Int.ofNat (List.length t8.1)) ≤ 8)), ())) (some (false, ()))
def E116 : Env := envL []
noncomputable def L116 : LEnv (densS (muts p116 ++ r116)) := lenv [(0, loopL (R := densS (muts p116 ++ r116)) q116_0 (s116_0))]
theorem e116_0 (X : Nat → St → Option (densS (muts p116 ++ r116))) (rec K : densS q116_0 → Option (densS (muts p116 ++ r116))) (t : densS q116_0) :
    ev (E116) tab2 (fun _ => false) (L116) (retK tab2 p116 r116 Proofs.Try.f116.results.toList) (loopC Proofs.Try.f116 0) (fun i s => cond (Nat.beq i 0) (decK 100 q116_0 s K) (X i s)) (fun s => decK 100 q116_0 s rec) (enc q116_0 t) = s116_0 t rec K := by kernel_rfl
theorem e116 (a : densS p116) : runF (E116) tab2 (fun _ => false) p116 r116 Proofs.Try.f116 (L116) a = F116 a := by kernel_rfl
theorem ok116 : OK Proofs.Try.prog 116 (mkE p116 r116 false (F116)) :=
  fn_ok tab_ok2 (envL_ok (l := []) OKs.nil) mixed2 (ann := (fun _ => false)) (L := L116) (fn := Proofs.Try.f116) (c := bodyC Proofs.Try.f116) (ls := [(0, loopC Proofs.Try.f116 0)]) Proofs.Try.func116 (by kernel_rfl) (by kernel_rfl) (by kernel_rfl) (by kernel_rfl)
    (LoopsP.cons q116_0 (s116_0) rfl (e116_0) LoopsP.nil) (e116)
/-! spec.l5Supply -/
def p117 : List SP := [.one (.int .i64)]
def r117 : List SP := [.one (.bool)]
noncomputable def F117 (f119 : Int × Int × Int × Unit → Option (Bool × Unit)) (a : Int × Unit) : Option (Bool × Unit) :=
  (f119 (a.1, 0, 512, ())).bind fun x1 => some (x1.1, ())
def E117 (f119 : Int × Int × Int × Unit → Option (Bool × Unit)) : Env := envL [(119, mkE p119 r119 false f119)]
noncomputable def L117 (f119 : Int × Int × Int × Unit → Option (Bool × Unit)) : LEnv (densS (muts p117 ++ r117)) := lenv []
theorem e117 (f119 : Int × Int × Int × Unit → Option (Bool × Unit)) (a : densS p117) : runF (E117 f119) tab2 (fun _ => false) p117 r117 Proofs.Try.f117 (L117 f119) a = F117 f119 a := by kernel_rfl
theorem ok117 {f119 : Int × Int × Int × Unit → Option (Bool × Unit)} (h119 : OK Proofs.Try.prog 119 (mkE p119 r119 false f119)) : OK Proofs.Try.prog 117 (mkE p117 r117 false (F117 f119)) :=
  fn_ok tab_ok2 (envL_ok (l := [(119, mkE p119 r119 false f119)]) (OKs.cons h119 OKs.nil)) mixed2 (ann := (fun _ => false)) (L := L117 f119) (fn := Proofs.Try.f117) (c := bodyC Proofs.Try.f117) (ls := []) Proofs.Try.func117 (by kernel_rfl) (by kernel_rfl) (by kernel_rfl) (by kernel_rfl)
    LoopsP.nil (e117 f119)
/-! spec.l6Jet -/
def p118 : List SP := [.t .device]
def r118 : List SP := [.one (.bool)]
noncomputable def F118 (f149 : Jet × Unit → Option (Bool × Unit)) (a : Device × Unit) : Option (Bool × Unit) :=
  (f149 ((⟨⟨a.1.At.X, a.1.At.Y⟩, a.1.Heading, a.1.Tilt, 1⟩ : Jet), ())).bind fun x1 => some (x1.1, ())
def E118 (f149 : Jet × Unit → Option (Bool × Unit)) : Env := envL [(149, mkE p149 r149 false f149)]
noncomputable def L118 (f149 : Jet × Unit → Option (Bool × Unit)) : LEnv (densS (muts p118 ++ r118)) := lenv []
theorem e118 (f149 : Jet × Unit → Option (Bool × Unit)) (a : densS p118) : runF (E118 f149) tab2 (fun _ => false) p118 r118 Proofs.Try.f118 (L118 f149) a = F118 f149 a := by kernel_rfl
theorem ok118 {f149 : Jet × Unit → Option (Bool × Unit)} (h149 : OK Proofs.Try.prog 149 (mkE p149 r149 false f149)) : OK Proofs.Try.prog 118 (mkE p118 r118 false (F118 f149)) :=
  fn_ok tab_ok2 (envL_ok (l := [(149, mkE p149 r149 false f149)]) (OKs.cons h149 OKs.nil)) mixed2 (ann := (fun _ => false)) (L := L118 f149) (fn := Proofs.Try.f118) (c := bodyC Proofs.Try.f118) (ls := []) Proofs.Try.func118 (by kernel_rfl) (by kernel_rfl) (by kernel_rfl) (by kernel_rfl)
    LoopsP.nil (e118 f149)
/-! spec.IsDevice -/
def p57 : List SP := [.t .device]
def r57 : List SP := [.one (.bool)]
noncomputable def F57 (f116 : Str × Unit → Option (Bool × Unit)) (f117 : Int × Unit → Option (Bool × Unit)) (f118 : Device × Unit → Option (Bool × Unit)) (f119 : Int × Int × Int × Unit → Option (Bool × Unit)) (f120 : Place × Unit → Option (Bool × Unit)) (a : Device × Unit) : Option (Bool × Unit) :=
  (f116 (a.1.Line, ())).bind fun x1 => cond x1.1 ((f116 (a.1.Name, ())).bind fun x2 => cond (!x2.1) (some (false, ())) (cond (decide (a.1.Kind = 1)) ((f117 (a.1.Most, ())).bind fun x3 => cond x3.1 (some ((decide (a.1.Name = a.1.Name) && (decide (a.1.Kind = a.1.Kind) && (decide (a.1.Line = []) && (decide (a.1.At.X = 0) && (decide (a.1.At.Y = 0) && (decide (a.1.Heading = 0) && (decide (a.1.Tilt = 0) && (decide (a.1.Most = a.1.Most) && true)))))))), ())) (some (false, ()))) (cond (decide (a.1.Kind = 2)) (cond (!decide (a.1.Line = a.1.Name)) ((f118 (a.1, ())).bind fun x4 => cond x4.1 ((f119 (a.1.Most, 0, 32, ())).bind fun x5 => some (x5.1, ())) (some (false, ()))) (some (false, ()))) (cond (decide (a.1.Kind = 3)) (cond (!decide (a.1.Line = a.1.Name)) ((f120 (a.1.At, ())).bind fun x6 => cond x6.1 (some ((decide (a.1.Name = a.1.Name) && (decide (a.1.Kind = a.1.Kind) && (decide (a.1.Line = a.1.Line) && (decide (a.1.At.X = a.1.At.X) && (decide (a.1.At.Y = a.1.At.Y) && (decide (a.1.Heading = 0) && (decide (a.1.Tilt = 0) && (decide (a.1.Most = 0) && true)))))))), ())) (some (false, ()))) (some (false, ()))) (some (false, ())))))) ((f116 (a.1.Name, ())).bind fun x7 => cond (!x7.1) (some (false, ())) (cond (decide (a.1.Kind = 1)) ((f117 (a.1.Most, ())).bind fun x8 => cond x8.1 (some ((decide (a.1.Name = a.1.Name) && (decide (a.1.Kind = a.1.Kind) && (decide (a.1.Line = []) && (decide (a.1.At.X = 0) && (decide (a.1.At.Y = 0) && (decide (a.1.Heading = 0) && (decide (a.1.Tilt = 0) && (decide (a.1.Most = a.1.Most) && true)))))))), ())) (some (false, ()))) (cond (decide (a.1.Kind = 2)) (some (false, ())) (cond (decide (a.1.Kind = 3)) (some (false, ())) (some (false, ()))))))
def E57 (f116 : Str × Unit → Option (Bool × Unit)) (f117 : Int × Unit → Option (Bool × Unit)) (f118 : Device × Unit → Option (Bool × Unit)) (f119 : Int × Int × Int × Unit → Option (Bool × Unit)) (f120 : Place × Unit → Option (Bool × Unit)) : Env := envL [(116, mkE p116 r116 false f116), (117, mkE p117 r117 false f117), (118, mkE p118 r118 false f118), (119, mkE p119 r119 false f119), (120, mkE p120 r120 false f120)]
noncomputable def L57 (f116 : Str × Unit → Option (Bool × Unit)) (f117 : Int × Unit → Option (Bool × Unit)) (f118 : Device × Unit → Option (Bool × Unit)) (f119 : Int × Int × Int × Unit → Option (Bool × Unit)) (f120 : Place × Unit → Option (Bool × Unit)) : LEnv (densS (muts p57 ++ r57)) := lenv []
theorem e57 (f116 : Str × Unit → Option (Bool × Unit)) (f117 : Int × Unit → Option (Bool × Unit)) (f118 : Device × Unit → Option (Bool × Unit)) (f119 : Int × Int × Int × Unit → Option (Bool × Unit)) (f120 : Place × Unit → Option (Bool × Unit)) (a : densS p57) : runF (E57 f116 f117 f118 f119 f120) tab2 (fun _ => false) p57 r57 Proofs.Try.f57 (L57 f116 f117 f118 f119 f120) a = F57 f116 f117 f118 f119 f120 a := by kernel_rfl
theorem ok57 {f116 : Str × Unit → Option (Bool × Unit)} {f117 : Int × Unit → Option (Bool × Unit)} {f118 : Device × Unit → Option (Bool × Unit)} {f119 : Int × Int × Int × Unit → Option (Bool × Unit)} {f120 : Place × Unit → Option (Bool × Unit)} (h116 : OK Proofs.Try.prog 116 (mkE p116 r116 false f116)) (h117 : OK Proofs.Try.prog 117 (mkE p117 r117 false f117)) (h118 : OK Proofs.Try.prog 118 (mkE p118 r118 false f118)) (h119 : OK Proofs.Try.prog 119 (mkE p119 r119 false f119)) (h120 : OK Proofs.Try.prog 120 (mkE p120 r120 false f120)) : OK Proofs.Try.prog 57 (mkE p57 r57 false (F57 f116 f117 f118 f119 f120)) :=
  fn_ok tab_ok2 (envL_ok (l := [(116, mkE p116 r116 false f116), (117, mkE p117 r117 false f117), (118, mkE p118 r118 false f118), (119, mkE p119 r119 false f119), (120, mkE p120 r120 false f120)]) (OKs.cons h116 (OKs.cons h117 (OKs.cons h118 (OKs.cons h119 (OKs.cons h120 OKs.nil)))))) mixed2 (ann := (fun _ => false)) (L := L57 f116 f117 f118 f119 f120) (fn := Proofs.Try.f57) (c := bodyC Proofs.Try.f57) (ls := []) Proofs.Try.func57 (by kernel_rfl) (by kernel_rfl) (by kernel_rfl) (by kernel_rfl)
    LoopsP.nil (e57 f116 f117 f118 f119 f120)
/-! spec.IsBox -/
def p123 : List SP := [.t .box]
def r123 : List SP := [.one (.bool)]
noncomputable def F123 (f120 : Place × Unit → Option (Bool × Unit)) (a : Box × Unit) : Option (Bool × Unit) :=
  (f120 (a.1.Low, ())).bind fun x1 => cond x1.1 ((f120 (a.1.High, ())).bind fun x2 => cond x2.1 (cond (decide (a.1.Low.X ≤ a.1.High.X)) (some ((decide (a.1.Low.Y ≤ a.1.High.Y)), ())) (some (false, ()))) (some (false, ()))) (some (false, ()))
def E123 (f120 : Place × Unit → Option (Bool × Unit)) : Env := envL [(120, mkE p120 r120 false f120)]
noncomputable def L123 (f120 : Place × Unit → Option (Bool × Unit)) : LEnv (densS (muts p123 ++ r123)) := lenv []
theorem e123 (f120 : Place × Unit → Option (Bool × Unit)) (a : densS p123) : runF (E123 f120) tab2 (fun _ => false) p123 r123 Proofs.Try.f123 (L123 f120) a = F123 f120 a := by kernel_rfl
theorem ok123 {f120 : Place × Unit → Option (Bool × Unit)} (h120 : OK Proofs.Try.prog 120 (mkE p120 r120 false f120)) : OK Proofs.Try.prog 123 (mkE p123 r123 false (F123 f120)) :=
  fn_ok tab_ok2 (envL_ok (l := [(120, mkE p120 r120 false f120)]) (OKs.cons h120 OKs.nil)) mixed2 (ann := (fun _ => false)) (L := L123 f120) (fn := Proofs.Try.f123) (c := bodyC Proofs.Try.f123) (ls := []) Proofs.Try.func123 (by kernel_rfl) (by kernel_rfl) (by kernel_rfl) (by kernel_rfl)
    LoopsP.nil (e123 f120)
/-! spec.l9Jet -/
def p124 : List SP := [.t .device, .one (.int .i64)]
def r124 : List SP := [.t .jet]
noncomputable def F124 (a : Device × Int × Unit) : Option (Jet × Unit) :=
  some ((⟨⟨a.1.At.X, a.1.At.Y⟩, a.1.Heading, a.1.Tilt, a.2.1⟩ : Jet), ())
def E124 : Env := envL []
noncomputable def L124 : LEnv (densS (muts p124 ++ r124)) := lenv []
theorem e124 (a : densS p124) : runF (E124) tab2 (fun _ => false) p124 r124 Proofs.Try.f124 (L124) a = F124 a := by kernel_rfl
theorem ok124 : OK Proofs.Try.prog 124 (mkE p124 r124 false (F124)) :=
  fn_ok tab_ok2 (envL_ok (l := []) OKs.nil) mixed2 (ann := (fun _ => false)) (L := L124) (fn := Proofs.Try.f124) (c := bodyC Proofs.Try.f124) (ls := []) Proofs.Try.func124 (by kernel_rfl) (by kernel_rfl) (by kernel_rfl) (by kernel_rfl)
    LoopsP.nil (e124)
/-! spec.InBox -/
def p173 : List SP := [.t .box, .t .place]
def r173 : List SP := [.one (.bool)]
noncomputable def F173 (f123 : Box × Unit → Option (Bool × Unit)) (a : Box × Place × Unit) : Option (Bool × Unit) :=
  (f123 (a.1, ())).bind fun x1 => cond x1.1 (cond (decide (a.2.1.X ≥ a.1.Low.X)) (cond (decide (a.2.1.X ≤ a.1.High.X)) (cond (decide (a.2.1.Y ≥ a.1.Low.Y)) (some ((decide (a.2.1.Y ≤ a.1.High.Y)), ())) (some (false, ()))) (some (false, ()))) (some (false, ()))) (some (false, ()))
def E173 (f123 : Box × Unit → Option (Bool × Unit)) : Env := envL [(123, mkE p123 r123 false f123)]
noncomputable def L173 (f123 : Box × Unit → Option (Bool × Unit)) : LEnv (densS (muts p173 ++ r173)) := lenv []
theorem e173 (f123 : Box × Unit → Option (Bool × Unit)) (a : densS p173) : runF (E173 f123) tab2 (fun _ => false) p173 r173 Proofs.Try.f173 (L173 f123) a = F173 f123 a := by kernel_rfl
theorem ok173 {f123 : Box × Unit → Option (Bool × Unit)} (h123 : OK Proofs.Try.prog 123 (mkE p123 r123 false f123)) : OK Proofs.Try.prog 173 (mkE p173 r173 false (F173 f123)) :=
  fn_ok tab_ok2 (envL_ok (l := [(123, mkE p123 r123 false f123)]) (OKs.cons h123 OKs.nil)) mixed2 (ann := (fun _ => false)) (L := L173 f123) (fn := Proofs.Try.f173) (c := bodyC Proofs.Try.f173) (ls := []) Proofs.Try.func173 (by kernel_rfl) (by kernel_rfl) (by kernel_rfl) (by kernel_rfl)
    LoopsP.nil (e173 f123)
/-! spec.l10Within -/
def p125 : List SP := [.t .box, .t .box]
def r125 : List SP := [.one (.bool)]
noncomputable def F125 (f173 : Box × Place × Unit → Option (Bool × Unit)) (a : Box × Box × Unit) : Option (Bool × Unit) :=
  (f173 (a.2.1, a.1.Low, ())).bind fun x1 => cond x1.1 ((f173 (a.2.1, a.1.High, ())).bind fun x2 => some (x2.1, ())) (some (false, ()))
def E125 (f173 : Box × Place × Unit → Option (Bool × Unit)) : Env := envL [(173, mkE p173 r173 false f173)]
noncomputable def L125 (f173 : Box × Place × Unit → Option (Bool × Unit)) : LEnv (densS (muts p125 ++ r125)) := lenv []
theorem e125 (f173 : Box × Place × Unit → Option (Bool × Unit)) (a : densS p125) : runF (E125 f173) tab2 (fun _ => false) p125 r125 Proofs.Try.f125 (L125 f173) a = F125 f173 a := by kernel_rfl
theorem ok125 {f173 : Box × Place × Unit → Option (Bool × Unit)} (h173 : OK Proofs.Try.prog 173 (mkE p173 r173 false f173)) : OK Proofs.Try.prog 125 (mkE p125 r125 false (F125 f173)) :=
  fn_ok tab_ok2 (envL_ok (l := [(173, mkE p173 r173 false f173)]) (OKs.cons h173 OKs.nil)) mixed2 (ann := (fun _ => false)) (L := L125 f173) (fn := Proofs.Try.f125) (c := bodyC Proofs.Try.f125) (ls := []) Proofs.Try.func125 (by kernel_rfl) (by kernel_rfl) (by kernel_rfl) (by kernel_rfl)
    LoopsP.nil (e125 f173)
/-! spec.LiftLimit -/
def p62 : List SP := [.t .device, .one (.r .place), .t .box]
def r62 : List SP := [.one (.int .i64)]
def q62_0 : List SP := pat 49 0 [(1, .one (.r .place)), (3, .boxt 5000001 .device), (5, .boxt 5000002 .box), (7, .one (.int .i64)), (8, .one (.int .i64))]
noncomputable def s62_0 (f57 : Device × Unit → Option (Bool × Unit)) (f123 : Box × Unit → Option (Bool × Unit)) (f124 : Device × Int × Unit → Option (Jet × Unit)) (f35 : Jet × List Place × Unit → Option (Box × Bool × Unit)) (f125 : Box × Box × Unit → Option (Bool × Unit)) (t1 : List Place × Device × Box × Int × Int × Unit) (rec K : List Place × Device × Box × Int × Int × Unit → Option (Int × Unit)) : Option (Int × Unit) :=
  cond (decide (t1.2.2.2.2.1 ≤ t1.2.1.Most)) ((f57 (t1.2.1, ())).bind fun x2 => cond x2.1 (cond (decide (t1.2.1.Kind = 2)) ((f123 (t1.2.2.1, ())).bind fun x3 => cond x3.1 ((f124 (t1.2.1, t1.2.2.2.2.1, ())).bind fun x4 => (f35 (x4.1, t1.1, ())).bind fun x5 => cond (!(!x5.2.1)) ((f125 (x5.1, t1.2.2.1, ())).bind fun x6 => cond (!x6.1) (some (t1.2.2.2.1, ())) (rec (t1.1, t1.2.1, t1.2.2.1, t1.2.2.2.2.1, (w64 (t1.2.2.2.2.1 + 1)), ()))) (some (t1.2.2.2.1, ()))) (K (t1.1, t1.2.1, t1.2.2.1, t1.2.2.2.1, t1.2.2.2.2.1, ()))) (K (t1.1, t1.2.1, t1.2.2.1, t1.2.2.2.1, t1.2.2.2.2.1, ()))) (K (t1.1, t1.2.1, t1.2.2.1, t1.2.2.2.1, t1.2.2.2.2.1, ()))) (K (t1.1, t1.2.1, t1.2.2.1, t1.2.2.2.1, t1.2.2.2.2.1, ()))
noncomputable def F62 (f57 : Device × Unit → Option (Bool × Unit)) (f123 : Box × Unit → Option (Bool × Unit)) (f124 : Device × Int × Unit → Option (Jet × Unit)) (f35 : Jet × List Place × Unit → Option (Box × Bool × Unit)) (f125 : Box × Box × Unit → Option (Bool × Unit)) (a : Device × List Place × Box × Unit) : Option (Int × Unit) :=
  iterF (s62_0 f57 f123 f124 f35 f125) fuel (a.2.1, a.1, a.2.2.1, 0, 1, ()) fun t7 => some (t7.2.2.2.1, ())
def E62 (f57 : Device × Unit → Option (Bool × Unit)) (f123 : Box × Unit → Option (Bool × Unit)) (f124 : Device × Int × Unit → Option (Jet × Unit)) (f35 : Jet × List Place × Unit → Option (Box × Bool × Unit)) (f125 : Box × Box × Unit → Option (Bool × Unit)) : Env := envL [(57, mkE p57 r57 false f57), (123, mkE p123 r123 false f123), (124, mkE p124 r124 false f124), (35, mkE p35 r35 false f35), (125, mkE p125 r125 false f125)]
noncomputable def L62 (f57 : Device × Unit → Option (Bool × Unit)) (f123 : Box × Unit → Option (Bool × Unit)) (f124 : Device × Int × Unit → Option (Jet × Unit)) (f35 : Jet × List Place × Unit → Option (Box × Bool × Unit)) (f125 : Box × Box × Unit → Option (Bool × Unit)) : LEnv (densS (muts p62 ++ r62)) := lenv [(0, loopL (R := densS (muts p62 ++ r62)) q62_0 (s62_0 f57 f123 f124 f35 f125))]
theorem e62_0 (f57 : Device × Unit → Option (Bool × Unit)) (f123 : Box × Unit → Option (Bool × Unit)) (f124 : Device × Int × Unit → Option (Jet × Unit)) (f35 : Jet × List Place × Unit → Option (Box × Bool × Unit)) (f125 : Box × Box × Unit → Option (Bool × Unit)) (X : Nat → St → Option (densS (muts p62 ++ r62))) (rec K : densS q62_0 → Option (densS (muts p62 ++ r62))) (t : densS q62_0) :
    ev (E62 f57 f123 f124 f35 f125) tab2 (fun _ => false) (L62 f57 f123 f124 f35 f125) (retK tab2 p62 r62 Proofs.Try.f62.results.toList) (loopC Proofs.Try.f62 0) (fun i s => cond (Nat.beq i 0) (decK 100 q62_0 s K) (X i s)) (fun s => decK 100 q62_0 s rec) (enc q62_0 t) = s62_0 f57 f123 f124 f35 f125 t rec K := by kernel_rfl
theorem e62 (f57 : Device × Unit → Option (Bool × Unit)) (f123 : Box × Unit → Option (Bool × Unit)) (f124 : Device × Int × Unit → Option (Jet × Unit)) (f35 : Jet × List Place × Unit → Option (Box × Bool × Unit)) (f125 : Box × Box × Unit → Option (Bool × Unit)) (a : densS p62) : runF (E62 f57 f123 f124 f35 f125) tab2 (fun _ => false) p62 r62 Proofs.Try.f62 (L62 f57 f123 f124 f35 f125) a = F62 f57 f123 f124 f35 f125 a := by kernel_rfl
theorem ok62 {f57 : Device × Unit → Option (Bool × Unit)} {f123 : Box × Unit → Option (Bool × Unit)} {f124 : Device × Int × Unit → Option (Jet × Unit)} {f35 : Jet × List Place × Unit → Option (Box × Bool × Unit)} {f125 : Box × Box × Unit → Option (Bool × Unit)} (h57 : OK Proofs.Try.prog 57 (mkE p57 r57 false f57)) (h123 : OK Proofs.Try.prog 123 (mkE p123 r123 false f123)) (h124 : OK Proofs.Try.prog 124 (mkE p124 r124 false f124)) (h35 : OK Proofs.Try.prog 35 (mkE p35 r35 false f35)) (h125 : OK Proofs.Try.prog 125 (mkE p125 r125 false f125)) : OK Proofs.Try.prog 62 (mkE p62 r62 false (F62 f57 f123 f124 f35 f125)) :=
  fn_ok tab_ok2 (envL_ok (l := [(57, mkE p57 r57 false f57), (123, mkE p123 r123 false f123), (124, mkE p124 r124 false f124), (35, mkE p35 r35 false f35), (125, mkE p125 r125 false f125)]) (OKs.cons h57 (OKs.cons h123 (OKs.cons h124 (OKs.cons h35 (OKs.cons h125 OKs.nil)))))) mixed2 (ann := (fun _ => false)) (L := L62 f57 f123 f124 f35 f125) (fn := Proofs.Try.f62) (c := bodyC Proofs.Try.f62) (ls := [(0, loopC Proofs.Try.f62 0)]) Proofs.Try.func62 (by kernel_rfl) (by kernel_rfl) (by kernel_rfl) (by kernel_rfl)
    (LoopsP.cons q62_0 (s62_0 f57 f123 f124 f35 f125) rfl (e62_0 f57 f123 f124 f35 f125) LoopsP.nil) (e62 f57 f123 f124 f35 f125)
/-! impl.IsName -/
def p112 : List SP := [.one (.str)]
def r112 : List SP := [.one (.bool)]
def q112_0 : List SP := pat 42 0 [(0, .one (.str)), (6, .one (.int .i64)), (7, .one (.int .i64))]
noncomputable def s112_0 (f72 : Int × Int × Int × Unit → Option (Bool × Unit)) (t1 : Str × Int × Int × Unit) (rec K : Str × Int × Int × Unit → Option (Bool × Unit)) : Option (Bool × Unit) :=
  cond (decide (t1.2.2.1 < t1.2.1)) (rdL t1.1 t1.2.2.1 fun d2 => cond (decide ((Int.ofNat (UInt8.toNat d2)) ≥ 97)) (rdL t1.1 t1.2.2.1 fun d3 => cond (!(decide ((Int.ofNat (UInt8.toNat d3)) ≤ 122))) (cond (!(decide (t1.2.2.1 = 0))) (rdL t1.1 t1.2.2.1 fun d4 => cond (!(decide ((Int.ofNat (UInt8.toNat d4)) < 48))) (rdL t1.1 t1.2.2.1 fun d5 => cond (decide ((Int.ofNat (UInt8.toNat d5)) > 57)) (some (false, ())) (rec (t1.1, t1.2.1, (w64 (t1.2.2.1 + 1)), ()))) (some (false, ()))) (some (false, ()))) (rec (t1.1, t1.2.1, (w64 (t1.2.2.1 + 1)), ()))) (cond (!(decide (t1.2.2.1 = 0))) (rdL t1.1 t1.2.2.1 fun d6 => cond (!(decide ((Int.ofNat (UInt8.toNat d6)) < 48))) (rdL t1.1 t1.2.2.1 fun d7 => cond (decide ((Int.ofNat (UInt8.toNat d7)) > 57)) (some (false, ())) (rec (t1.1, t1.2.1, (w64 (t1.2.2.1 + 1)), ()))) (some (false, ()))) (some (false, ())))) (K (t1.1, t1.2.1, t1.2.2.1, ()))
noncomputable def F112 (f72 : Int × Int × Int × Unit → Option (Bool × Unit)) (a : Str × Unit) : Option (Bool × Unit) :=
  iterF (s112_0 f72) fuel (a.1, (Int.ofNat (List.length a.1)), 0, ()) fun t8 => (f72 ((Int.ofNat (List.length t8.1)), 1, 8, ())).bind fun x9 => some (x9.1, ())
def E112 (f72 : Int × Int × Int × Unit → Option (Bool × Unit)) : Env := envL [(72, mkE p72 r72 false f72)]
noncomputable def L112 (f72 : Int × Int × Int × Unit → Option (Bool × Unit)) : LEnv (densS (muts p112 ++ r112)) := lenv [(0, loopL (R := densS (muts p112 ++ r112)) q112_0 (s112_0 f72))]
theorem e112_0 (f72 : Int × Int × Int × Unit → Option (Bool × Unit)) (X : Nat → St → Option (densS (muts p112 ++ r112))) (rec K : densS q112_0 → Option (densS (muts p112 ++ r112))) (t : densS q112_0) :
    ev (E112 f72) tab2 (fun _ => false) (L112 f72) (retK tab2 p112 r112 Proofs.Try.f112.results.toList) (loopC Proofs.Try.f112 0) (fun i s => cond (Nat.beq i 0) (decK 100 q112_0 s K) (X i s)) (fun s => decK 100 q112_0 s rec) (enc q112_0 t) = s112_0 f72 t rec K := by kernel_rfl
theorem e112 (f72 : Int × Int × Int × Unit → Option (Bool × Unit)) (a : densS p112) : runF (E112 f72) tab2 (fun _ => false) p112 r112 Proofs.Try.f112 (L112 f72) a = F112 f72 a := by kernel_rfl
theorem ok112 {f72 : Int × Int × Int × Unit → Option (Bool × Unit)} (h72 : OK Proofs.Try.prog 72 (mkE p72 r72 false f72)) : OK Proofs.Try.prog 112 (mkE p112 r112 false (F112 f72)) :=
  fn_ok tab_ok2 (envL_ok (l := [(72, mkE p72 r72 false f72)]) (OKs.cons h72 OKs.nil)) mixed2 (ann := (fun _ => false)) (L := L112 f72) (fn := Proofs.Try.f112) (c := bodyC Proofs.Try.f112) (ls := [(0, loopC Proofs.Try.f112 0)]) Proofs.Try.func112 (by kernel_rfl) (by kernel_rfl) (by kernel_rfl) (by kernel_rfl)
    (LoopsP.cons q112_0 (s112_0 f72) rfl (e112_0 f72) LoopsP.nil) (e112 f72)
/-! impl.isSupply -/
def p113 : List SP := [.one (.int .i64)]
def r113 : List SP := [.one (.bool)]
noncomputable def F113 (f72 : Int × Int × Int × Unit → Option (Bool × Unit)) (a : Int × Unit) : Option (Bool × Unit) :=
  (f72 (a.1, 0, 512, ())).bind fun x1 => some (x1.1, ())
def E113 (f72 : Int × Int × Int × Unit → Option (Bool × Unit)) : Env := envL [(72, mkE p72 r72 false f72)]
noncomputable def L113 (f72 : Int × Int × Int × Unit → Option (Bool × Unit)) : LEnv (densS (muts p113 ++ r113)) := lenv []
theorem e113 (f72 : Int × Int × Int × Unit → Option (Bool × Unit)) (a : densS p113) : runF (E113 f72) tab2 (fun _ => false) p113 r113 Proofs.Try.f113 (L113 f72) a = F113 f72 a := by kernel_rfl
theorem ok113 {f72 : Int × Int × Int × Unit → Option (Bool × Unit)} (h72 : OK Proofs.Try.prog 72 (mkE p72 r72 false f72)) : OK Proofs.Try.prog 113 (mkE p113 r113 false (F113 f72)) :=
  fn_ok tab_ok2 (envL_ok (l := [(72, mkE p72 r72 false f72)]) (OKs.cons h72 OKs.nil)) mixed2 (ann := (fun _ => false)) (L := L113 f72) (fn := Proofs.Try.f113) (c := bodyC Proofs.Try.f113) (ls := []) Proofs.Try.func113 (by kernel_rfl) (by kernel_rfl) (by kernel_rfl) (by kernel_rfl)
    LoopsP.nil (e113 f72)
/-! impl.IsDevice -/
def p56 : List SP := [.t .device]
def r56 : List SP := [.one (.bool)]
noncomputable def F56 (f112 : Str × Unit → Option (Bool × Unit)) (f113 : Int × Unit → Option (Bool × Unit)) (f114 : Jet × Unit → Option (Bool × Unit)) (f72 : Int × Int × Int × Unit → Option (Bool × Unit)) (f115 : Place × Unit → Option (Bool × Unit)) (a : Device × Unit) : Option (Bool × Unit) :=
  (f112 (a.1.Name, ())).bind fun x1 => cond (!x1.1) (some (false, ())) (cond (decide (a.1.Kind = 1)) (cond (decide (a.1.Name = a.1.Name) && (decide (a.1.Kind = a.1.Kind) && (decide (a.1.Line = []) && (decide (a.1.At.X = 0) && (decide (a.1.At.Y = 0) && (decide (a.1.Heading = 0) && (decide (a.1.Tilt = 0) && (decide (a.1.Most = a.1.Most) && true)))))))) ((f113 (a.1.Most, ())).bind fun x2 => some (x2.1, ())) (some (false, ()))) (cond (decide (a.1.Kind = 2)) ((f112 (a.1.Line, ())).bind fun x3 => cond x3.1 (cond (!decide (a.1.Line = a.1.Name)) ((f114 ((⟨⟨a.1.At.X, a.1.At.Y⟩, a.1.Heading, a.1.Tilt, 1⟩ : Jet), ())).bind fun x4 => cond x4.1 ((f72 (a.1.Most, 0, 32, ())).bind fun x5 => some (x5.1, ())) (some (false, ()))) (some (false, ()))) (some (false, ()))) (cond (decide (a.1.Kind = 3)) (cond (decide (a.1.Name = a.1.Name) && (decide (a.1.Kind = a.1.Kind) && (decide (a.1.Line = a.1.Line) && (decide (a.1.At.X = a.1.At.X) && (decide (a.1.At.Y = a.1.At.Y) && (decide (a.1.Heading = 0) && (decide (a.1.Tilt = 0) && (decide (a.1.Most = 0) && true)))))))) ((f112 (a.1.Line, ())).bind fun x6 => cond x6.1 (cond (!decide (a.1.Line = a.1.Name)) ((f115 (a.1.At, ())).bind fun x7 => some (x7.1, ())) (some (false, ()))) (some (false, ()))) (some (false, ()))) (some (false, ())))))
def E56 (f112 : Str × Unit → Option (Bool × Unit)) (f113 : Int × Unit → Option (Bool × Unit)) (f114 : Jet × Unit → Option (Bool × Unit)) (f72 : Int × Int × Int × Unit → Option (Bool × Unit)) (f115 : Place × Unit → Option (Bool × Unit)) : Env := envL [(112, mkE p112 r112 false f112), (113, mkE p113 r113 false f113), (114, mkE p114 r114 false f114), (72, mkE p72 r72 false f72), (115, mkE p115 r115 false f115)]
noncomputable def L56 (f112 : Str × Unit → Option (Bool × Unit)) (f113 : Int × Unit → Option (Bool × Unit)) (f114 : Jet × Unit → Option (Bool × Unit)) (f72 : Int × Int × Int × Unit → Option (Bool × Unit)) (f115 : Place × Unit → Option (Bool × Unit)) : LEnv (densS (muts p56 ++ r56)) := lenv []
theorem e56 (f112 : Str × Unit → Option (Bool × Unit)) (f113 : Int × Unit → Option (Bool × Unit)) (f114 : Jet × Unit → Option (Bool × Unit)) (f72 : Int × Int × Int × Unit → Option (Bool × Unit)) (f115 : Place × Unit → Option (Bool × Unit)) (a : densS p56) : runF (E56 f112 f113 f114 f72 f115) tab2 (fun _ => false) p56 r56 Proofs.Try.f56 (L56 f112 f113 f114 f72 f115) a = F56 f112 f113 f114 f72 f115 a := by kernel_rfl
theorem ok56 {f112 : Str × Unit → Option (Bool × Unit)} {f113 : Int × Unit → Option (Bool × Unit)} {f114 : Jet × Unit → Option (Bool × Unit)} {f72 : Int × Int × Int × Unit → Option (Bool × Unit)} {f115 : Place × Unit → Option (Bool × Unit)} (h112 : OK Proofs.Try.prog 112 (mkE p112 r112 false f112)) (h113 : OK Proofs.Try.prog 113 (mkE p113 r113 false f113)) (h114 : OK Proofs.Try.prog 114 (mkE p114 r114 false f114)) (h72 : OK Proofs.Try.prog 72 (mkE p72 r72 false f72)) (h115 : OK Proofs.Try.prog 115 (mkE p115 r115 false f115)) : OK Proofs.Try.prog 56 (mkE p56 r56 false (F56 f112 f113 f114 f72 f115)) :=
  fn_ok tab_ok2 (envL_ok (l := [(112, mkE p112 r112 false f112), (113, mkE p113 r113 false f113), (114, mkE p114 r114 false f114), (72, mkE p72 r72 false f72), (115, mkE p115 r115 false f115)]) (OKs.cons h112 (OKs.cons h113 (OKs.cons h114 (OKs.cons h72 (OKs.cons h115 OKs.nil)))))) mixed2 (ann := (fun _ => false)) (L := L56 f112 f113 f114 f72 f115) (fn := Proofs.Try.f56) (c := bodyC Proofs.Try.f56) (ls := []) Proofs.Try.func56 (by kernel_rfl) (by kernel_rfl) (by kernel_rfl) (by kernel_rfl)
    LoopsP.nil (e56 f112 f113 f114 f72 f115)
/-! impl.IsBox -/
def p59 : List SP := [.t .box]
def r59 : List SP := [.one (.bool)]
noncomputable def F59 (f115 : Place × Unit → Option (Bool × Unit)) (a : Box × Unit) : Option (Bool × Unit) :=
  (f115 (a.1.Low, ())).bind fun x1 => cond x1.1 ((f115 (a.1.High, ())).bind fun x2 => cond x2.1 (cond (decide (a.1.Low.X ≤ a.1.High.X)) (some ((decide (a.1.Low.Y ≤ a.1.High.Y)), ())) (some (false, ()))) (some (false, ()))) (some (false, ()))
def E59 (f115 : Place × Unit → Option (Bool × Unit)) : Env := envL [(115, mkE p115 r115 false f115)]
noncomputable def L59 (f115 : Place × Unit → Option (Bool × Unit)) : LEnv (densS (muts p59 ++ r59)) := lenv []
theorem e59 (f115 : Place × Unit → Option (Bool × Unit)) (a : densS p59) : runF (E59 f115) tab2 (fun _ => false) p59 r59 Proofs.Try.f59 (L59 f115) a = F59 f115 a := by kernel_rfl
theorem ok59 {f115 : Place × Unit → Option (Bool × Unit)} (h115 : OK Proofs.Try.prog 115 (mkE p115 r115 false f115)) : OK Proofs.Try.prog 59 (mkE p59 r59 false (F59 f115)) :=
  fn_ok tab_ok2 (envL_ok (l := [(115, mkE p115 r115 false f115)]) (OKs.cons h115 OKs.nil)) mixed2 (ann := (fun _ => false)) (L := L59 f115) (fn := Proofs.Try.f59) (c := bodyC Proofs.Try.f59) (ls := []) Proofs.Try.func59 (by kernel_rfl) (by kernel_rfl) (by kernel_rfl) (by kernel_rfl)
    LoopsP.nil (e59 f115)
/-! impl.InBox -/
def p60 : List SP := [.t .box, .t .place]
def r60 : List SP := [.one (.bool)]
noncomputable def F60 (f59 : Box × Unit → Option (Bool × Unit)) (f72 : Int × Int × Int × Unit → Option (Bool × Unit)) (a : Box × Place × Unit) : Option (Bool × Unit) :=
  (f59 (a.1, ())).bind fun x1 => cond x1.1 ((f72 (a.2.1.X, a.1.Low.X, a.1.High.X, ())).bind fun x2 => cond x2.1 ((f72 (a.2.1.Y, a.1.Low.Y, a.1.High.Y, ())).bind fun x3 => some (x3.1, ())) (some (false, ()))) (some (false, ()))
def E60 (f59 : Box × Unit → Option (Bool × Unit)) (f72 : Int × Int × Int × Unit → Option (Bool × Unit)) : Env := envL [(59, mkE p59 r59 false f59), (72, mkE p72 r72 false f72)]
noncomputable def L60 (f59 : Box × Unit → Option (Bool × Unit)) (f72 : Int × Int × Int × Unit → Option (Bool × Unit)) : LEnv (densS (muts p60 ++ r60)) := lenv []
theorem e60 (f59 : Box × Unit → Option (Bool × Unit)) (f72 : Int × Int × Int × Unit → Option (Bool × Unit)) (a : densS p60) : runF (E60 f59 f72) tab2 (fun _ => false) p60 r60 Proofs.Try.f60 (L60 f59 f72) a = F60 f59 f72 a := by kernel_rfl
theorem ok60 {f59 : Box × Unit → Option (Bool × Unit)} {f72 : Int × Int × Int × Unit → Option (Bool × Unit)} (h59 : OK Proofs.Try.prog 59 (mkE p59 r59 false f59)) (h72 : OK Proofs.Try.prog 72 (mkE p72 r72 false f72)) : OK Proofs.Try.prog 60 (mkE p60 r60 false (F60 f59 f72)) :=
  fn_ok tab_ok2 (envL_ok (l := [(59, mkE p59 r59 false f59), (72, mkE p72 r72 false f72)]) (OKs.cons h59 (OKs.cons h72 OKs.nil))) mixed2 (ann := (fun _ => false)) (L := L60 f59 f72) (fn := Proofs.Try.f60) (c := bodyC Proofs.Try.f60) (ls := []) Proofs.Try.func60 (by kernel_rfl) (by kernel_rfl) (by kernel_rfl) (by kernel_rfl)
    LoopsP.nil (e60 f59 f72)
/-! impl.isIn -/
def p111 : List SP := [.t .box, .t .box]
def r111 : List SP := [.one (.bool)]
noncomputable def F111 (f60 : Box × Place × Unit → Option (Bool × Unit)) (a : Box × Box × Unit) : Option (Bool × Unit) :=
  (f60 (a.2.1, a.1.Low, ())).bind fun x1 => cond x1.1 ((f60 (a.2.1, a.1.High, ())).bind fun x2 => some (x2.1, ())) (some (false, ()))
def E111 (f60 : Box × Place × Unit → Option (Bool × Unit)) : Env := envL [(60, mkE p60 r60 false f60)]
noncomputable def L111 (f60 : Box × Place × Unit → Option (Bool × Unit)) : LEnv (densS (muts p111 ++ r111)) := lenv []
theorem e111 (f60 : Box × Place × Unit → Option (Bool × Unit)) (a : densS p111) : runF (E111 f60) tab2 (fun _ => false) p111 r111 Proofs.Try.f111 (L111 f60) a = F111 f60 a := by kernel_rfl
theorem ok111 {f60 : Box × Place × Unit → Option (Bool × Unit)} (h60 : OK Proofs.Try.prog 60 (mkE p60 r60 false f60)) : OK Proofs.Try.prog 111 (mkE p111 r111 false (F111 f60)) :=
  fn_ok tab_ok2 (envL_ok (l := [(60, mkE p60 r60 false f60)]) (OKs.cons h60 OKs.nil)) mixed2 (ann := (fun _ => false)) (L := L111 f60) (fn := Proofs.Try.f111) (c := bodyC Proofs.Try.f111) (ls := []) Proofs.Try.func111 (by kernel_rfl) (by kernel_rfl) (by kernel_rfl) (by kernel_rfl)
    LoopsP.nil (e111 f60)
/-! impl.LiftLimit -/
def p55 : List SP := [.t .device, .one (.r .place), .t .box]
def r55 : List SP := [.one (.int .i64)]
def q55_0 : List SP := pat 49 0 [(1, .one (.r .place)), (3, .boxt 5000001 .device), (5, .boxt 5000002 .box), (7, .one (.int .i64))]
noncomputable def s55_0 (f56 : Device × Unit → Option (Bool × Unit)) (f38 : Jet × List Place × Unit → Option (Box × Bool × Unit)) (f111 : Box × Box × Unit → Option (Bool × Unit)) (t2 : List Place × Device × Box × Int × Unit) (rec K : List Place × Device × Box × Int × Unit → Option (Int × Unit)) : Option (Int × Unit) :=
  cond (decide (t2.2.2.2.1 ≤ t2.2.1.Most)) ((f38 ((⟨⟨t2.2.1.At.X, t2.2.1.At.Y⟩, t2.2.1.Heading, t2.2.1.Tilt, t2.2.2.2.1⟩ : Jet), t2.1, ())).bind fun x3 => cond (!(!x3.2.1)) ((f111 (x3.1, t2.2.2.1, ())).bind fun x4 => cond (!x4.1) (some ((w64 (t2.2.2.2.1 - 1)), ())) (rec (t2.1, t2.2.1, t2.2.2.1, (w64 (t2.2.2.2.1 + 1)), ()))) (some ((w64 (t2.2.2.2.1 - 1)), ()))) (K (t2.1, t2.2.1, t2.2.2.1, t2.2.2.2.1, ()))
noncomputable def F55 (f56 : Device × Unit → Option (Bool × Unit)) (f38 : Jet × List Place × Unit → Option (Box × Bool × Unit)) (f111 : Box × Box × Unit → Option (Bool × Unit)) (a : Device × List Place × Box × Unit) : Option (Int × Unit) :=
  (f56 (a.1, ())).bind fun x1 => cond (!(!x1.1)) (cond (!(decide (a.1.Kind = 2))) (some (0, ())) (iterF (s55_0 f56 f38 f111) fuel (a.2.1, a.1, a.2.2.1, 1, ()) fun t5 => some (t5.2.1.Most, ()))) (some (0, ()))
def E55 (f56 : Device × Unit → Option (Bool × Unit)) (f38 : Jet × List Place × Unit → Option (Box × Bool × Unit)) (f111 : Box × Box × Unit → Option (Bool × Unit)) : Env := envL [(56, mkE p56 r56 false f56), (38, mkE p38 r38 false f38), (111, mkE p111 r111 false f111)]
noncomputable def L55 (f56 : Device × Unit → Option (Bool × Unit)) (f38 : Jet × List Place × Unit → Option (Box × Bool × Unit)) (f111 : Box × Box × Unit → Option (Bool × Unit)) : LEnv (densS (muts p55 ++ r55)) := lenv [(0, loopL (R := densS (muts p55 ++ r55)) q55_0 (s55_0 f56 f38 f111))]
theorem e55_0 (f56 : Device × Unit → Option (Bool × Unit)) (f38 : Jet × List Place × Unit → Option (Box × Bool × Unit)) (f111 : Box × Box × Unit → Option (Bool × Unit)) (X : Nat → St → Option (densS (muts p55 ++ r55))) (rec K : densS q55_0 → Option (densS (muts p55 ++ r55))) (t : densS q55_0) :
    ev (E55 f56 f38 f111) tab2 (fun _ => false) (L55 f56 f38 f111) (retK tab2 p55 r55 Proofs.Try.f55.results.toList) (loopC Proofs.Try.f55 0) (fun i s => cond (Nat.beq i 0) (decK 100 q55_0 s K) (X i s)) (fun s => decK 100 q55_0 s rec) (enc q55_0 t) = s55_0 f56 f38 f111 t rec K := by kernel_rfl
theorem e55 (f56 : Device × Unit → Option (Bool × Unit)) (f38 : Jet × List Place × Unit → Option (Box × Bool × Unit)) (f111 : Box × Box × Unit → Option (Bool × Unit)) (a : densS p55) : runF (E55 f56 f38 f111) tab2 (fun _ => false) p55 r55 Proofs.Try.f55 (L55 f56 f38 f111) a = F55 f56 f38 f111 a := by kernel_rfl
theorem ok55 {f56 : Device × Unit → Option (Bool × Unit)} {f38 : Jet × List Place × Unit → Option (Box × Bool × Unit)} {f111 : Box × Box × Unit → Option (Bool × Unit)} (h56 : OK Proofs.Try.prog 56 (mkE p56 r56 false f56)) (h38 : OK Proofs.Try.prog 38 (mkE p38 r38 false f38)) (h111 : OK Proofs.Try.prog 111 (mkE p111 r111 false f111)) : OK Proofs.Try.prog 55 (mkE p55 r55 false (F55 f56 f38 f111)) :=
  fn_ok tab_ok2 (envL_ok (l := [(56, mkE p56 r56 false f56), (38, mkE p38 r38 false f38), (111, mkE p111 r111 false f111)]) (OKs.cons h56 (OKs.cons h38 (OKs.cons h111 OKs.nil)))) mixed2 (ann := (fun _ => false)) (L := L55 f56 f38 f111) (fn := Proofs.Try.f55) (c := bodyC Proofs.Try.f55) (ls := [(0, loopC Proofs.Try.f55 0)]) Proofs.Try.func55 (by kernel_rfl) (by kernel_rfl) (by kernel_rfl) (by kernel_rfl)
    (LoopsP.cons q55_0 (s55_0 f56 f38 f111) rfl (e55_0 f56 f38 f111) LoopsP.nil) (e55 f56 f38 f111)
/-! laws.FnExactLiftLimit -/
def p11 : List SP := [.t .device, .one (.r .place), .t .box]
def r11 : List SP := [.one (.bool)]
noncomputable def F11 (f61 : Device × Int × Unit → Option (Int × Unit)) (f34 : List Place × Int × Unit → Option (Int × Unit)) (f63 : Device × Unit → Option (Device × Unit)) (f37 : List Place × Unit → Option (List Place × Unit)) (f64 : Box × Unit → Option (Box × Unit)) (f62 : Device × List Place × Box × Unit → Option (Int × Unit)) (f55 : Device × List Place × Box × Unit → Option (Int × Unit)) (f40 : List Place × List Place × Unit → Option (Bool × Unit)) (a : Device × List Place × Box × Unit) : Option (Bool × Unit) :=
  (f61 (a.1, 1048576, ())).bind fun x1 => cond (decide (x1.1 < 0)) (some (true, ())) ((f34 (a.2.1, x1.1, ())).bind fun x2 => cond (decide (x2.1 < 0)) (some (true, ())) ((f63 (a.1, ())).bind fun x3 => (f37 (a.2.1, ())).bind fun x4 => (f64 (a.2.2.1, ())).bind fun x5 => (f62 (x3.1, x4.1, x5.1, ())).bind fun x6 => (f37 (a.2.1, ())).bind fun x7 => (f63 (a.1, ())).bind fun x8 => (f64 (a.2.2.1, ())).bind fun x9 => (f55 (x8.1, x7.1, x9.1, ())).bind fun x10 => cond (!(decide (x10.1 = x6.1))) (some (false, ())) ((f37 (a.2.1, ())).bind fun x11 => (f40 (x7.1, x11.1, ())).bind fun x12 => cond (!x12.1) (some (false, ())) (some (true, ())))))
def E11 (f61 : Device × Int × Unit → Option (Int × Unit)) (f34 : List Place × Int × Unit → Option (Int × Unit)) (f63 : Device × Unit → Option (Device × Unit)) (f37 : List Place × Unit → Option (List Place × Unit)) (f64 : Box × Unit → Option (Box × Unit)) (f62 : Device × List Place × Box × Unit → Option (Int × Unit)) (f55 : Device × List Place × Box × Unit → Option (Int × Unit)) (f40 : List Place × List Place × Unit → Option (Bool × Unit)) : Env := envL [(61, mkE p61 r61 false f61), (34, mkE p34 r34 false f34), (63, mkE p63 r63 false f63), (37, mkE p37 r37 false f37), (64, mkE p64 r64 false f64), (62, mkE p62 r62 false f62), (55, mkE p55 r55 false f55), (40, mkE p40 r40 false f40)]
noncomputable def L11 (f61 : Device × Int × Unit → Option (Int × Unit)) (f34 : List Place × Int × Unit → Option (Int × Unit)) (f63 : Device × Unit → Option (Device × Unit)) (f37 : List Place × Unit → Option (List Place × Unit)) (f64 : Box × Unit → Option (Box × Unit)) (f62 : Device × List Place × Box × Unit → Option (Int × Unit)) (f55 : Device × List Place × Box × Unit → Option (Int × Unit)) (f40 : List Place × List Place × Unit → Option (Bool × Unit)) : LEnv (densS (muts p11 ++ r11)) := lenv []
theorem e11 (f61 : Device × Int × Unit → Option (Int × Unit)) (f34 : List Place × Int × Unit → Option (Int × Unit)) (f63 : Device × Unit → Option (Device × Unit)) (f37 : List Place × Unit → Option (List Place × Unit)) (f64 : Box × Unit → Option (Box × Unit)) (f62 : Device × List Place × Box × Unit → Option (Int × Unit)) (f55 : Device × List Place × Box × Unit → Option (Int × Unit)) (f40 : List Place × List Place × Unit → Option (Bool × Unit)) (a : densS p11) : runF (E11 f61 f34 f63 f37 f64 f62 f55 f40) tab2 (fun _ => false) p11 r11 Proofs.Try.f11 (L11 f61 f34 f63 f37 f64 f62 f55 f40) a = F11 f61 f34 f63 f37 f64 f62 f55 f40 a := by kernel_rfl
theorem ok11 {f61 : Device × Int × Unit → Option (Int × Unit)} {f34 : List Place × Int × Unit → Option (Int × Unit)} {f63 : Device × Unit → Option (Device × Unit)} {f37 : List Place × Unit → Option (List Place × Unit)} {f64 : Box × Unit → Option (Box × Unit)} {f62 : Device × List Place × Box × Unit → Option (Int × Unit)} {f55 : Device × List Place × Box × Unit → Option (Int × Unit)} {f40 : List Place × List Place × Unit → Option (Bool × Unit)} (h61 : OK Proofs.Try.prog 61 (mkE p61 r61 false f61)) (h34 : OK Proofs.Try.prog 34 (mkE p34 r34 false f34)) (h63 : OK Proofs.Try.prog 63 (mkE p63 r63 false f63)) (h37 : OK Proofs.Try.prog 37 (mkE p37 r37 false f37)) (h64 : OK Proofs.Try.prog 64 (mkE p64 r64 false f64)) (h62 : OK Proofs.Try.prog 62 (mkE p62 r62 false f62)) (h55 : OK Proofs.Try.prog 55 (mkE p55 r55 false f55)) (h40 : OK Proofs.Try.prog 40 (mkE p40 r40 false f40)) : OK Proofs.Try.prog 11 (mkE p11 r11 false (F11 f61 f34 f63 f37 f64 f62 f55 f40)) :=
  fn_ok tab_ok2 (envL_ok (l := [(61, mkE p61 r61 false f61), (34, mkE p34 r34 false f34), (63, mkE p63 r63 false f63), (37, mkE p37 r37 false f37), (64, mkE p64 r64 false f64), (62, mkE p62 r62 false f62), (55, mkE p55 r55 false f55), (40, mkE p40 r40 false f40)]) (OKs.cons h61 (OKs.cons h34 (OKs.cons h63 (OKs.cons h37 (OKs.cons h64 (OKs.cons h62 (OKs.cons h55 (OKs.cons h40 OKs.nil))))))))) mixed2 (ann := (fun _ => false)) (L := L11 f61 f34 f63 f37 f64 f62 f55 f40) (fn := Proofs.Try.f11) (c := bodyC Proofs.Try.f11) (ls := []) Proofs.Try.func11 (by kernel_rfl) (by kernel_rfl) (by kernel_rfl) (by kernel_rfl)
    LoopsP.nil (e11 f61 f34 f63 f37 f64 f62 f55 f40)
end Ev
