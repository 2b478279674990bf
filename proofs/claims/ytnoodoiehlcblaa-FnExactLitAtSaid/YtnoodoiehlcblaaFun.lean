/- Functions: what is handed in and what comes back, typed. Definitions alone. -/
import Derived.Test.YtnoodoiehlcblaaPat
set_option linter.unusedVariables false
namespace Ev
open Go

def LP.lf : LP → Lf
  | .int _ => .c | .bool => .c | .str => .c | .r t => .r t | .o _ t => .m t | .al _ t => .m t
def SP.sh : SP → Sh
  | .no => .one .c
  | .one l => .one l.lf
  | .t τ => .agg (List.replicate τ.width .c)
  | .agg ls => .agg (ls.map LP.lf)
  | .box _ _ => .one .p
  | .boxt _ _ => .one .p
  | .fn _ _ => .one .f
  | .sp _ => .one .s
def oS : List LP → List SP
  | [] => []
  | .o c t :: ls => .one (.o c t) :: oS ls
  | _ :: ls => oS ls
def oV : List LP → List V
  | [] => []
  | .o c _ :: ls => .own c :: oV ls
  | _ :: ls => oV ls
/-- Those that the callee may write. -/
def muts : List SP → List SP
  | [] => []
  | .one (.o c t) :: ps => .one (.o c t) :: muts ps
  | .box c ls :: ps => .box c ls :: muts ps
  | .boxt c t :: ps => .boxt c t :: muts ps
  | .agg ls :: ps => oS ls ++ muts ps
  | _ :: ps => muts ps
def mvals : List SP → List V
  | [] => []
  | .one (.o c _) :: ps => .own c :: mvals ps
  | .box c _ :: ps => .lptr c 0 :: mvals ps
  | .boxt c _ :: ps => .lptr c 0 :: mvals ps
  | .agg ls :: ps => oV ls ++ mvals ps
  | _ :: ps => mvals ps
def decV : (l : LP) → V → Option l.den
  | .int k, .int k' n => cond (decide (k = k')) (some n) none
  | .bool, .bool b => some b
  | .str, .str s => some s
  | .r t, .lst t' l => castL t' t l
  | _, _ => none
def decVs : (ls : List LP) → List V → Option (dens ls)
  | [], [] => some ()
  | l :: ls, v :: vs => (decV l v).bind fun d => (decVs ls vs).bind fun t => some (d, t)
  | _, _ => none
def decO : (l : LP) → V → Nat → List Blk → Option (l.den × Nat × List Blk)
  | .o c t, v, n, bs => match v, bs with
    | .own j, .rows t' l :: bs => cond (Nat.beq j n && Nat.beq c n) ((castL t' t l).bind fun d => some (d, n + 1, bs)) none
    | _, _ => none
  | .int k, v, n, bs => (decV (.int k) v).bind fun d => some (d, n, bs)
  | .bool, v, n, bs => (decV .bool v).bind fun d => some (d, n, bs)
  | .str, v, n, bs => (decV .str v).bind fun d => some (d, n, bs)
  | .r τ, v, n, bs => (decV (.r τ) v).bind fun d => some (d, n, bs)
  | .al _ _, _, _, _ => none
def decOs : (ls : List LP) → List V → Nat → List Blk → Option (dens ls × Nat × List Blk)
  | [], [], n, bs => some ((), n, bs)
  | l :: ls, v :: vs, n, bs => (decO l v n bs).bind fun x => (decOs ls vs x.2.1 x.2.2).bind fun y => some ((x.1, y.1), y.2.1, y.2.2)
  | _, _, _, _ => none
/-- What is handed in, read to the letter. -/
def decE : (ps : List SP) → List V → Nat → List Blk → Option (densS ps)
  | [], vs, _, bs => match vs, bs with
    | [], [] => some ()
    | _, _ => none
  | .no :: ps, _, _, _ => none
  | .one l :: ps, vs, n, bs => match vs with
    | v :: vs => (decO l v n bs).bind fun x => (decE ps vs x.2.1 x.2.2).bind fun t => some (x.1, t)
    | [] => none
  | .t τ :: ps, vs, n, bs => match vs with
    | .agg cs :: vs => (τ.ofCells cs).bind fun d => (decE ps vs n bs).bind fun t => some (d, t)
    | _ => none
  | .agg ls :: ps, vs, n, bs => match vs with
    | .agg cs :: vs => (decOs ls cs n bs).bind fun d => (decE ps vs d.2.1 d.2.2).bind fun t => some (d.1, t)
    | _ => none
  | .box c ls :: ps, vs, n, bs => match vs, bs with
    | .lptr j 0 :: vs, .box cs :: bs => cond (Nat.beq j n && Nat.beq c n) ((decVs ls cs).bind fun d => (decE ps vs (n + 1) bs).bind fun t => some (d, t)) none
    | _, _ => none
  | .boxt c τ :: ps, vs, n, bs => match vs, bs with
    | .lptr j 0 :: vs, .box cs :: bs => cond (Nat.beq j n && Nat.beq c n) ((τ.ofCells cs).bind fun d => (decE ps vs (n + 1) bs).bind fun t => some (d, t)) none
    | _, _ => none
  | .fn g ls :: ps, vs, n, bs => match vs with
    | .fn g' [.sptr cs] :: vs => cond (Nat.beq g' g) ((decPs ls cs).bind fun d => (decE ps vs n bs).bind fun t => some (d, t)) none
    | _ => none
  | .sp ls :: ps, vs, n, bs => match vs with
    | .sptr cs :: vs => (decPs ls cs).bind fun d => (decE ps vs n bs).bind fun t => some (d, t)
    | _ => none
/-- What a function is taken for, of the function that it computes. -/
def mkE (ps rs : List SP) (sh : Bool) (f : densS ps → Option (densS (muts ps ++ rs))) : Entry :=
  { pars := ps.map SP.sh, res := rs.map SP.sh, shares := sh, muts := match muts ps with | [] => false | _ => true,
    sem := fun R av bs K => (decE ps av 0 bs).bind fun a => (f a).bind fun x => K (pack ((encF (muts ps ++ rs) x).drop (muts ps).length)) ((encB (muts ps ++ rs) x).map Prod.snd) }
def LP.cid : LP → Option Nat
  | .o c _ => some c
  | _ => none
def cids : List SP → List Nat
  | [] => []
  | .one (.o c _) :: ps => c :: cids ps
  | .agg ls :: ps => ls.filterMap LP.cid ++ cids ps
  | .box c ls :: ps => c :: ls.filterMap LP.cid ++ cids ps
  | .boxt c _ :: ps => c :: cids ps
  | _ :: ps => cids ps
/-- The end of a call. -/
def retK (T : Tab) (ps rs : List SP) (rv : List ResultVar) (s : St) : Option (densS (muts ps ++ rs)) :=
  resVs T s rv fun vs => decK (cids ps).length (muts ps ++ rs) ⟨mvals ps ++ vs, s.st⟩ some
noncomputable def runF (E : Env) (T : Tab) (ann : Nat → Bool) (ps rs : List SP) (fn : Func) (L : LEnv (densS (muts ps ++ rs))) (a : densS ps) : Option (densS (muts ps ++ rs)) :=
  match fn.body with
  | some c => ev E T ann L (retK T ps rs fn.results.toList) c (fun _ _ => none) (retK T ps rs fn.results.toList) ⟨encF ps a ++ List.replicate (fn.ntmps - ps.length) .undef, encB ps a⟩
  | none => none
def noNo : List SP → Bool
  | [] => true
  | .no :: _ => false
  | _ :: ps => noNo ps
def seqN : Nat → List Nat → Bool
  | _, [] => true
  | n, c :: cs => Nat.beq c n && seqN (n + 1) cs
end Ev
