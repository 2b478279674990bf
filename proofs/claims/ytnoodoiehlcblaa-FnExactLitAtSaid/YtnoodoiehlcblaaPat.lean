/- What a loop keeps from round to round: patterns of a frame and its store, read as typed values and written back. Definitions alone. -/
import Derived.Test.YtnoodoiehlcblaaEval
set_option linter.unusedVariables false
namespace Ev
open Go

inductive LP | int (k : IntKind) | bool | str | r (t : Ty) | o (cid : Nat) (t : Ty) | al (cid : Nat) (t : Ty)
@[reducible] def LP.den : LP → Type
  | .int _ => Int | .bool => Bool | .str => Str | .r t => List t.den | .o _ t => List t.den | .al _ _ => Unit
@[reducible] def dens : List LP → Type
  | [] => Unit
  | l :: ls => l.den × dens ls
inductive SP | no | one (l : LP) | t (τ : Ty) | agg (ls : List LP) | box (cid : Nat) (ls : List LP) | boxt (cid : Nat) (τ : Ty) | fn (g : Nat) (ls : List LP) | sp (ls : List LP)
@[reducible] def densS : List SP → Type
  | [] => Unit
  | .no :: ps => densS ps
  | .one l :: ps => l.den × densS ps
  | .t τ :: ps => τ.den × densS ps
  | .agg ls :: ps => dens ls × densS ps
  | .box _ ls :: ps => dens ls × densS ps
  | .boxt _ τ :: ps => τ.den × densS ps
  | .fn _ ls :: ps => dens ls × densS ps
  | .sp ls :: ps => dens ls × densS ps
inductive Orig | id (n : Nat) | nil (t : Ty)
abbrev Mp := List (Nat × Orig)
/-- Whether 'c' stands for the block 'n' already. -/
def Orig.is (n : Nat) : Orig → Bool
  | .id k => Nat.beq k n
  | .nil _ => false
def isSrc (c n : Nat) : Mp → Bool
  | [] => false
  | (k, s) :: r => cond (cond (Nat.beq k c) (s.is n) false) true (isSrc c n r)
section
variable {R : Type}
def decC (st : Store) : (l : LP) → V → Mp → (l.den → Mp → Option R) → Option R
  | .int k, .int k' n, m, K => cond (decide (k = k')) (K n m) none
  | .bool, .bool b, m, K => K b m
  | .str, .str s, m, K => K s m
  | .r t, .lst t' l, m, K => match castL t' t l with
    | some l => K l m
    | none => none
  | .r t, .nils, m, K => K [] m
  | .o cid t, .own id, m, K => match look st id with
    | some (.rows t' l) => match castL t' t l with
      | some l => K l (m ++ [(cid, .id id)])
      | none => none
    | _ => none
  | .o cid t, .nils, m, K => K [] (m ++ [(cid, .nil t)])
  | .al cid t, .own id, m, K => cond (isSrc cid id m) (K () m) none
  | _, _, _, _ => none
def encC : (l : LP) → l.den → V
  | .int k, n => .int k n
  | .bool, b => .bool b
  | .str, s => .str s
  | .r t, l => .lst t l
  | .o cid t, l => .own cid
  | .al cid t, _ => .own cid
def blkC : (l : LP) → l.den → Store
  | .o cid t, l => [(cid, .rows t l)]
  | .int _, _ => []
  | .bool, _ => []
  | .str, _ => []
  | .r _, _ => []
  | .al _ _, _ => []
def decCs (st : Store) : (ls : List LP) → List V → Mp → (dens ls → Mp → Option R) → Option R
  | [], [], m, K => K () m
  | l :: ls, v :: vs, m, K => decC st l v m fun d m => decCs st ls vs m fun t m => K (d, t) m
  | _, _, _, _ => none
def encCs : (ls : List LP) → dens ls → List V
  | [], _ => []
  | l :: ls, t => encC l t.1 :: encCs ls t.2
def blkCs : (ls : List LP) → dens ls → Store
  | [], _ => []
  | l :: ls, t => blkC l t.1 ++ blkCs ls t.2
/-- Plain cells, read as typed values. -/
def decP : (l : LP) → V → Option l.den
  | .int k, .int k' n => cond (decide (k = k')) (some n) none
  | .bool, .bool b => some b
  | .str, .str s => some s
  | _, _ => none
def decPs : (ls : List LP) → List V → Option (dens ls)
  | [], [] => some ()
  | l :: ls, v :: vs => (decP l v).bind fun d => (decPs ls vs).bind fun t => some (d, t)
  | _, _ => none
def decS (st : Store) : (ps : List SP) → List V → Mp → (densS ps → Mp → Option R) → Option R
  | [], [], m, K => K () m
  | .no :: ps, _ :: vs, m, K => decS st ps vs m K
  | .one l :: ps, v :: vs, m, K => decC st l v m fun d m => decS st ps vs m fun t m => K (d, t) m
  | .t τ :: ps, .agg cs :: vs, m, K => match τ.ofCells cs with
    | some d => decS st ps vs m fun t m => K (d, t) m
    | none => none
  | .agg ls :: ps, .agg cs :: vs, m, K => decCs st ls cs m fun d m => decS st ps vs m fun t m => K (d, t) m
  | .box cid ls :: ps, .lptr id 0 :: vs, m, K => match look st id with
    | some (.box cs) => decCs st ls cs (m ++ [(cid, .id id)]) fun d m => decS st ps vs m fun t m => K (d, t) m
    | _ => none
  | .boxt cid τ :: ps, .lptr id 0 :: vs, m, K => match look st id with
    | some (.box cs) => match τ.ofCells cs with
      | some d => decS st ps vs (m ++ [(cid, .id id)]) fun t m => K (d, t) m
      | none => none
    | _ => none
  | .fn g ls :: ps, .fn g' [.sptr cs] :: vs, m, K => cond (Nat.beq g' g) ((decPs ls cs).bind fun d => decS st ps vs m fun t m => K (d, t) m) none
  | .sp ls :: ps, .sptr cs :: vs, m, K => (decPs ls cs).bind fun d => decS st ps vs m fun t m => K (d, t) m
  | _, _, _, _ => none
def encF : (ps : List SP) → densS ps → List V
  | [], _ => []
  | .no :: ps, t => .undef :: encF ps t
  | .one l :: ps, t => encC l t.1 :: encF ps t.2
  | .t τ :: ps, t => .agg (τ.cells t.1) :: encF ps t.2
  | .agg ls :: ps, t => .agg (encCs ls t.1) :: encF ps t.2
  | .box cid _ :: ps, t => .lptr cid 0 :: encF ps t.2
  | .boxt cid _ :: ps, t => .lptr cid 0 :: encF ps t.2
  | .fn g ls :: ps, t => .fn g [.sptr (encCs ls t.1)] :: encF ps t.2
  | .sp ls :: ps, t => .sptr (encCs ls t.1) :: encF ps t.2
def encB : (ps : List SP) → densS ps → Store
  | [], _ => []
  | .no :: ps, t => encB ps t
  | .one l :: ps, t => blkC l t.1 ++ encB ps t.2
  | .t τ :: ps, t => encB ps t.2
  | .agg ls :: ps, t => blkCs ls t.1 ++ encB ps t.2
  | .box cid ls :: ps, t => (cid, .box (encCs ls t.1)) :: blkCs ls t.1 ++ encB ps t.2
  | .boxt cid τ :: ps, t => (cid, .box (τ.cells t.1)) :: encB ps t.2
  | .fn _ _ :: ps, t => encB ps t.2
  | .sp _ :: ps, t => encB ps t.2
def enc (ps : List SP) (t : densS ps) : St := ⟨encF ps t, encB ps t⟩
def hasKey (c : Nat) : Mp → Bool
  | [] => false
  | (k, _) :: r => cond (Nat.beq k c) true (hasKey c r)
def hasSrc (n : Nat) : Mp → Bool
  | [] => false
  | (_, s) :: r => cond (s.is n) true (hasSrc n r)
def okMap (p : Nat) : Mp → Bool
  | [] => true
  | (c, s) :: r => cond (hasKey c r) false (cond (match s with | .id n => hasSrc n r | .nil _ => false) false (cond (cond (Nat.blt c p) (s.is c) true) (okMap p r) false))
/-- The rows that are handed on for reading only. -/
def frzV : LP → V → List Nat
  | .r _, .own id => [id]
  | .r _, .ownv id _ _ => [id]
  | _, _ => []
def frzVs : List LP → List V → List Nat
  | l :: ls, v :: vs => frzV l v ++ frzVs ls vs
  | _, _ => []
def frzIds (st : Store) : List SP → List V → List Nat
  | .one l :: ps, v :: vs => frzV l v ++ frzIds st ps vs
  | .agg ls :: ps, .agg cs :: vs => frzVs ls cs ++ frzIds st ps vs
  | .box _ ls :: ps, .lptr id 0 :: vs => match look st id with
    | some (.box cs) => frzVs ls cs ++ frzIds st ps vs
    | _ => frzIds st ps vs
  | _ :: ps, _ :: vs => frzIds st ps vs
  | _, _ => []
def decK (p : Nat) (ps : List SP) (s : St) (K : densS ps → Option R) : Option R :=
  frzAll (dedup (frzIds s.st ps s.fr)) s fun s => decS s.st ps s.fr [] fun t m => cond (okMap p m) (K t) none
end
/-- A pattern of 'n' places, of which few are kept. -/
def pat : Nat → Nat → List (Nat × SP) → List SP
  | 0, _, _ => []
  | n + 1, i, [] => .no :: pat n (i + 1) []
  | n + 1, i, (j, p) :: r => cond (Nat.beq i j) (p :: pat n (i + 1) r) (.no :: pat n (i + 1) ((j, p) :: r))
/-- As many rounds as any loop of the program takes: a number that nothing computes. -/
theorem fuel_ex : ∃ n : Nat, n = 36893488147419103232 := ⟨_, rfl⟩
noncomputable def fuel : Nat := Classical.choose fuel_ex
theorem fuel_eq : fuel = 36893488147419103232 := Classical.choose_spec fuel_ex
def iterF {R T : Type} (f : T → (T → Option R) → (T → Option R) → Option R) : Nat → T → (T → Option R) → Option R
  | 0, _, _ => none
  | n + 1, t, K => f t (fun t => iterF f n t K) K
/-- A loop: its pattern, and what a round does. -/
noncomputable def loopL {R : Type} (ps : List SP) (f : densS ps → (densS ps → Option R) → (densS ps → Option R) → Option R) (s : St) (K : St → Option R) : Option R :=
  decK 100 ps s fun t => iterF f fuel t fun t => K (enc ps t)
end Ev
