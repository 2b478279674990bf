/- The evaluator: a function over the loaded program's code that computes with values (typed lists, texts, numbers) in place of memory. Definitions alone: what it computes is shown to be what the machine does in the texts behind this one. The evaluator, second part: calls, operations, code. Definitions alone. What it is for the evaluator's state to stand for the machine's: the relation, and what keeps it. What a step of the machine keeps: the ids' blocks, what is stable, the frame. What the evaluator's table of types says holds of the program, if a check that the kernel runs says so. -/
import Derived.Test.YtpnlcamcnhpbhaaProg
import Derived.KernelRfl
import Derived.Below
import Derived.Laws.Rows
section
set_option linter.unusedVariables false
namespace Ev
open Go

/-! ### The data of the program -/
abbrev Str := List UInt8
structure Place where
  X : Int
  Y : Int
  deriving DecidableEq
structure Box where
  Low : Place
  High : Place
  deriving DecidableEq
structure Jet where
  At : Place
  Heading : Int
  Tilt : Int
  Lift : Int
  deriving DecidableEq
structure Gust where
  From : Int
  Drift : Place
  deriving DecidableEq
structure Device where
  Name : Str
  Kind : Int
  Line : Str
  At : Place
  Heading : Int
  Tilt : Int
  Most : Int
  deriving DecidableEq
structure Cue where
  Tick : Int
  Name : Str
  Level : Int
  Ramp : Int
  deriving DecidableEq
structure Run where
  Level : Int
  Count : Int
  deriving DecidableEq
structure Block where
  b0 : Int
  b1 : Int
  b2 : Int
  b3 : Int
  b4 : Int
  b5 : Int
  b6 : Int
  b7 : Int
  deriving DecidableEq
structure Drop where
  From : Str
  Born : Int
  At : Place
  Height : Int
  deriving DecidableEq
structure Throw where
  name : Str
  born : Int
  jet : Jet
  deriving DecidableEq

/-- The kinds of elements that a slice of the program has. -/
inductive Ty | int | u8 | bool | str | place | box | jet | gust | device | cue | run | block | drop | throw
  deriving DecidableEq
@[reducible] def Ty.den : Ty → Type
  | .int => Int | .u8 => Int | .bool => Bool | .str => Str | .place => Place | .box => Box | .jet => Jet | .gust => Gust
  | .device => Device | .cue => Cue | .run => Run | .block => Block | .drop => Drop | .throw => Throw

/-- Values. -/
inductive V
  | undef
  | int (k : IntKind) (n : Int)
  | bool (b : Bool)
  | str (s : Str)
  | agg (cs : List V)
  | tup (vs : List V)
  | nils
  | lst (t : Ty) (l : List t.den)
  | own (id : Nat)
  | ownv (id lo hi : Nat)
  | sptr (cs : List V)
  | lptr (id off : Nat)
  | eptr (id row col : Nat)
  | fn (f : Nat) (cap : List V)

abbrev i64 (n : Int) : V := .int .i64 n
abbrev plc (p : Place) : List V := [i64 p.X, i64 p.Y]
def Ty.cells : (t : Ty) → t.den → List V
  | .int, n => [i64 n]
  | .u8, n => [.int .u8 n]
  | .bool, b => [.bool b]
  | .str, s => [.str s]
  | .place, p => [i64 p.X, i64 p.Y]
  | .box, b => [i64 b.Low.X, i64 b.Low.Y, i64 b.High.X, i64 b.High.Y]
  | .jet, j => [i64 j.At.X, i64 j.At.Y, i64 j.Heading, i64 j.Tilt, i64 j.Lift]
  | .gust, g => [i64 g.From, i64 g.Drift.X, i64 g.Drift.Y]
  | .device, d => [.str d.Name, i64 d.Kind, .str d.Line, i64 d.At.X, i64 d.At.Y, i64 d.Heading, i64 d.Tilt, i64 d.Most]
  | .cue, x => [i64 x.Tick, .str x.Name, i64 x.Level, i64 x.Ramp]
  | .run, r => [i64 r.Level, i64 r.Count]
  | .block, b => [i64 b.b0, i64 b.b1, i64 b.b2, i64 b.b3, i64 b.b4, i64 b.b5, i64 b.b6, i64 b.b7]
  | .drop, d => [.str d.From, i64 d.Born, i64 d.At.X, i64 d.At.Y, i64 d.Height]
  | .throw, x => [.str x.name, i64 x.born, i64 x.jet.At.X, i64 x.jet.At.Y, i64 x.jet.Heading, i64 x.jet.Tilt, i64 x.jet.Lift]
def Ty.ofCells : (t : Ty) → List V → Option t.den
  | .int, [.int .i64 n] => some n
  | .u8, [.int .u8 n] => some n
  | .bool, [.bool b] => some b
  | .str, [.str s] => some s
  | .place, [.int .i64 x, .int .i64 y] => some ⟨x, y⟩
  | .box, [.int .i64 a, .int .i64 b, .int .i64 c, .int .i64 d] => some ⟨⟨a, b⟩, ⟨c, d⟩⟩
  | .jet, [.int .i64 a, .int .i64 b, .int .i64 c, .int .i64 d, .int .i64 e] => some ⟨⟨a, b⟩, c, d, e⟩
  | .gust, [.int .i64 a, .int .i64 b, .int .i64 c] => some ⟨a, ⟨b, c⟩⟩
  | .device, [.str n, .int .i64 k, .str l, .int .i64 x, .int .i64 y, .int .i64 h, .int .i64 t, .int .i64 m] => some ⟨n, k, l, ⟨x, y⟩, h, t, m⟩
  | .cue, [.int .i64 t, .str n, .int .i64 l, .int .i64 r] => some ⟨t, n, l, r⟩
  | .run, [.int .i64 a, .int .i64 b] => some ⟨a, b⟩
  | .block, [.int .i64 a, .int .i64 b, .int .i64 c, .int .i64 d, .int .i64 e, .int .i64 f, .int .i64 g, .int .i64 h] => some ⟨a, b, c, d, e, f, g, h⟩
  | .drop, [.str n, .int .i64 b, .int .i64 x, .int .i64 y, .int .i64 h] => some ⟨n, b, ⟨x, y⟩, h⟩
  | .throw, [.str n, .int .i64 b, .int .i64 x, .int .i64 y, .int .i64 h, .int .i64 t, .int .i64 l] => some ⟨n, b, ⟨⟨x, y⟩, h, t, l⟩⟩
  | _, _ => none
def Ty.width : Ty → Nat
  | .int => 1 | .u8 => 1 | .bool => 1 | .str => 1 | .place => 2 | .box => 4 | .jet => 5 | .gust => 3 | .device => 8 | .cue => 4 | .run => 2 | .block => 8 | .drop => 5 | .throw => 7
def Ty.isAgg : Ty → Bool
  | .int | .u8 | .bool | .str => false
  | _ => true
def Ty.zero : (t : Ty) → t.den
  | .int => (0 : Int) | .u8 => (0 : Int) | .bool => false | .str => ([] : Str) | .place => ⟨0, 0⟩ | .box => ⟨⟨0, 0⟩, ⟨0, 0⟩⟩ | .jet => ⟨⟨0, 0⟩, 0, 0, 0⟩
  | .gust => ⟨0, ⟨0, 0⟩⟩ | .device => ⟨[], 0, [], ⟨0, 0⟩, 0, 0, 0⟩ | .cue => ⟨0, [], 0, 0⟩ | .run => ⟨0, 0⟩ | .block => ⟨0, 0, 0, 0, 0, 0, 0, 0⟩
  | .drop => ⟨[], 0, ⟨0, 0⟩, 0⟩ | .throw => ⟨[], 0, ⟨⟨0, 0⟩, 0, 0, 0⟩⟩
/-- Rows of one kind, read as rows of another: only of the same. -/
def castL : (a b : Ty) → List a.den → Option (List b.den)
  | .int, .int, l => some l | .u8, .u8, l => some l | .bool, .bool, l => some l | .str, .str, l => some l | .place, .place, l => some l
  | .box, .box, l => some l | .jet, .jet, l => some l | .gust, .gust, l => some l | .device, .device, l => some l | .cue, .cue, l => some l
  | .run, .run, l => some l | .block, .block, l => some l | .drop, .drop, l => some l | .throw, .throw, l => some l
  | _, _, _ => none

/-- What a call owns: a variable whose address is taken, or the rows of a slice. -/
inductive Blk
  | box (cs : List V)
  | rows (t : Ty) (l : List t.den)
abbrev Store := List (Nat × Blk)
structure St where
  fr : List V
  st : Store

/-! ### What is known of a type -/
inductive TK
  | int (k : IntKind) | bool | str | sl (t : Ty) | arr (len esize : Nat) (eagg : Bool) | struct | other
structure TI where
  size : Nat
  agg : Bool
  bytes : Nat
  zero : List V
  flds : List (Nat × Nat × Bool)
  kind : TK
  flat : Bool
abbrev Tab := List (Nat × TI)
def Tab.get : Tab → Nat → Option TI
  | [], _ => none
  | (i, x) :: r, n => cond (Nat.beq i n) (some x) (Tab.get r n)

/-! ### Small steps, each handing on -/
section
variable {R : Type}
def lim : Nat := 1099511627776
def capK (n : Nat) (K : Option R) : Option R := if n ≤ lim then K else none
def rdL {α : Type} (l : List α) (i : Int) (K : α → Option R) : Option R := if 0 ≤ i then (l[i.toNat]?).bind K else none
def okIf (c : Prop) [Decidable c] (K : Option R) : Option R := if c then K else none
def setK : List V → Nat → V → (List V → Option R) → Option R
  | [], _, _, _ => none
  | _ :: xs, 0, v, K => K (v :: xs)
  | x :: xs, n + 1, v, K => setK xs n v (fun ys => K (x :: ys))
def get : List V → Nat → V
  | [], _ => .undef
  | x :: _, 0 => x
  | _ :: xs, n + 1 => get xs n
def takeK : Nat → List V → (List V → Option R) → Option R
  | 0, _, K => K []
  | _ + 1, [], _ => none
  | n + 1, x :: xs, K => takeK n xs (fun ys => K (x :: ys))
def dropK : Nat → List V → (List V → Option R) → Option R
  | 0, cs, K => K cs
  | _ + 1, [], _ => none
  | n + 1, _ :: xs, K => dropK n xs K
/-- 'vs' laid over 'cs' from place 'n' on. -/
def layK : Nat → List V → List V → (List V → Option R) → Option R
  | 0, [], cs, K => K cs
  | 0, v :: vs, _ :: cs, K => layK 0 vs cs (fun ys => K (v :: ys))
  | n + 1, vs, c :: cs, K => layK n vs cs (fun ys => K (c :: ys))
  | _, _, _, _ => none
def look : Store → Nat → Option Blk
  | [], _ => none
  | (i, b) :: r, n => cond (Nat.beq i n) (some b) (look r n)
def updK : Store → Nat → Blk → (Store → Option R) → Option R
  | [], _, _, _ => none
  | (i, b) :: r, n, b', K => cond (Nat.beq i n) (K ((n, b') :: r)) (updK r n b' (fun r' => K ((i, b) :: r')))
def delK : Store → Nat → (Store → Option R) → Option R
  | [], _, K => K []
  | (i, b) :: r, n, K => cond (Nat.beq i n) (delK r n K) (delK r n (fun r' => K ((i, b) :: r')))
def newK (st : Store) (id : Nat) (b : Blk) (K : Store → Option R) : Option R :=
  match look st id with
  | none => K ((id, b) :: st)
  | some _ => none
def V.cs : V → List V
  | .agg cs => cs
  | v => [v]
def loadK (ti : TI) (cs : List V) (K : V → Option R) : Option R :=
  match ti.agg with
  | true => takeK ti.size cs fun ys => K (.agg ys)
  | false => match cs with
    | v :: _ => K v
    | [] => none
end

/-! ### What no longer holds -/
def scrubC (id : Nat) : V → V
  | .own i => cond (Nat.beq i id) .undef (.own i)
  | .ownv i lo hi => cond (Nat.beq i id) .undef (.ownv i lo hi)
  | .lptr i o => cond (Nat.beq i id) .undef (.lptr i o)
  | .eptr i r c => cond (Nat.beq i id) .undef (.eptr i r c)
  | .fn _ _ => .undef
  | .agg _ => .undef
  | .tup _ => .undef
  | v => v
def scrubA (id : Nat) : V → V
  | .agg cs => .agg (cs.map (scrubC id))
  | v => scrubC id v
def scrubT (id : Nat) : V → V
  | .tup vs => .tup (vs.map (scrubA id))
  | v => scrubA id v
def scrubB (id : Nat) : Nat × Blk → Nat × Blk
  | (i, .box cs) => (i, .box (cs.map (scrubC id)))
  | (i, b) => (i, b)
def St.scrub (s : St) (id : Nat) : St := ⟨s.fr.map (scrubT id), s.st.map (scrubB id)⟩
end Ev
end
section
set_option linter.unusedVariables false
namespace Ev
open Go

/-! ### What a function of the program is taken for -/
inductive Lf | c | r (t : Ty) | m (t : Ty) | p | f | s
inductive Sh | one (l : Lf) | agg (ls : List Lf)
structure Entry where
  pars : List Sh
  res : List Sh
  shares : Bool
  muts : Bool
  sem : (R : Type) → List V → List Blk → (V → List Blk → Option R) → Option R
abbrev Env := Nat → Option Entry

section
variable {R : Type}
def V.plain : V → Bool
  | .int _ _ => true | .bool _ => true | .str _ => true | _ => false
def V.idfree : V → Bool
  | .int _ _ => true | .bool _ => true | .str _ => true | .lst _ _ => true | .nils => true | .undef => true | _ => false
def V.base : V → Bool
  | .agg _ => false | .tup _ => false | .fn _ _ => false | _ => true
def allB (p : V → Bool) : List V → Bool
  | [] => true
  | v :: vs => cond (p v) (allB p vs) false
def capC (st : Store) (frz : List Nat) : List V → (List V → List Nat → Option R) → Option R
  | [], K => K [] frz
  | .lptr id off :: vs, K =>
    match look st id with
    | some (.box cs) => dropK off cs fun cs => cond (allB V.plain cs) (capC st (id :: frz) vs fun ys f => K (.sptr cs :: ys) f) none
    | _ => none
  | v :: vs, K => cond v.plain (capC st frz vs fun ys f => K (v :: ys) f) none
def argC (st : Store) (ids frz : List Nat) : Lf → V → (V → List Nat → List Nat → Option R) → Option R
  | .c, v, K => match v with
    | .int _ _ | .bool _ | .str _ | .undef => K v ids frz
    | _ => none
  | .r t, v, K => match v with
    | .lst t' l => match castL t' t l with
      | some l => K (.lst t l) ids frz
      | none => none
    | .own id => match look st id with
      | some (.rows t' l) => match castL t' t l with
        | some l => K (.lst t l) ids (id :: frz)
        | none => none
      | _ => none
    | .ownv id lo hi => match look st id with
      | some (.rows t' l) => match castL t' t l with
        | some l => K (.lst t ((l.take hi).drop lo)) ids (id :: frz)
        | none => none
      | _ => none
    | .nils => K (.lst t []) ids frz
    | .undef => K .undef ids frz
    | _ => none
  | .m t, v, K => match v with
    | .own id => match look st id with
      | some (.rows t' l) => match castL t' t l with
        | some _ => K (.own ids.length) (ids ++ [id]) frz
        | none => none
      | _ => none
    | _ => none
  | .p, v, K => match v with
    | .lptr id 0 => match look st id with
      | some (.box cs) => cond (allB V.idfree cs) (K (.lptr ids.length 0) (ids ++ [id]) frz) none
      | _ => none
    | _ => none
  | .f, v, K => match v with
    | .fn g cap => capC st frz cap fun cap f => K (.fn g cap) ids f
    | _ => none
  | .s, v, K => match v with
    | .sptr cs => K (.sptr cs) ids frz
    | _ => none
def argCs (st : Store) : List Lf → List V → List Nat → List Nat → (List V → List Nat → List Nat → Option R) → Option R
  | [], [], ids, frz, K => K [] ids frz
  | l :: ls, v :: vs, ids, frz, K => argC st ids frz l v fun v ids frz => argCs st ls vs ids frz fun vs ids frz => K (v :: vs) ids frz
  | _, _, _, _, _ => none
def argA (st : Store) (ids frz : List Nat) : Sh → V → (V → List Nat → List Nat → Option R) → Option R
  | .one l, v, K => argC st ids frz l v K
  | .agg ls, .agg cs, K => argCs st ls cs ids frz fun cs ids frz => K (.agg cs) ids frz
  | _, _, _ => none
def argAs (st : Store) : List Sh → List V → List Nat → List Nat → (List V → List Nat → List Nat → Option R) → Option R
  | [], [], ids, frz, K => K [] ids frz
  | s :: ss, v :: vs, ids, frz, K => argA st ids frz s v fun v ids frz => argAs st ss vs ids frz fun vs ids frz => K (v :: vs) ids frz
  | _, _, _, _, _ => none
def memN (n : Nat) : List Nat → Bool
  | [] => false
  | m :: r => cond (Nat.beq m n) true (memN n r)
def okIds (frz : List Nat) : List Nat → Bool
  | [] => true
  | n :: r => cond (memN n r) false (cond (memN n frz) false (okIds frz r))
def blksK (st : Store) : List Nat → (List Blk → Option R) → Option R
  | [], K => K []
  | id :: ids, K => match look st id with
    | some b => blksK st ids fun bs => K (b :: bs)
    | none => none
def mapId (dst : Nat) : List Nat → Nat → Nat
  | [], j => dst + 10000 * j
  | id :: _, 0 => id
  | _ :: ids, j + 1 => mapId dst ids j
def renC (sh : Bool) (dst : Nat) (ids : List Nat) (v : V) (K : V → Option R) : Option R :=
  match v with
  | .int _ _ | .bool _ | .str _ => K v
  | .own j => K (.own (mapId dst ids j))
  | .lptr j o => K (.lptr (mapId dst ids j) o)
  | .lst t l => cond sh (K (.lst t l)) none
  | _ => none
def renCs (sh : Bool) (dst : Nat) (ids : List Nat) : List V → (List V → Option R) → Option R
  | [], K => K []
  | v :: vs, K => renC sh dst ids v fun v => renCs sh dst ids vs fun vs => K (v :: vs)
def renA (sh : Bool) (dst : Nat) (ids : List Nat) (v : V) (K : V → Option R) : Option R :=
  match v with
  | .agg cs => renCs sh dst ids cs fun cs => K (.agg cs)
  | v => renC sh dst ids v K
def renAs (sh : Bool) (dst : Nat) (ids : List Nat) : List V → (List V → Option R) → Option R
  | [], K => K []
  | v :: vs, K => renA sh dst ids v fun v => renAs sh dst ids vs fun vs => K (v :: vs)
def renT (sh : Bool) (dst : Nat) (ids : List Nat) (v : V) (K : V → Option R) : Option R :=
  match v with
  | .tup vs => renAs sh dst ids vs fun vs => K (.tup vs)
  | v => renA sh dst ids v K
/-- What may come back in a block: no ids, and what is shared only where the callee may hand on what came in. -/
def okV (sh : Bool) : V → Bool
  | .lst _ _ => sh
  | v => v.idfree
def Blk.okB (sh : Bool) : Blk → Bool
  | .box cs => allB (okV sh) cs
  | .rows _ _ => true
def impB (sh : Bool) (dst : Nat) : List Nat → Nat → List Blk → Store → (Store → Option R) → Option R
  | id :: ids, j, b :: bs, st, K => cond (b.okB sh) (updK st id b fun st => impB sh dst ids j bs st K) none
  | [], j, b :: bs, st, K => cond (b.okB sh) (newK st (dst + 10000 * j) b fun st => impB sh dst [] (j + 1) bs st K) none
  | [], _, [], st, K => K st
  | _ :: _, _, [], _, _ => none
def frzC (id : Nat) (t : Ty) (l : List t.den) : V → V
  | .own i => cond (Nat.beq i id) (.lst t l) (.own i)
  | .ownv i lo hi => cond (Nat.beq i id) (.lst t ((l.take hi).drop lo)) (.ownv i lo hi)
  | v => scrubC id v
def frzA (id : Nat) (t : Ty) (l : List t.den) : V → V
  | .agg cs => .agg (cs.map (frzC id t l))
  | v => frzC id t l v
def frzT (id : Nat) (t : Ty) (l : List t.den) : V → V
  | .tup vs => .tup (vs.map (frzA id t l))
  | v => frzA id t l v
def frzB (id : Nat) (t : Ty) (l : List t.den) : Nat × Blk → Nat × Blk
  | (i, .box cs) => (i, .box (cs.map (frzC id t l)))
  | (i, b) => (i, b)
def frzAll : List Nat → St → (St → Option R) → Option R
  | [], s, K => K s
  | id :: ids, s, K => match look s.st id with
    | some (.rows t l) => delK s.st id fun st => frzAll ids ⟨s.fr.map (frzT id t l), st.map (frzB id t l)⟩ K
    | some (.box _) => none
    | none => none
def dedup : List Nat → List Nat
  | [] => []
  | n :: r => cond (memN n r) (dedup r) (n :: dedup r)
def nilB : List Nat → Bool
  | [] => true
  | _ => false
def callK (E : Env) (f : Nat) (dst : Nat) (vs : List V) (s : St) (K : V → St → Option R) : Option R :=
  match E f with
  | none => none
  | some e => argAs s.st e.pars vs [] [] fun av ids frz =>
    cond (okIds frz ids && (e.muts || nilB ids)) (frzAll (cond e.shares (dedup frz) []) s fun s => blksK s.st ids fun bs => e.sem R av bs fun res out =>
      impB e.shares dst ids 0 out s.st fun st => renT e.shares dst ids res fun v => K v ⟨s.fr, st⟩) none

/-! ### Operations -/
def ofConst : Value → V
  | .int k n => .int k n
  | .bool b => .bool b
  | .string s => .str s.data.toList
  | .slice none 0 0 => .nils
  | .agg cs => .agg (cs.toList.map fun
    | .int k n => .int k n
    | .bool b => .bool b
    | .string s => .str s.data.toList
    | .slice none 0 0 => .nils
    | _ => .undef)
  | _ => .undef
def opd (fr : List V) : Operand → V
  | .tmp t => get fr t
  | .const v => ofConst v
  | .func f => .fn f []
  | .global _ => .undef
def opds (fr : List V) : List Operand → (List V → Option R) → Option R
  | [], K => K []
  | x :: xs, K => opds fr xs fun vs => K (opd fr x :: vs)
def bitsOp (op : BinOp) (k : IntKind) (a b : Int) : Int :=
  match op with
  | .and => k.wrap (BitVec.ofInt k.bits a &&& BitVec.ofInt k.bits b).toNat
  | .or => k.wrap (BitVec.ofInt k.bits a ||| BitVec.ofInt k.bits b).toNat
  | _ => k.wrap (BitVec.ofInt k.bits a ^^^ BitVec.ofInt k.bits b).toNat
def shrOp (k : IntKind) (a b : Int) : Int := a.fdiv (2 ^ min b.toNat k.bits)
def shlOp (k : IntKind) (a b : Int) : Int := k.wrap (a * 2 ^ min b.toNat k.bits)
def mn (a b : Int) : Int := if b < a then b else a
def mx (a b : Int) : Int := if b > a then b else a
def intK (op : BinOp) (k : IntKind) (a b : Int) (K : V → Option R) : Option R :=
  match op with
  | .add => K (.int k (k.wrap (a + b)))
  | .sub => K (.int k (k.wrap (a - b)))
  | .mul => K (.int k (k.wrap (a * b)))
  | .quo => cond (decide (b = 0)) none (K (.int k (k.wrap (a.tdiv b))))
  | .rem => cond (decide (b = 0)) none (K (.int k (a.tmod b)))
  | .and => K (.int k (bitsOp .and k a b))
  | .or => K (.int k (bitsOp .or k a b))
  | .xor => K (.int k (bitsOp .xor k a b))
  | .eql => K (.bool (decide (a = b)))
  | .neq => K (.bool (!decide (a = b)))
  | .lss => K (.bool (decide (a < b)))
  | .leq => K (.bool (decide (a ≤ b)))
  | .gtr => K (.bool (decide (a > b)))
  | .geq => K (.bool (decide (a ≥ b)))
  | _ => none
/-- Cells of the kinds of 'zs'. -/
def fits : List V → List V → Bool
  | [], [] => true
  | .int k _ :: zs, .int k' _ :: xs => decide (k = k') && fits zs xs
  | .bool _ :: zs, .bool _ :: xs => fits zs xs
  | .str _ :: zs, .str _ :: xs => fits zs xs
  | _, _ => false
def eqK : List V → List V → (Bool → Option R) → Option R
  | [], [], K => K true
  | .int k a :: xs, .int k' b :: ys, K => cond (decide (k = k')) (eqK xs ys fun t => K (decide (a = b) && t)) none
  | .str a :: xs, .str b :: ys, K => eqK xs ys fun t => K (decide (a = b) && t)
  | .bool a :: xs, .bool b :: ys, K => eqK xs ys fun t => K (decide (a = b) && t)
  | _, _, _ => none
def binK (T : Tab) (op : BinOp) (t : Nat) (x y : V) (K : V → Option R) : Option R :=
  match x, y with
  | .int k a, .int k' b =>
    match op with
    | .shl => cond (decide (b < 0)) none (K (.int k (shlOp k a b)))
    | .shr => cond (decide (b < 0)) none (K (.int k (shrOp k a b)))
    | op => cond (decide (k = k')) (intK op k a b K) none
  | .str a, .str b =>
    match op with
    | .add => capK (a.length + b.length) (K (.str (a ++ b)))
    | .eql => K (.bool (decide (a = b)))
    | .neq => K (.bool (!decide (a = b)))
    | .lss => K (.bool (Op.bytesLess a b))
    | .leq => K (.bool (Op.bytesLess a b || decide (a = b)))
    | .gtr => K (.bool (!(Op.bytesLess a b || decide (a = b))))
    | .geq => K (.bool (!Op.bytesLess a b))
    | _ => none
  | .bool a, .bool b =>
    match T.get t with
    | some ⟨_, _, _, _, _, .bool, _⟩ => match op with
      | .eql => K (.bool (decide (a = b)))
      | .neq => K (.bool (!decide (a = b)))
      | _ => none
    | _ => none
  | .agg xs, .agg ys =>
    match T.get t with
    | some ti => cond (ti.flat && (fits ti.zero xs && fits ti.zero ys)) (match op with
      | .eql => eqK xs ys fun b => K (.bool b)
      | .neq => eqK xs ys fun b => K (.bool (!b))
      | _ => none) none
    | none => none
  | _, _ => none
/-- The rows that an operand holds, as a source. -/
def rowsK (t : Ty) (not : Nat) (st : Store) (v : V) (K : List t.den → Option R) : Option R :=
  match v with
  | .nils => K []
  | .lst t' l => match castL t' t l with
    | some l => K l
    | none => none
  | .own id => cond (Nat.beq id not) none (match look st id with
    | some (.rows t' l) => match castL t' t l with
      | some l => K l
      | none => none
    | _ => none)
  | .ownv id lo hi => cond (Nat.beq id not) none (match look st id with
    | some (.rows t' l) => match castL t' t l with
      | some l => K ((l.take hi).drop lo)
      | none => none
    | _ => none)
  | _ => none
def putRow (s : St) (id : Nat) (b : Blk) (K : V → St → Option R) : Option R :=
  cond (Nat.ble 100 id) (updK s.st id b fun st => let s' := St.scrub ⟨s.fr, st⟩ id; K (.own id) s') none
def appendK (T : Tab) (t : Nat) (dst : Nat) (x y : V) (s : St) (K : V → St → Option R) : Option R :=
  match T.get t with
  | some ⟨_, _, _, _, _, .sl τ, _⟩ =>
    match x with
    | .own id => match look s.st id with
      | some (.rows t' l) => match castL t' τ l with
        | some l => rowsK τ id s.st y fun m => capK (l.length + m.length) (putRow s id (.rows τ (l ++ m)) K)
        | none => none
      | _ => none
    | .nils => rowsK τ dst s.st y fun m => capK m.length (newK s.st dst (.rows τ m) fun st => K (.own dst) ⟨s.fr, st⟩)
    | _ => none
  | _ => none
def lenK (ti : TI) (st : Store) (v : V) (K : V → Option R) : Option R :=
  match ti.kind, v with
  | .arr n _ _, _ => K (i64 (n : Int))
  | .str, .str s => K (i64 s.length)
  | .sl _, .nils => K (i64 0)
  | .sl _, .lst _ l => K (i64 l.length)
  | .sl _, .own id => match look st id with
    | some (.rows _ l) => K (i64 l.length)
    | _ => none
  | .sl _, .ownv id lo hi => K (i64 ((hi - lo : Nat) : Int))
  | _, _ => none
def foldK (g : Int → Int → Int) : Int → List V → (V → Option R) → Option R
  | a, [], K => K (i64 a)
  | a, .int .i64 b :: vs, K => foldK g (g a b) vs K
  | _, _, _ => none
def intsK : List V → (List Int → Option R) → Option R
  | [], K => K []
  | .int .i64 n :: vs, K => intsK vs fun ns => K (n :: ns)
  | _, _ => none
def rowOf (t : Ty) : List V → (Option t.den)
  | cs => t.ofCells cs
/-- The rows of a literal of 'n' elements, the parts from number 'i' on. -/
def litK (τ : Ty) : Nat → Nat → List (Nat × V) → (List τ.den → Option R) → Option R
  | 0, _, [], K => K []
  | n + 1, i, (j, v) :: ps, K => cond (Nat.beq i j) (match τ.ofCells v.cs with
    | some d => litK τ n (i + 1) ps fun l => K (d :: l)
    | none => none) (litK τ n (i + 1) ((j, v) :: ps) fun l => K (τ.zero :: l))
  | n + 1, i, [], K => litK τ n (i + 1) [] fun l => K (τ.zero :: l)
  | 0, _, _ :: _, _ => none
def V.val : V → Bool
  | .undef => false | .tup _ => false | _ => true
def buildK (flds : List (Nat × Nat × Bool)) : List (Nat × V) → List V → (List V → Option R) → Option R
  | [], cs, K => K cs
  | (i, v) :: ps, cs, K => match flds[i]? with
    | some (off, size, _) => cond (Nat.beq size v.cs.length && v.val) (layK off v.cs cs fun cs => buildK flds ps cs K) none
    | none => none
def partsV (fr : List V) (ps : List (Nat × Operand)) : List (Nat × V) := ps.map fun p => (p.1, opd fr p.2)
/-- A load or a store through a pointer. -/
def loadP (ti : TI) (st : Store) (v : V) (K : V → Option R) : Option R :=
  match v with
  | .sptr cs => loadK ti cs K
  | .lptr id off => match look st id with
    | some (.box cs) => dropK off cs fun cs => loadK ti cs K
    | _ => none
  | .eptr id row col => match look st id with
    | some (.rows t l) => (l[row]?).bind fun d => dropK col (t.cells d) fun cs => loadK ti cs K
    | _ => none
  | _ => none
def V.solid : V → Bool
  | .undef => false | .agg _ => false | .tup _ => false | _ => true
def storeP (ti : TI) (st : Store) (v x : V) (K : Store → Option R) : Option R :=
  cond (Nat.beq ti.size x.cs.length && allB V.solid x.cs) (match v with
  | .lptr id off => match look st id with
    | some (.box cs) => layK off x.cs cs fun cs => updK st id (.box cs) K
    | _ => none
  | .eptr id row col => match look st id with
    | some (.rows t l) => (l[row]?).bind fun d => layK col x.cs (t.cells d) fun cs => match t.ofCells cs with
      | some d => updK st id (.rows t (l.set row d)) K
      | none => none
    | _ => none
  | _ => none) none
def winK (t : Ty) (l : List t.den) (lo hi : Option V) (K : Nat → Nat → List t.den → Option R) : Option R :=
  match lo, hi with
  | some (.int .i64 a), none => okIf (0 ≤ a ∧ a ≤ l.length) (K a.toNat l.length (l.drop a.toNat))
  | none, some (.int .i64 b) => okIf (0 ≤ b ∧ b ≤ l.length) (K 0 b.toNat (l.take b.toNat))
  | some (.int .i64 a), some (.int .i64 b) => okIf (0 ≤ a ∧ a ≤ b ∧ b ≤ l.length) (K a.toNat b.toNat ((l.take b.toNat).drop a.toNat))
  | _, _ => none
def sliceK (ti : TI) (ann : Nat → Bool) (dst : Nat) (s : St) (x : V) (lo hi : Option V) (K : V → St → Option R) : Option R :=
  match ti.kind, x with
  | .str, .str l => match lo, hi with
    | some (.int .i64 a), none => okIf (0 ≤ a ∧ a ≤ l.length) (K (.str (l.drop a.toNat)) s)
    | none, some (.int .i64 b) => okIf (0 ≤ b ∧ b ≤ l.length) (K (.str (l.take b.toNat)) s)
    | some (.int .i64 a), some (.int .i64 b) => okIf (0 ≤ a ∧ a ≤ b ∧ b ≤ l.length) (K (.str ((l.take b.toNat).drop a.toNat)) s)
    | _, _ => none
  | .sl τ, .lst t l => match castL t τ l with
    | some l => winK τ l lo hi fun _ _ m => K (.lst τ m) s
    | none => none
  | .sl τ, .own id => match look s.st id with
    | some (.rows t l) => match castL t τ l with
      | some l => winK τ l lo hi fun a b m => cond (ann dst) (putRow s id (.rows τ m) K) (K (.ownv id a b) s)
      | none => none
    | _ => none
  | _, _ => none
/-- One arm for each place of an array. -/
def brK (i : Int) : Nat → (Nat → Option R) → Option R
  | 0, _ => none
  | n + 1, K => cond (decide (i = (n : Int))) (K n) (brK i n K)
def idxAddrK (ti : TI) (st : Store) (x i : V) (K : V → Option R) : Option R :=
  match ti.kind, x, i with
  | .sl τ, .lst t l, .int .i64 i => match castL t τ l with
    | some l => rdL l i fun d => K (.sptr (τ.cells d))
    | none => none
  | .sl τ, .own id, .int .i64 i => match look st id with
    | some (.rows t l) => match castL t τ l with
      | some l => rdL l i fun _ => K (.eptr id i.toNat 0)
      | none => none
    | _ => none
  | .sl τ, .ownv id lo hi, .int .i64 i => match look st id with
    | some (.rows t l) => match castL t τ l with
      | some l => rdL ((l.take hi).drop lo) i fun _ => K (.eptr id (lo + i.toNat) 0)
      | none => none
    | _ => none
  | .arr n 1 false, .sptr cs, .int .i64 i => takeK n cs fun cs => intsK cs fun ns => rdL ns i fun n => K (.sptr [i64 n])
  | .arr n w _, .lptr id off, .int .i64 i => brK i n fun j => K (.lptr id (off + j * w))
  | .arr n w _, .eptr id row col, .int .i64 i => brK i n fun j => K (.eptr id row (col + j * w))
  | _, _, _ => none
def idxK (ti : TI) (x i : V) (K : V → Option R) : Option R :=
  match ti.kind, x, i with
  | .str, .str s, .int .i64 i => rdL s i fun b => K (.int .u8 (b.toNat : Int))
  | .arr n 1 false, .agg cs, .int .i64 i => takeK n cs fun cs => intsK cs fun ns => rdL ns i fun n => K (i64 n)
  | _, _, _ => none
def fieldP (off : Nat) (v : V) (K : V → Option R) : Option R :=
  match v with
  | .sptr cs => dropK off cs fun cs => K (.sptr cs)
  | .lptr id o => K (.lptr id (o + off))
  | .eptr id r c => K (.eptr id r (c + off))
  | _ => none
def convK (T : Tab) (st : Store) (src dst : Nat) (x : V) (K : V → Option R) : Option R :=
  match T.get src, T.get dst with
  | some si, some ti => match si.kind, ti.kind, x with
    | _, .int k, .int _ n => K (.int k (k.wrap n))
    | _, .str, .str s => K (.str s)
    | .sl .u8, .str, x => rowsK .u8 99999 st x fun l => K (.str (l.map fun n => UInt8.ofNat n.toNat))
    | _, _, _ => none
  | _, _ => none
def builtinK (T : Tab) (b : Builtin) (dst : Nat) (vs : List V) (ts : List Nat) (s : St) (K : V → St → Option R) : Option R :=
  match b, vs, ts with
  | .len, [v], [t] => match T.get t with
    | some ti => lenK ti s.st v fun v => K v s
    | none => none
  | .append, [x, y], [t, u] => match T.get u with
    | some ⟨_, _, _, _, _, .sl _, _⟩ => appendK T t dst x y s K
    | _ => none
  | .min, .int .i64 a :: vs, _ => foldK mn a vs fun v => K v s
  | .max, .int .i64 a :: vs, _ => foldK mx a vs fun v => K v s
  | _, _, _ => none
def sameO : Operand → Operand → Bool
  | .tmp a, .tmp b => Nat.beq a b
  | .const (.int _ a), .const (.int _ b) => decide (a = b)
  | _, _ => false
def evOp (E : Env) (T : Tab) (ann : Nat → Bool) (dst : Nat) (op : Op) (s : St) (K : V → St → Option R) : Option R :=
  match op with
  | .move x => K (opd s.fr x) s
  | .assign x => K (opd s.fr x) s
  | .pick c a b => match opd s.fr c with
    | .bool t => cond t (K (opd s.fr a) s) (K (opd s.fr b) s)
    | _ => none
  | .alloc t => match T.get t with
    | some ti => newK s.st dst (.box ti.zero) fun st => K (.lptr dst 0) ⟨s.fr, st⟩
    | none => none
  | .box _ x => match opd s.fr x with
    | .undef => none
    | .tup _ => none
    | v => newK s.st dst (.box v.cs) fun st => K (.lptr dst 0) ⟨s.fr, st⟩
  | .build t ps => match T.get t with
    | some ti => match ti.kind with
      | .struct => buildK ti.flds (partsV s.fr ps.toList) ti.zero fun cs => K (.agg cs) s
      | .arr _ _ _ => buildK ti.flds (partsV s.fr ps.toList) ti.zero fun cs => K (.agg cs) s
      | _ => none
    | none => none
  | .buildSlice t n ps => match T.get t with
    | some ⟨_, _, _, _, _, .sl τ, _⟩ => cond (Nat.ble (n * τ.width) 16777216)
        (litK τ n 0 (partsV s.fr ps.toList) fun l => newK s.st dst (.rows τ l) fun st => K (.own dst) ⟨s.fr, st⟩) none
    | _ => none
  | .makeSlice t l c => match T.get t, opd s.fr l with
    | some ⟨_, _, _, _, _, .sl τ, _⟩, .int .i64 n => cond (sameO l c) (okIf (0 ≤ n)
        (capK n.toNat (newK s.st dst (.rows τ (List.replicate n.toNat τ.zero)) fun st => K (.own dst) ⟨s.fr, st⟩))) none
    | _, _ => none
  | .load t x => match T.get t with
    | some ti => loadP ti s.st (opd s.fr x) fun v => K v s
    | none => none
  | .store t a x => match T.get t with
    | some ti => storeP ti s.st (opd s.fr a) (opd s.fr x) fun st => K (.tup []) ⟨s.fr, st⟩
    | none => none
  | .nilCheck x => match opd s.fr x with
    | .lptr id o => K (.lptr id o) s
    | .eptr id r c => K (.eptr id r c) s
    | .sptr cs => K (.sptr cs) s
    | _ => none
  | .binOp op t x y _ => binK T op t (opd s.fr x) (opd s.fr y) fun v => K v s
  | .unOp op _ x => match op, opd s.fr x with
    | .not, .bool b => K (.bool (!b)) s
    | .neg, .int k n => K (.int k (k.wrap (0 - n))) s
    | _, _ => none
  | .convert a b x => convK T s.st a b (opd s.fr x) fun v => K v s
  | .makeFunc (.func f) first cap => cond (Nat.beq first.size 0) (opds s.fr cap.toList fun vs => cond (allB V.base vs) (K (.fn f vs) s) none) none
  | .slice t x lo hi none => match T.get t with
    | some ti => sliceK ti ann dst s (opd s.fr x) (lo.map (opd s.fr)) (hi.map (opd s.fr)) K
    | none => none
  | .fieldAddr t x i => match T.get t with
    | some ti => match ti.flds[i]? with
      | some (off, size, _) => cond (Nat.beq size 0) none (match ti.kind with
        | .struct => fieldP off (opd s.fr x) fun v => K v s
        | _ => none)
      | none => none
    | none => none
  | .field t x i => match T.get t with
    | some ti => match ti.flds[i]?, opd s.fr x with
      | some (off, size, agg), .agg cs => match ti.kind with
        | .struct => dropK off cs fun cs => loadK ⟨size, agg, 0, [], [], .other, false⟩ cs fun v => K v s
        | _ => none
      | _, _ => none
    | none => none
  | .indexAddr t x i => match T.get t with
    | some ti => idxAddrK ti s.st (opd s.fr x) (opd s.fr i) fun v => K v s
    | none => none
  | .index t x i => match T.get t with
    | some ti => idxK ti (opd s.fr x) (opd s.fr i) fun v => K v s
    | none => none
  | .extract x i => match opd s.fr x with
    | .tup vs => match vs[i]? with
      | some v => K v s
      | none => none
    | _ => none
  | .call ⟨.builtin b, args, ts⟩ => opds s.fr args.toList fun vs => builtinK T b dst vs ts.toList s K
  | .call ⟨.value f, args, _⟩ => match opd s.fr f with
    | .fn g cap => opds s.fr args.toList fun vs => callK E g dst (vs ++ cap) s K
    | _ => none
  | _ => none

/-! ### Regions and code -/
def dstOf (ops : List Oper) (j : Nat) : Option Nat := match ops[j]? with
  | some o => o.dst
  | none => none
/-- The number under which an operation's block is kept: those below 100 are handed in. -/
def idOf (o : Oper) : Nat := o.dst.getD 9999 + 100
def putK (s : St) (dst : Option Nat) (v : V) (K : St → Option R) : Option R :=
  match dst with
  | some d => setK s.fr d v fun fr => K ⟨fr, s.st⟩
  | none => K s
def evOps (E : Env) (T : Tab) (ann : Nat → Bool) (ops : List Oper) : List Oper → St → (St → Option R) → Option R
  | [], s, K => K s
  | o :: os, s, K =>
    match o.guard with
    | none => evOp E T ann (idOf o) o.op s fun v s => putK s o.dst v fun s => evOps E T ann ops os s K
    | some (j, want) => match dstOf ops j with
      | none => none
      | some g => match get s.fr g with
        | .bool b => cond (cond want b (!b))
          (setK s.fr g (.bool want) fun fr => evOp E T ann (idOf o) o.op ⟨fr, s.st⟩ fun v s => putK s o.dst v fun s => evOps E T ann ops os s K)
          (setK s.fr g (.bool (!want)) fun fr => putK ⟨fr, s.st⟩ o.dst (.tup []) fun s => evOps E T ann ops os s K)
        | .tup [] => putK s o.dst (.tup []) fun s => evOps E T ann ops os s K
        | _ => none
/-! A comparison with nil: a slice without elements may be nil or not, so what follows is to come out alike. -/
def isNil (o : Oper) : Bool := match o.op with
  | .binOp _ _ _ (.const (.slice none 0 0)) _ => true
  | _ => false
open Classical in
noncomputable def both (a b : Option R) : Option R := if a = b then a else none
noncomputable def emptyK (l : Bool) (a b : Option R) : Option R := cond l (both a b) b
noncomputable def nilK (T : Tab) (o : Oper) (s : St) (K : St → Option R) : Option R :=
  match o.guard, o.dst, o.op with
  | none, some d, .binOp op t x _ _ => match T.get t, op with
    | some ⟨_, _, _, _, _, .sl _, _⟩, .eql => match opd s.fr x with
      | .nils => putK s (some d) (.bool true) K
      | .lst _ l => emptyK l.isEmpty (putK s (some d) (.bool true) K) (putK s (some d) (.bool false) K)
      | .own id => match look s.st id with
        | some (.rows _ l) => emptyK l.isEmpty (putK s (some d) (.bool true) K) (putK s (some d) (.bool false) K)
        | _ => none
      | _ => none
    | some ⟨_, _, _, _, _, .sl _, _⟩, .neq => match opd s.fr x with
      | .nils => putK s (some d) (.bool false) K
      | .lst _ l => emptyK l.isEmpty (putK s (some d) (.bool false) K) (putK s (some d) (.bool true) K)
      | .own id => match look s.st id with
        | some (.rows _ l) => emptyK l.isEmpty (putK s (some d) (.bool false) K) (putK s (some d) (.bool true) K)
        | _ => none
      | _ => none
    | _, _ => none
  | _, _, _ => none
noncomputable def evSeq (E : Env) (T : Tab) (ann : Nat → Bool) (ops : List Oper) : List Oper → St → (St → Option R) → Option R
  | [], s, K => K s
  | o :: os, s, K => cond (isNil o) (nilK T o s fun s => evSeq E T ann ops os s K) (evOps E T ann ops [o] s fun s => evSeq E T ann ops os s K)
/-- Whether an operation may write what was there before it. -/
def calm (E : Env) (ann : Nat → Bool) (o : Oper) : Bool :=
  match o.op with
  | .store .. => false
  | .call ⟨.builtin .append, _, _⟩ => false
  | .call ⟨.builtin _, _, _⟩ => true
  | .call ⟨.value (.func f), _, _⟩ => match E f with
    | some e => !(e.muts || e.shares)
    | none => false
  | .call _ => false
  | .slice .. => !ann (idOf o)
  | _ => true
def calms (E : Env) (ann : Nat → Bool) : List Oper → Bool
  | [] => true
  | o :: os => cond (calm E ann o) (calms E ann os) false
/-! Regions that draw their order: what is to hold of their edges. -/
def bnd (e : Edge) : Bool := match e.ground with
  | .textOnly _ => false
  | .gcOnly _ => false
  | _ => true
def predOf (o : Oper) (j : Nat) : Bool := o.after.toList.any fun e => cond (Nat.beq e.on j) (bnd e) false
def tmpsOf (o : Oper) : List Nat := o.op.operands.toList.filterMap fun
  | .tmp t => some t
  | _ => none
def dstIs (o : Oper) (t : Nat) : Bool := match o.dst with
  | some d => Nat.beq d t
  | none => false
/-- Operation 'i' against all: whoever writes what it reads is tied to it. -/
def tied (i : Nat) (o : Oper) (t : Nat) : Nat → List Oper → Bool
  | _, [] => true
  | j, x :: xs => cond (dstIs x t) (Nat.beq i j || cond (Nat.blt j i) (predOf o j) (predOf x i)) true && tied i o t (j + 1) xs
def opReg (ops : List Oper) (i : Nat) (o : Oper) : Bool :=
  (match o.dst with
    | some d => Nat.blt d 9000
    | none => false) &&
  (o.after.toList.all fun e => cond (bnd e) (Nat.blt e.on i) true) &&
  (match o.guard with
    | some (j, _) => predOf o j
    | none => true) &&
  (tmpsOf o).all (fun t => tied i o t 0 ops)
def regOK (ops : List Oper) : Nat → List Oper → Bool
  | _, [] => true
  | i, o :: os => opReg ops i o && (os.all fun x => match o.dst with
    | some d => !dstIs x d
    | none => false) && regOK ops (i + 1) os
/-- How many operations come first that may be done in any order; behind them each waits for all before it. -/
def preLen (E : Env) (ann : Nat → Bool) : List Oper → Nat
  | [] => 0
  | o :: os => cond (calm E ann o && o.dst.isSome) (preLen E ann os + 1) 0
def tset (done : List (List Nat)) (o : Oper) : List Nat := dedup (o.after.toList.flatMap fun e => cond (bnd e) (e.on :: done.getD e.on []) [])
/-- What each operation waits for, at once or by way of others. -/
def tsets : List (List Nat) → List Oper → List (List Nat)
  | done, [] => done
  | done, o :: os => tsets (done ++ [tset done o]) os
def allIn (l : List Nat) : Nat → Bool
  | 0 => true
  | n + 1 => memN n l && allIn l n
def chainB (sets : List (List Nat)) : Nat → List Oper → Bool
  | _, [] => true
  | n, o :: os => allIn (sets.getD n []) n && (o.after.toList.all fun e => cond (bnd e) (Nat.blt e.on n) true) && chainB sets (n + 1) os
def regAny (E : Env) (ann : Nat → Bool) (ops : List Oper) : Bool :=
  calms E ann (ops.take (preLen E ann ops)) && regOK (ops.take (preLen E ann ops)) 0 (ops.take (preLen E ann ops)) && chainB (tsets [] ops) (ops.take (preLen E ann ops)).length (ops.drop (preLen E ann ops))
/-! Small regions whose orders are not known to come to the same: each order is looked at. -/
def rdyB (ops : List Oper) (done : List Nat) (i : Nat) : Bool := cond (memN i done) false (match ops[i]? with
  | some o => o.after.toList.all fun e => cond (bnd e) (memN e.on done) true
  | none => false)
def rdyL (ops : List Oper) (done : List Nat) : List Nat := (List.range ops.length).filter (rdyB ops done)
noncomputable def allSame : List (Option R) → Option R
  | [] => none
  | [a] => a
  | a :: b :: l => both a (allSame (b :: l))
noncomputable def evTree (E : Env) (T : Tab) (ann : Nat → Bool) (ops : List Oper) (K : St → Option R) : Nat → List Nat → St → Option R
  | 0, _, _ => none
  | n + 1, done, s => match rdyL ops done with
    | [] => K s
    | i :: is => allSame ((i :: is).map fun i => match ops[i]? with
      | some o => evOps E T ann ops [o] s fun s => evTree E T ann ops K n (i :: done) s
      | none => none)
/-! Regions in which one writes what none of those reads that may come before it or after it. -/
def Lf.still : Lf → Bool
  | .c => true
  | .m _ => true
  | .p => true
  | .s => true
  | _ => false
def Sh.still : Sh → Bool
  | .one l => l.still
  | .agg ls => ls.all Lf.still
def still (E : Env) (o : Oper) : Bool := match o.op with
  | .store .. => true
  | .alloc _ => true
  | .call ⟨.value (.func f), _, _⟩ => match E f with
    | some e => !e.shares || e.pars.all Sh.still
    | none => false
  | _ => false
/-- How many of the operations do not wait for all before them. -/
def looseLen (sets : List (List Nat)) : Nat → List Oper → Nat
  | _, [] => 0
  | n, o :: os => cond (chainB sets n (o :: os)) 0 (looseLen sets (n + 1) os + 1)
/-- Each waits for those from 'n' on that come before it. -/
def inFrom (l : List Nat) (n : Nat) : Nat → Bool
  | 0 => true
  | k + 1 => memN (n + k) l && inFrom l n k
def writesAny (t : Nat) (os : List Oper) : Bool := os.any fun x => dstIs x t
/-- Whoever writes what 'l' reads is waited for by 'i'. -/
def readsOK (sets : List (List Nat)) (i : Nat) (o : Oper) : Nat → List Oper → Bool
  | _, [] => true
  | j, x :: xs => ((tmpsOf o).all fun t => cond (dstIs x t) (memN j (sets.getD i [])) true) && readsOK sets i o (j + 1) xs
def strictB (o : Oper) (i : Nat) : Nat → List Oper → Bool
  | _, [] => true
  | j, x :: xs => ((tmpsOf o).all fun t => cond (dstIs x t) (Nat.blt j i) true) && strictB o i (j + 1) xs
def strictL (full : List Oper) : Nat → List Oper → Bool
  | _, [] => true
  | i, o :: os => strictB o i 0 full && strictL full (i + 1) os
def loosesOK (sets : List (List Nat)) (n : Nat) (P R : List Oper) : Nat → List Oper → Bool
  | _, [] => true
  | k, o :: os => readsOK sets (n + k) o 0 P && ((tmpsOf o).all fun t => !(writesAny t (R.drop k))) && loosesOK sets n P R (k + 1) os
/-- None of 'R' writes what those of 'P' read or write. -/
def apartB (P R : List Oper) : Bool := P.all fun p => (match p.dst with
  | some d => !(writesAny d R)
  | none => true) && (tmpsOf p).all fun t => !(writesAny t R)
def okB (A : Store) (pids : List Nat) (st : Store) : Bool := st.all fun p => (match look A p.1 with
  | none => true
  | some _ => false) && pids.all fun d => !(Nat.beq (p.1 % 10000) d)
def okA (A : Store) (d : Nat) : Bool := A.all fun p => !(Nat.beq (p.1 % 10000) d)
def hasB (A : Store) (id : Nat) : Bool := match look A id with
  | some _ => true
  | none => false
def refOK (A : Store) : V → Bool
  | .own i => hasB A i
  | .ownv i _ _ => hasB A i
  | .lptr i _ => hasB A i
  | .eptr i _ _ => hasB A i
  | .fn _ cap => allB V.idfree cap
  | _ => true
def okF (A : Store) : Bool := A.all fun p => match p.2 with
  | .box cs => allB (refOK A) cs
  | .rows _ _ => true
def preLen2 (E : Env) (ann : Nat → Bool) : List Oper → Nat
  | [] => 0
  | o :: os => cond (calm E ann o && (o.dst.isSome && !(ann (900000 + o.dst.getD 0)))) (preLen2 E ann os + 1) 0
/-- Where the operations of a region that is looked at so are parted. -/
def parts (E : Env) (ann : Nat → Bool) (ops : List Oper) : List Oper × List Oper × List Oper :=
  (ops.take (preLen2 E ann ops), (ops.drop (preLen2 E ann ops)).take (looseLen (tsets [] ops) (preLen2 E ann ops) (ops.drop (preLen2 E ann ops))), (ops.drop (preLen2 E ann ops)).drop (looseLen (tsets [] ops) (preLen2 E ann ops) (ops.drop (preLen2 E ann ops))))
/-! Regions whose operations are looked at in another order: first those that wait for no writer. -/
def posFrom (i : Nat) : Nat → List Nat → Nat
  | n, [] => n
  | n, j :: js => cond (Nat.beq i j) n (posFrom i (n + 1) js)
def renE (ix : List Nat) (e : Edge) : Edge := { e with on := posFrom e.on 0 ix }
def renO (ix : List Nat) (o : Oper) : Oper := { o with after := (o.after.toList.map (renE ix)).toArray }
def permAt (ops : List Oper) (ix : List Nat) (i : Nat) : Option Oper := match ops[i]? with
  | some o => some (renO ix o)
  | none => none
def permOps (ops : List Oper) (ix : List Nat) : List Oper := ix.filterMap (permAt ops ix)
def headIx (E : Env) (ann : Nat → Bool) : Nat → List Nat → List Oper → List Nat
  | _, acc, [] => acc
  | i, acc, o :: os => headIx E ann (i + 1) (cond (calm E ann o && (o.dst.isSome && (!(ann (900000 + o.dst.getD 0)) && o.after.toList.all fun e => cond (bnd e) (memN e.on acc) true))) (acc ++ [i]) acc) os
def permIx (E : Env) (ann : Nat → Bool) (ops : List Oper) : List Nat :=
  headIx E ann 0 [] ops ++ (List.range ops.length).filter fun i => !(memN i (headIx E ann 0 [] ops))
def permOK (ops : List Oper) (ix : List Nat) : Bool :=
  Nat.beq ix.length ops.length && (ops.all fun o => o.guard.isNone && o.after.toList.all fun e => Nat.blt e.on ops.length) && (List.range ops.length).all fun p =>
    Nat.blt (ix.getD p ops.length) ops.length && (Nat.beq (posFrom (ix.getD p 0) 0 ix) p && (Nat.beq (ix.getD (posFrom p 0 ix) 0) p && Nat.blt (posFrom p 0 ix) ops.length))
def backB (n : Nat) : Nat → List Oper → Bool
  | _, [] => true
  | k, o :: os => o.guard.isNone && ((o.after.toList.all fun e => cond (bnd e) (Nat.blt e.on (n + k)) true) && backB n (k + 1) os)
def midOK2 (E : Env) (ann : Nat → Bool) (P R1 R2 : List Oper) (sets : List (List Nat)) : Bool :=
  calms E ann P && (regOK P 0 P && (strictL P 0 P && (backB P.length 0 R1 && (loosesOK sets P.length P [] 0 R1 && (apartB P R1 && chainB sets (P.length + R1.length) R2)))))
def rdyR (sets : List (List Nat)) (n m : Nat) (done : List Nat) : List Nat :=
  (List.range m).filter fun i => cond (memN i done) false ((sets.getD (n + i) []).all fun j => cond (Nat.blt j n) true (memN (j - n) done))
def stillS (E : Env) (ann : Nat → Bool) (o : Oper) : Bool := still E o || calm E ann o
def quietC : Lf → V → Bool
  | .r _, .lst _ _ => true
  | .r _, .nils => true
  | .r _, .undef => true
  | l, _ => l.still
def quietCs : List Lf → List V → Bool
  | l :: ls, v :: vs => quietC l v && quietCs ls vs
  | _, _ => true
def quietA : Sh → V → Bool
  | .one l, v => quietC l v
  | .agg ls, .agg cs => quietCs ls cs
  | _, _ => true
def quietAs : List Sh → List V → Bool
  | s :: ss, v :: vs => quietA s v && quietAs ss vs
  | _, _ => true
def keptC (id : Nat) : V → Bool
  | .own i => !(Nat.beq i id)
  | .ownv i _ _ => !(Nat.beq i id)
  | .lptr i _ => !(Nat.beq i id)
  | .eptr i _ _ => !(Nat.beq i id)
  | .fn _ _ => false
  | .agg _ => false
  | .tup _ => false
  | _ => true
def keptT (id : Nat) : V → Bool
  | .agg cs => allB (keptC id) cs
  | v => keptC id v
/-- Whether what an operation does to the frame does not touch 'tch'. -/
def stillD (E : Env) (ann : Nat → Bool) (tch : List Nat) (o : Oper) (fr : List V) : Bool := stillS E ann o || match o.op with
  | .call ⟨.value (.func f), args, _⟩ => (match E f with
    | some e => quietAs e.pars (args.toList.map (opd fr))
    | none => false)
  | .call ⟨.builtin .append, args, _⟩ => (match args.toList.map (opd fr) with
    | [.own id, _] => tch.all fun t => keptT id (get fr t)
    | _ => false)
  | _ => false
noncomputable def evR1T (E : Env) (T : Tab) (ann : Nat → Bool) (ops : List Oper) (A : Store) (pids : List Nat) (sets : List (List Nat)) (n : Nat) (tch : List Nat) (R1 : List Oper) (K : St → Option R) : Nat → List Nat → St → Option R
  | 0, _, _ => none
  | f + 1, done, s => cond (okB A pids s.st) (match rdyR sets n R1.length done with
    | [] => cond ((List.range R1.length).all fun i => memN i done) (K s) none
    | i :: is => allSame ((i :: is).map fun i => match R1[i]? with
      | some o => cond (okA A (idOf o % 10000) && stillD E ann tch o s.fr) (evOps E T ann ops [o] s fun s => evR1T E T ann ops A pids sets n tch R1 K f (i :: done) s) none
      | none => none)) none
def touched (P : List Oper) : List Nat := P.flatMap fun o => o.dst.toList ++ tmpsOf o
noncomputable def evMidT (E : Env) (T : Tab) (ann : Nat → Bool) (rid : Nat) (ops P R1 R2 : List Oper) (s : St) (K : St → Option R) : Option R :=
  evOps E T ann ops P ⟨s.fr, s.st.filter fun p => !(ann (1000000 + rid * 100000 + p.1))⟩ fun s1 =>
    cond (okF s1.st) (evR1T E T ann ops s1.st (P.map fun o => idOf o % 10000) (tsets [] ops) P.length (touched P) R1 (fun s2 =>
      evOps E T ann ops R2 ⟨s2.fr, s2.st ++ s1.st⟩ K) (R1.length + 1) [] ⟨s1.fr, s.st.filter fun p => ann (1000000 + rid * 100000 + p.1)⟩) none
def parts2 (n : Nat) (ops : List Oper) : List Oper × List Oper × List Oper :=
  (ops.take n, (ops.drop n).take (looseLen (tsets [] ops) n (ops.drop n)), (ops.drop n).drop (looseLen (tsets [] ops) n (ops.drop n)))
noncomputable def evPerm2 (E : Env) (T : Tab) (ann : Nat → Bool) (rid : Nat) (ops : List Oper) (p : List Oper × List Oper × List Oper) (s : St) (K : St → Option R) : Option R :=
  cond (midOK2 E ann p.1 p.2.1 p.2.2 (tsets [] ops)) (evMidT E T ann rid ops p.1 p.2.1 p.2.2 s K) none
noncomputable def evPerm (E : Env) (T : Tab) (ann : Nat → Bool) (rid : Nat) (ops : List Oper) (s : St) (K : St → Option R) : Option R :=
  cond (permOK ops (permIx E ann ops)) (evPerm2 E T ann rid (permOps ops (permIx E ann ops)) (parts2 (headIx E ann 0 [] ops).length (permOps ops (permIx E ann ops))) s K) none
abbrev LEnv (R : Type) := Nat → Option (St → (St → Option R) → Option R)
noncomputable def ev (E : Env) (T : Tab) (ann : Nat → Bool) (L : LEnv R) (kr : St → Option R) : Code → (Nat → St → Option R) → (St → Option R) → St → Option R
  | .skip, _, K, s => K s
  | .region id ops true, _, K, s => cond (regAny E ann ops.toList) (evOps E T ann ops.toList ops.toList s K)
      (cond (ann (1000000 + id * 100000 + 99999)) (evPerm2 E T ann id ops.toList (parts E ann ops.toList) s K)
        (cond (ann (1000000 + id * 100000 + 99998)) (evPerm E T ann id ops.toList s K) (cond (Nat.ble ops.size 9) (evTree E T ann ops.toList K (ops.size + 1) [] s) none)))
  | .region _ ops false, _, K, s => evSeq E T ann ops.toList ops.toList s K
  | .seq a b, X, K, s => ev E T ann L kr a X (fun s => ev E T ann L kr b X K s) s
  | .cond c a b, X, K, s => match opd s.fr c with
    | .bool t => cond t (ev E T ann L kr a X K s) (ev E T ann L kr b X K s)
    | _ => none
  | .block id (.loop _), X, K, s => match L id with
    | some l => l s K
    | none => none
  | .block id c, X, K, s => ev E T ann L kr c (fun i s => cond (Nat.beq i id) (K s) (X i s)) K s
  | .exit id, X, _, s => X id s
  | .ret, _, _, s => kr s
  | _, _, _, _ => none

/-! ### The end of a call -/
def expC (st : Store) (n : Nat) : Lf → V → (V → Store → List Blk → Nat → Option R) → Option R
  | .c, v, K => cond v.plain (K v st [] n) none
  | .r t, v, K => match v with
    | .lst t' l => match castL t' t l with
      | some l => K (.lst t l) st [] n
      | none => none
    | .nils => K (.lst t []) st [] n
    | .own id => match look st id with
      | some (.rows t' l) => match castL t' t l with
        | some l => delK st id fun st => K (.lst t l) st [] n
        | none => none
      | _ => none
    | _ => none
  | .m t, v, K => match v with
    | .own id => match look st id with
      | some (.rows t' l) => match castL t' t l with
        | some l => delK st id fun st => K (.own n) st [.rows t l] (n + 1)
        | none => none
      | _ => none
    | .ownv id lo hi => match look st id with
      | some (.rows t' l) => match castL t' t l with
        | some l => delK st id fun st => K (.own n) st [.rows t ((l.take hi).drop lo)] (n + 1)
        | none => none
      | _ => none
    | .nils => K (.own n) st [.rows t []] (n + 1)
    | _ => none
  | .p, v, K => match v with
    | .lptr id 0 => match look st id with
      | some (.box cs) => cond (allB V.idfree cs) (delK st id fun st => K (.lptr n 0) st [.box cs] (n + 1)) none
      | _ => none
    | _ => none
  | .f, _, _ => none
  | .s, _, _ => none
def expCs : List Lf → List V → Store → Nat → (List V → Store → List Blk → Nat → Option R) → Option R
  | [], [], st, n, K => K [] st [] n
  | l :: ls, v :: vs, st, n, K => expC st n l v fun v st bs n => expCs ls vs st n fun vs st bs' n => K (v :: vs) st (bs ++ bs') n
  | _, _, _, _, _ => none
def expA : Sh → V → Store → Nat → (V → Store → List Blk → Nat → Option R) → Option R
  | .one l, v, st, n, K => expC st n l v K
  | .agg ls, .agg cs, st, n, K => expCs ls cs st n fun cs st bs n => K (.agg cs) st bs n
  | _, _, _, _, _ => none
def expAs : List Sh → List V → Store → Nat → (List V → Store → List Blk → Nat → Option R) → Option R
  | [], [], st, n, K => K [] st [] n
  | s :: ss, v :: vs, st, n, K => expA s v st n fun v st bs n => expAs ss vs st n fun vs st bs' n => K (v :: vs) st (bs ++ bs') n
  | _, _, _, _, _ => none
def mutsK : Nat → Nat → Store → (List Blk → Option R) → Option R
  | 0, _, _, K => K []
  | m + 1, j, st, K => match look st j with
    | some b => mutsK m (j + 1) st fun bs => K (b :: bs)
    | none => none
def pack : List V → V
  | [v] => v
  | vs => .tup vs
def resVs (T : Tab) (s : St) : List ResultVar → (List V → Option R) → Option R
  | [], K => K []
  | .tmp t :: rs, K => resVs T s rs fun vs => K (get s.fr t :: vs)
  | .cell a t :: rs, K => match T.get t with
    | some ti => loadP ti s.st (get s.fr a) fun v => resVs T s rs fun vs => K (v :: vs)
    | none => none
def enterSt : Nat → List Blk → Store
  | _, [] => []
  | n, b :: bs => (n, b) :: enterSt (n + 1) bs
end
end Ev
end
section
set_option linter.unusedVariables false
set_option linter.unusedSimpArgs false
namespace Ev
open Go

def sv : V → Value
  | .int k n => .int k n
  | .bool b => .bool b
  | .str s => .string ⟨⟨s⟩⟩
  | .nils => .slice none 0 0
  | _ => undef
def flat (t : Ty) (l : List t.den) : List Value := l.flatMap fun d => (t.cells d).map sv

inductive Loc | box (b n : Nat) | row (t : Ty) (a : Option Addr) (len cap : Nat)
def Loc.block : Loc → Option Nat
  | .box b _ => some b
  | .row _ (some a) _ cap => if cap = 0 then none else some a.block
  | .row _ none _ _ => none
abbrev Rho := Nat → Option Loc
def Rho.M (ρ : Rho) (b : Nat) : Prop := ∃ id loc, ρ id = some loc ∧ loc.block = some b
/-- The cells of 'vs' lie in block 'b' from 's' on. -/
def At (w : World) (b s : Nat) (vs : List Value) : Prop := ∀ i v, vs[i]? = some v → w.cell? ⟨b, s + i, none⟩ = some v

/-- A value without parts. -/
def RelB (ρ : Rho) (F : Nat → Prop) (w : World) : V → Value → Prop
  | .undef, _ => True
  | .int k n, c => c = .int k n
  | .bool b, c => c = .bool b
  | .str s, c => c = .string ⟨⟨s⟩⟩
  | .nils, c => c = .slice none 0 0
  | .lst t l, c => ∃ a cap, c = .slice a l.length cap ∧ l.length ≤ cap ∧ (l = [] ∨ ∃ b s, a = some ⟨b, s, none⟩ ∧ F b ∧ At w b s (flat t l))
  | .own id, c => ∃ t a len cap, ρ id = some (.row t a len cap) ∧ c = .slice a len cap
  | .ownv id lo hi, c => ∃ t a len cap, ρ id = some (.row t a len cap) ∧ lo ≤ hi ∧ hi ≤ len ∧ len ≤ cap ∧ c = .slice (if cap - lo = 0 then a else a.map (·.add (lo * t.width))) (hi - lo) (cap - lo)
  | .sptr cs, c => ∃ b s, c = .pointer (some ⟨b, s, none⟩) ∧ F b ∧ allB V.plain cs = true ∧ At w b s (cs.map sv)
  | .lptr id off, c => ∃ b n, ρ id = some (.box b n) ∧ c = .pointer (some ⟨b, off, none⟩)
  | .eptr id row col, c => ∃ t b s len cap, ρ id = some (.row t (some ⟨b, s, none⟩) len cap) ∧ row < len ∧ c = .pointer (some ⟨b, s + (row * t.width + col), none⟩)
  | _, _ => False
def RelC (ρ : Rho) (F : Nat → Prop) (w : World) : V → Value → Prop
  | .fn f cap, c => ∃ ca : Array Value, c = .func (.func f) #[] ca ∧ ca.size = cap.length ∧ ∀ (i : Nat) (v : V), cap[i]? = some v → ∃ c, ca[i]? = some c ∧ RelB ρ F w v c
  | v, c => RelB ρ F w v c
def RelA (ρ : Rho) (F : Nat → Prop) (w : World) : V → Value → Prop
  | .agg cs, c => ∃ ca : Array Value, c = .agg ca ∧ ca.size = cs.length ∧ ∀ (i : Nat) (v : V), cs[i]? = some v → ∃ c, ca[i]? = some c ∧ RelC ρ F w v c
  | v, c => RelC ρ F w v c
def RelT (ρ : Rho) (F : Nat → Prop) (w : World) : V → Value → Prop
  | .tup vs, c => ∃ ca : Array Value, c = .tuple ca ∧ ca.size = vs.length ∧ ∀ (i : Nat) (v : V), vs[i]? = some v → ∃ c, ca[i]? = some c ∧ RelA ρ F w v c
  | v, c => RelA ρ F w v c

/-- Block 'b' is a row of cells that may be written. -/
def RowB (w : World) (b : Nat) (arr : Array Value) : Prop := ∃ e lo hi, w.heap[b]? = some (.cells arr e (lo, hi)) ∧ ∀ i, i < arr.size → ¬ (lo ≤ i ∧ i < hi)
def HeapAt (ρ : Rho) (F : Nat → Prop) (w : World) : Loc → Blk → Prop
  | .box b n, .box cs => cs.length = n ∧ ∃ arr, RowB w b arr ∧ arr.size = n ∧ ∀ (i : Nat) (v : V), cs[i]? = some v → ∃ c, arr[i]? = some c ∧ RelC ρ F w v c
  | .row t a len cap, .rows t' l => ∃ h : t' = t, l.length = len ∧ len ≤ cap ∧ (cap = 0 ∨ ∃ b s arr, a = some ⟨b, s, none⟩ ∧ RowB w b arr ∧ s + cap * t.width ≤ arr.size ∧ At w b s (flat t' l))
  | _, _ => False
/-- What is known of variables of packages: their blocks, and what their cells are. -/
def GP : List (Nat × (Array Value → Prop)) := []
def Glob (F : Nat → Prop) (w : World) : Prop := ∀ x ∈ GP, F x.1 ∧ ∃ cs e r, w.heap[x.1]? = some (.cells cs e r) ∧ x.2 cs
theorem Glob.keep {F F' : Nat → Prop} {w w' : World} (h : Glob F w) (hF : ∀ b, F b → F' b) (hm : ∀ b, F b → w'.heap[b]? = w.heap[b]?) : Glob F' w' := fun x hx =>
  let ⟨h1, cs, e, r, h2, h3⟩ := h x hx
  ⟨hF x.1 h1, cs, e, r, (hm x.1 h1).trans h2, h3⟩
structure Core (ρ : Rho) (F : Nat → Prop) (σ : Store) (w : World) : Prop where
  heap : ∀ id loc blk, ρ id = some loc → look σ id = some blk → HeapAt ρ F w loc blk
  inj : ∀ i j li lj b, ρ i = some li → ρ j = some lj → li.block = some b → lj.block = some b → i = j
  stable : ∀ b, F b → b < w.heap.size ∧ ¬ ρ.M b
  glob : Glob F w

/-! ### Small facts -/
theorem addr_add (b s n : Nat) : (⟨b, s, none⟩ : Addr).add n = ⟨b, s + n, none⟩ := by
  unfold Addr.add; split
  · subst_vars; rfl
  · rfl
theorem cell_row {w : World} {b : Nat} {arr : Array Value} (h : RowB w b arr) (i : Nat) : w.cell? ⟨b, i, none⟩ = arr[i]? := by
  obtain ⟨e, lo, hi, h, _⟩ := h
  simp [World.cell?, h]
theorem RowB.lt {w : World} {b : Nat} {arr : Array Value} (h : RowB w b arr) : b < w.heap.size := by
  obtain ⟨e, lo, hi, h, _⟩ := h
  exact (Array.getElem?_eq_some_iff.mp h).1
theorem RowB.of_block {w w' : World} {b : Nat} {arr : Array Value} (h : RowB w b arr) (e : w'.heap[b]? = w.heap[b]?) : RowB w' b arr := by
  obtain ⟨t, lo, hi, h, k⟩ := h
  exact ⟨t, lo, hi, e.trans h, k⟩
theorem At.of_block {w w' : World} {b s : Nat} {vs : List Value} (h : At w b s vs) (e : w'.heap[b]? = w.heap[b]?) : At w' b s vs := by
  intro i v hv
  rw [← h i v hv]
  simp [World.cell?, e]
theorem plain_not {v : V} (h : v.plain = true) : (∃ k n, v = .int k n) ∨ (∃ b, v = .bool b) ∨ (∃ s, v = .str s) := by
  cases v <;> simp [V.plain] at h ⊢
theorem RelB.plain {ρ : Rho} {F : Nat → Prop} {w : World} {v : V} {c : Value} (hp : v.plain = true) : RelB ρ F w v c ↔ c = sv v := by
  rcases plain_not hp with ⟨k, n, rfl⟩ | ⟨b, rfl⟩ | ⟨s, rfl⟩ <;> simp [RelB, sv]
theorem allB_get {p : V → Bool} {l : List V} (h : allB p l = true) : ∀ v ∈ l, p v = true := by
  induction l with
  | nil => simp
  | cons a r ih =>
    simp only [allB] at h
    cases hp : p a <;> simp [hp] at h
    intro v hv
    rcases List.mem_cons.mp hv with rfl | hv
    · exact hp
    · exact ih h v hv
theorem allB_of {p : V → Bool} {l : List V} (h : ∀ v ∈ l, p v = true) : allB p l = true := by
  induction l with
  | nil => rfl
  | cons a r ih =>
    simp only [allB, h a (by simp)]
    exact ih fun v hv => h v (by simp [hv])
/-! ### What keeps the relation: a change of the ids, of what is stable, of the world -/
/-- Values that stand for something go on to stand for it, those aside that name an id of 'X'. -/
structure Ext (X : Nat → Prop) (ρ : Rho) (F : Nat → Prop) (w : World) (ρ' : Rho) (F' : Nat → Prop) (w' : World) : Prop where
  ids : ∀ id l, ¬ X id → ρ id = some l → ρ' id = some l
  stab : ∀ b, F b → F' b
  mem : ∀ b, F b → w'.heap[b]? = w.heap[b]?
theorem Ext.refl {X : Nat → Prop} {ρ : Rho} {F : Nat → Prop} {w : World} : Ext X ρ F w ρ F w := ⟨fun _ _ _ h => h, fun _ h => h, fun _ _ => rfl⟩
theorem Ext.trans {X : Nat → Prop} {ρ ρ' ρ'' : Rho} {F F' F'' : Nat → Prop} {w w' w'' : World} (h : Ext X ρ F w ρ' F' w') (k : Ext X ρ' F' w' ρ'' F'' w'') : Ext X ρ F w ρ'' F'' w'' :=
  ⟨fun id l hx hl => k.ids id l hx (h.ids id l hx hl), fun b hb => k.stab b (h.stab b hb), fun b hb => (k.mem b (h.stab b hb)).trans (h.mem b hb)⟩
/-- Names none of the ids of 'X'. -/
def AvC (X : Nat → Prop) : V → Prop
  | .own i => ¬ X i | .ownv i _ _ => ¬ X i | .lptr i _ => ¬ X i | .eptr i _ _ => ¬ X i
  | .fn _ cap => ∀ v ∈ cap, match v with | .own i => ¬ X i | .ownv i _ _ => ¬ X i | .lptr i _ => ¬ X i | .eptr i _ _ => ¬ X i | _ => True
  | _ => True
theorem RelB.ext {X : Nat → Prop} {ρ ρ' : Rho} {F F' : Nat → Prop} {w w' : World} (E : Ext X ρ F w ρ' F' w') {v : V} {c : Value}
    (ha : match v with | .own i => ¬ X i | .ownv i _ _ => ¬ X i | .lptr i _ => ¬ X i | .eptr i _ _ => ¬ X i | _ => True) (h : RelB ρ F w v c) : RelB ρ' F' w' v c := by
  cases v <;> simp only [RelB] at h ⊢ <;> try exact h
  case lst t l =>
    obtain ⟨a, cap, e, hl, h⟩ := h
    refine ⟨a, cap, e, hl, h.imp id ?_⟩
    rintro ⟨b, s, ha, hf, hat⟩
    exact ⟨b, s, ha, E.stab b hf, hat.of_block (E.mem b hf)⟩
  case own id =>
    obtain ⟨t, a, len, cap, h, e⟩ := h
    exact ⟨t, a, len, cap, E.ids _ _ ha h, e⟩
  case ownv id lo hi =>
    obtain ⟨t, a, len, cap, h, e⟩ := h
    exact ⟨t, a, len, cap, E.ids _ _ ha h, e⟩
  case sptr cs =>
    obtain ⟨b, s, e, hf, hp, hat⟩ := h
    exact ⟨b, s, e, E.stab b hf, hp, hat.of_block (E.mem b hf)⟩
  case lptr id off =>
    obtain ⟨b, n, h, e⟩ := h
    exact ⟨b, n, E.ids _ _ ha h, e⟩
  case eptr id row col =>
    obtain ⟨t, b, s, len, cap, h, e⟩ := h
    exact ⟨t, b, s, len, cap, E.ids _ _ ha h, e⟩
theorem RelC.ext {X : Nat → Prop} {ρ ρ' : Rho} {F F' : Nat → Prop} {w w' : World} (E : Ext X ρ F w ρ' F' w') {v : V} {c : Value}
    (ha : AvC X v) (h : RelC ρ F w v c) : RelC ρ' F' w' v c := by
  cases v <;> simp only [RelC] at h ⊢ <;> try exact RelB.ext E ha h
  case fn f cap =>
    obtain ⟨ca, e, hs, h⟩ := h
    refine ⟨ca, e, hs, fun i v hv => ?_⟩
    obtain ⟨c, hc, r⟩ := h i v hv
    exact ⟨c, hc, RelB.ext E (ha v (List.mem_of_getElem? hv)) r⟩
theorem avC_none (v : V) : AvC (fun _ => False) v := by
  cases v <;> simp [AvC]
  intro v _; cases v <;> simp
theorem RelC.ext0 {ρ ρ' : Rho} {F F' : Nat → Prop} {w w' : World} (E : Ext (fun _ => False) ρ F w ρ' F' w') {v : V} {c : Value} (h : RelC ρ F w v c) : RelC ρ' F' w' v c :=
  RelC.ext E (avC_none v) h
theorem RelA.ext0 {ρ ρ' : Rho} {F F' : Nat → Prop} {w w' : World} (E : Ext (fun _ => False) ρ F w ρ' F' w') {v : V} {c : Value} (h : RelA ρ F w v c) : RelA ρ' F' w' v c := by
  cases v <;> simp only [RelA] at h ⊢ <;> try exact RelC.ext0 E h
  case agg cs =>
    obtain ⟨ca, e, hs, h⟩ := h
    exact ⟨ca, e, hs, fun i v hv => let ⟨c, hc, r⟩ := h i v hv; ⟨c, hc, RelC.ext0 E r⟩⟩
theorem RelT.ext0 {ρ ρ' : Rho} {F F' : Nat → Prop} {w w' : World} (E : Ext (fun _ => False) ρ F w ρ' F' w') {v : V} {c : Value} (h : RelT ρ F w v c) : RelT ρ' F' w' v c := by
  cases v <;> simp only [RelT] at h ⊢ <;> try exact RelA.ext0 E h
  case tup vs =>
    obtain ⟨ca, e, hs, h⟩ := h
    exact ⟨ca, e, hs, fun i v hv => let ⟨c, hc, r⟩ := h i v hv; ⟨c, hc, RelA.ext0 E r⟩⟩
theorem RelC.undef {ρ : Rho} {F : Nat → Prop} {w : World} (c : Value) : RelC ρ F w .undef c := trivial
theorem RelT.undef {ρ : Rho} {F : Nat → Prop} {w : World} (c : Value) : RelT ρ F w .undef c := trivial
/-- A value becomes a weaker one. -/
def WkC (ρ : Rho) (F : Nat → Prop) (w : World) (ρ' : Rho) (F' : Nat → Prop) (w' : World) (g : V → V) : Prop := ∀ v c, RelC ρ F w v c → RelC ρ' F' w' (g v) c
theorem WkC.toA {ρ ρ' : Rho} {F F' : Nat → Prop} {w w' : World} {g gA : V → V} (hA : ∀ cs, gA (.agg cs) = .agg (cs.map g)) (hA' : ∀ v, (∀ cs, v ≠ .agg cs) → gA v = g v)
    (hg : ∀ v cs, g v = .agg cs → False)
    (h : WkC ρ F w ρ' F' w' g) {v : V} {c : Value} (r : RelA ρ F w v c) : RelA ρ' F' w' (gA v) c := by
  by_cases hv : ∃ cs, v = .agg cs
  · obtain ⟨cs, rfl⟩ := hv
    rw [hA]
    obtain ⟨ca, e, hs, r⟩ := r
    refine ⟨ca, e, by simpa using hs, fun i u hu => ?_⟩
    rw [List.getElem?_map] at hu
    cases hc : cs[i]? with
    | none => simp [hc] at hu
    | some x =>
      simp [hc] at hu
      obtain ⟨c, hc', r⟩ := r i x hc
      exact ⟨c, hc', hu ▸ h x c r⟩
  · have hv' : ∀ cs, v ≠ .agg cs := fun cs e => hv ⟨cs, e⟩
    rw [hA' v hv']
    have r' : RelC ρ F w v c := by cases v <;> first | exact r | exact absurd rfl (hv' _)
    have := h v c r'
    generalize hz : g v = z at this
    cases z <;> first | exact this | exact (hg v _ hz).elim
theorem WkC.toT {ρ ρ' : Rho} {F F' : Nat → Prop} {w w' : World} {g gA gT : V → V} (hA : ∀ cs, gA (.agg cs) = .agg (cs.map g)) (hA' : ∀ v, (∀ cs, v ≠ .agg cs) → gA v = g v)
    (hT : ∀ cs, gT (.tup cs) = .tup (cs.map gA)) (hT' : ∀ v, (∀ cs, v ≠ .tup cs) → gT v = gA v)
    (hg : ∀ v cs, g v = .agg cs → False) (hg' : ∀ v cs, g v = .tup cs → False)
    (h : WkC ρ F w ρ' F' w' g) {v : V} {c : Value} (r : RelT ρ F w v c) : RelT ρ' F' w' (gT v) c := by
  by_cases hv : ∃ cs, v = .tup cs
  · obtain ⟨cs, rfl⟩ := hv
    rw [hT]
    obtain ⟨ca, e, hs, r⟩ := r
    refine ⟨ca, e, by simpa using hs, fun i u hu => ?_⟩
    rw [List.getElem?_map] at hu
    cases hc : cs[i]? with
    | none => simp [hc] at hu
    | some x =>
      simp [hc] at hu
      obtain ⟨c, hc', r⟩ := r i x hc
      exact ⟨c, hc', hu ▸ h.toA hA hA' hg r⟩
  · have hv' : ∀ cs, v ≠ .tup cs := fun cs e => hv ⟨cs, e⟩
    rw [hT' v hv']
    have r' : RelA ρ F w v c := by cases v <;> first | exact r | exact absurd rfl (hv' _)
    have := h.toA hA hA' hg r'
    generalize hz : gA v = z at this
    cases z <;> try exact this
    exfalso
    by_cases ha : ∃ cs, v = .agg cs
    · obtain ⟨cs, rfl⟩ := ha; rw [hA] at hz; cases hz
    · rw [hA' v fun cs e => ha ⟨cs, e⟩] at hz; exact hg' v _ hz
theorem scrub_wk {ρ ρ' : Rho} {F F' : Nat → Prop} {w w' : World} {id : Nat} (E : Ext (fun i => i = id) ρ F w ρ' F' w') : WkC ρ F w ρ' F' w' (scrubC id) := by
  intro v c r
  cases v <;> try exact RelC.undef c
  case own i | ownv i _ _ | lptr i _ | eptr i _ _ =>
    simp only [scrubC]
    cases h : Nat.beq i id
    · exact RelC.ext E (show ¬ i = id from fun e => by subst e; simp at h) r
    · exact RelC.undef c
  all_goals exact RelC.ext E (X := fun i => i = id) trivial r
theorem scrubC_agg {id : Nat} {v : V} {cs : List V} (h : scrubC id v = .agg cs) : False := by
  cases v <;> simp only [scrubC] at h <;> try cases h
  all_goals (revert h; cases Nat.beq _ id <;> exact fun h => nomatch h)
theorem scrubC_tup {id : Nat} {v : V} {cs : List V} (h : scrubC id v = .tup cs) : False := by
  cases v <;> simp only [scrubC] at h <;> try cases h
  all_goals (revert h; cases Nat.beq _ id <;> exact fun h => nomatch h)
theorem scrubT_rel {ρ ρ' : Rho} {F F' : Nat → Prop} {w w' : World} {id : Nat} (E : Ext (fun i => i = id) ρ F w ρ' F' w') {v : V} {c : Value} (r : RelT ρ F w v c) : RelT ρ' F' w' (scrubT id v) c := by
  refine (scrub_wk E).toT (gA := scrubA id) (fun _ => rfl) ?_ (fun _ => rfl) ?_ (fun _ _ => scrubC_agg) (fun _ _ => scrubC_tup) r
  · intro v hv; cases v <;> first | rfl | exact absurd rfl (hv _)
  · intro v hv; cases v <;> first | rfl | exact absurd rfl (hv _)
end Ev
end
section
set_option linter.unusedVariables false
set_option linter.unusedSimpArgs false
namespace Ev
open Go

/-- The world has changed in the blocks of 'B' alone, and new blocks were made. -/
structure Chg (B : Nat → Prop) (w w' : World) : Prop where
  os : w'.os = w.os
  tape : w'.tape = w.tape
  output : w'.output = w.output
  size : w.heap.size ≤ w'.heap.size
  block : ∀ b, b < w.heap.size → ¬ B b → w'.heap[b]? = w.heap[b]?
  drew : w.drawn ≤ w'.drawn
theorem Chg.refl (B : Nat → Prop) (w : World) : Chg B w w := ⟨rfl, rfl, rfl, Nat.le_refl _, fun _ _ _ => rfl, Nat.le_refl _⟩
theorem Chg.trans {A B C : Nat → Prop} {a b c : World} (h : Chg A a b) (k : Chg B b c) (ha : ∀ x, A x → C x) (hb : ∀ x, x < a.heap.size → B x → C x) : Chg C a c :=
  ⟨k.os.trans h.os, k.tape.trans h.tape, k.output.trans h.output, Nat.le_trans h.size k.size, fun x hx hc =>
    (k.block x (Nat.lt_of_lt_of_le hx h.size) fun e => hc (hb x hx e)).trans (h.block x hx fun e => hc (ha x e)), Nat.le_trans h.drew k.drew⟩
theorem Chg.mono {A B : Nat → Prop} {a b : World} (h : Chg A a b) (k : ∀ x, A x → B x) : Chg B a b :=
  ⟨h.os, h.tape, h.output, h.size, fun x hx hb => h.block x hx fun e => hb (k x e), h.drew⟩

theorem HeapAt.lt {ρ : Rho} {F : Nat → Prop} {w : World} {loc : Loc} {blk : Blk} (h : HeapAt ρ F w loc blk) {b : Nat} (hb : loc.block = some b) : b < w.heap.size := by
  cases loc with
  | box b' n =>
    cases blk with
    | box cs =>
      obtain ⟨_, arr, hr, _⟩ := h
      simp [Loc.block] at hb; subst hb; exact hr.lt
    | rows t l => exact h.elim
  | row t a len cap =>
    cases blk with
    | box cs => exact h.elim
    | rows t' l =>
      obtain ⟨_, _, _, h⟩ := h
      cases a with
      | none => simp [Loc.block] at hb
      | some a =>
        simp only [Loc.block] at hb
        split at hb
        · cases hb
        · rename_i hc
          rcases h with h | ⟨b', s, arr, e, hr, _⟩
          · exact absurd h hc
          · cases e; cases hb; exact hr.lt
/-- One block of the store becomes a weaker one. -/
def BlkWk (ρ : Rho) (F : Nat → Prop) (w : World) (ρ' : Rho) (F' : Nat → Prop) (w' : World) : Blk → Blk → Prop
  | .box cs, .box cs' => cs'.length = cs.length ∧ ∀ (i : Nat) (v v' : V), cs[i]? = some v → cs'[i]? = some v' → ∀ c, RelC ρ F w v c → RelC ρ' F' w' v' c
  | .rows t l, x => x = .rows t l
  | _, _ => False
theorem HeapAt.weaken {ρ ρ' : Rho} {F F' : Nat → Prop} {w w' : World} {loc : Loc} {blk blk' : Blk} (h : HeapAt ρ F w loc blk)
    (hm : ∀ b, loc.block = some b → w'.heap[b]? = w.heap[b]?) (hk : BlkWk ρ F w ρ' F' w' blk blk') : HeapAt ρ' F' w' loc blk' := by
  cases loc with
  | box b n =>
    cases blk with
    | rows t l => exact h.elim
    | box cs =>
      cases blk' with
      | rows t l => exact hk.elim
      | box cs' =>
        obtain ⟨hl, arr, hr, hs, hc⟩ := h
        obtain ⟨hl', hk⟩ := hk
        refine ⟨by omega, arr, hr.of_block (hm b rfl), hs, fun i v' hv' => ?_⟩
        have hi : i < cs.length := by
          have := (List.getElem?_eq_some_iff.mp hv').1
          omega
        obtain ⟨c, hc', r⟩ := hc i cs[i] (List.getElem?_eq_getElem hi)
        exact ⟨c, hc', hk i _ v' (List.getElem?_eq_getElem hi) hv' c r⟩
  | row t a len cap =>
    cases blk with
    | box cs => exact h.elim
    | rows t' l =>
      have e : blk' = .rows t' l := hk
      subst e
      obtain ⟨ht, hl, hc, h⟩ := h
      refine ⟨ht, hl, hc, ?_⟩
      by_cases h0 : cap = 0
      · exact .inl h0
      · refine .inr ?_
        rcases h with h | ⟨b, s, arr, e, hr, hle, hat⟩
        · exact absurd h h0
        · have hb := hm b (by subst e; simp [Loc.block, h0])
          exact ⟨b, s, arr, e, hr.of_block hb, hle, hat.of_block hb⟩
theorem core_step {ρ ρ' : Rho} {F F' : Nat → Prop} {σ σ' : Store} {w w' : World} (S : Nat → Prop) (H : Core ρ F σ w)
    (mem : ∀ id loc b, ¬ S id → ρ' id = some loc → loc.block = some b → w'.heap[b]? = w.heap[b]?)
    (old : ∀ id loc, ¬ S id → ρ' id = some loc → ρ id = some loc)
    (sto : ∀ id blk', ¬ S id → look σ' id = some blk' → ∃ blk, look σ id = some blk ∧ BlkWk ρ F w ρ' F' w' blk blk')
    (new : ∀ id loc blk, S id → ρ' id = some loc → look σ' id = some blk → HeapAt ρ' F' w' loc blk)
    (injS : ∀ i j li lj b, S i → ρ' i = some li → ρ' j = some lj → li.block = some b → lj.block = some b → i = j)
    (stable : ∀ b, F' b → b < w'.heap.size ∧ ¬ ρ'.M b) (gl : Glob F' w') : Core ρ' F' σ' w' where
  heap id loc blk h1 h2 := by
    by_cases hs : S id
    · exact new id loc blk hs h1 h2
    · obtain ⟨b0, h0, hk⟩ := sto id blk hs h2
      exact (H.heap id loc b0 (old id loc hs h1) h0).weaken (fun b hb => mem id loc b hs h1 hb) hk
  inj i j li lj b hi hj hbi hbj := by
    by_cases hs : S i
    · exact injS i j li lj b hs hi hj hbi hbj
    · by_cases ht : S j
      · exact (injS j i lj li b ht hj hi hbj hbi).symm
      · exact H.inj i j li lj b (old i li hs hi) (old j lj ht hj) hbi hbj
  stable := stable
  glob := gl
/-- The same store and ids, a world in which blocks have only been added. -/
theorem core_more {ρ : Rho} {F F' : Nat → Prop} {σ : Store} {w w' : World} (H : Core ρ F σ w) (h : Chg (fun _ => False) w w')
    (hF : ∀ b, F b → F' b) (hF' : ∀ b, F' b → b < w'.heap.size ∧ ¬ ρ.M b) (hM : ∀ b, ρ.M b → b < w.heap.size) : Core ρ F' σ w' :=
  core_step (fun _ => False) H (fun id loc b _ h1 h2 => h.block b (hM b ⟨id, loc, h1, h2⟩) (fun e => e)) (fun _ _ _ h => h)
    (fun id blk _ hl => ⟨blk, hl, by
      cases blk with
      | rows t l => rfl
      | box cs =>
        refine ⟨rfl, fun i v v' h1 h2 c r => ?_⟩
        rw [h1] at h2; cases h2
        exact RelC.ext0 ⟨fun _ _ _ h => h, hF, fun b hb => h.block b (H.stable b hb).1 (fun e => e)⟩ r⟩)
    (fun _ _ _ h => h.elim) (fun _ _ _ _ _ h => h.elim) hF' (H.glob.keep hF fun b hb => h.block b (H.stable b hb).1 (fun e => e))

/-! ### What an operation is shown to do -/
structure Stp (ρ : Rho) (F : Nat → Prop) (w : World) (ρ' : Rho) (F' : Nat → Prop) (w' : World) : Prop where
  chg : Chg ρ.M w w'
  mb : ∀ b, ρ'.M b → ρ.M b ∨ w.heap.size ≤ b
  stb : ∀ b, F' b → F b ∨ ρ.M b ∨ w.heap.size ≤ b
def NewId (dst id : Nat) : Prop := ∃ j, id = dst + 10000 * j
def Dom (ρ : Rho) (σ : Store) : Prop := ∀ id l, ρ id = some l → look σ id ≠ none
/-- What holds behind an operation. -/
structure Post (calm : Prop) (dst : Nat) (ρ : Rho) (F : Nat → Prop) (s : St) (w : World) (v : V) (s' : St) (ρ' : Rho) (F' : Nat → Prop) (w' : World) (c : Value) : Prop where
  core : Core ρ' F' s'.st w'
  stp : Stp ρ F w ρ' F' w'
  val : RelT ρ' F' w' v c
  fr : ∀ t x, RelT ρ F w (get s.fr t) x → RelT ρ' F' w' (get s'.fr t) x
  len : s'.fr.length = s.fr.length
  dom : Dom ρ s.st → Dom ρ' s'.st
  low : ∀ id, id < 100 → look s'.st id ≠ none → look s.st id ≠ none
  par : ∀ id l, id < 100 → ρ id = some l → look s'.st id ≠ none → ρ' id = some l
  calm : calm → s'.fr = s.fr ∧ (∀ id l, ρ id = some l → ρ' id = some l) ∧ (∀ id l, ρ' id = some l → ρ id = some l ∨ (NewId dst id ∧ look s'.st id ≠ none)) ∧
    (∀ id b, look s.st id = some b → look s'.st id = some b) ∧ (∀ id b, look s'.st id = some b → look s.st id = some b ∨ NewId dst id) ∧
    (∀ b, b < w.heap.size → w'.heap[b]? = w.heap[b]?) ∧ (∀ b, F b → F' b)
  ext : ∃ X : Nat → Prop, Ext X ρ F w ρ' F' w' ∧ ∀ id, X id → look s.st id ≠ none
  kept : ∀ id l, ρ' id = some l → look s'.st id ≠ none ∨ (look s.st id = none ∧ ρ id = some l)
  mem : ∀ id l b, look s.st id = none → ρ id = some l → l.block = some b → w'.heap[b]? = w.heap[b]?
def Reads (o : Oper) (t : Nat) : Prop := Operand.tmp t ∈ o.op.operands
/-- The operation, begun in a state that 's' stands for, yields a value that 'v' stands for, in a state that 's'' stands for. -/
def OpOK (P : Program) (calm : Prop) (o : Oper) (s : St) (v : V) (s' : St) : Prop :=
  ∀ (ρ : Rho) (F : Nat → Prop) (a : Act) (w : World), Core ρ F s.st w → (∀ b, ρ.M b → b < w.heap.size) →
    (∀ id, look s.st id = none → NewId (idOf o) id → ρ id = none) →
    (∀ t, Reads o t → RelT ρ F w (get s.fr t) (a.tmps.getD t undef)) →
    ∀ (N : Act → World → Prop) (Q : Exit → Act → World → Prop),
      (∀ c w' ρ' F', Post calm (idOf o) ρ F s w v s' ρ' F' w' c → N (a.put o.dst c) w') → o.wp P a w N Q
end Ev
end
section
set_option linter.unusedVariables false
set_option linter.unusedSimpArgs false
namespace Ev
open Go

def SizeOf (P : Program) (t n : Nat) : Prop := ∃ i, P.info? t = some i ∧ i.size = n
def aggD : TypeDesc → Bool
  | .struct _ => true
  | .array _ _ => true
  | _ => false
def IsAgg (P : Program) (t : Nat) (b : Bool) : Prop := ∃ d, P.underlying t = some d ∧ aggD d = b
def ZeroOf (P : Program) (t : Nat) (vs : List Value) : Prop := ∃ i z, P.info? t = some i ∧ i.zero = some z ∧ z.cells.toList = vs
def ElemOK (P : Program) (e : Nat) (τ : Ty) : Prop := SizeOf P e τ.width ∧ ZeroOf P e ((τ.cells τ.zero).map sv) ∧ IsAgg P e τ.isAgg ∧ (∃ i, P.info? e = some i ∧ i.bytes ≤ 128) ∧ (τ = .u8 → P.underlying e = some (.int .u8))
def KindOK (P : Program) : TypeDesc → TK → Prop
  | .int k, .int k' => k = k'
  | .bool, .bool => True
  | .string, .str => True
  | .slice e, .sl τ => ElemOK P e τ
  | .array n e, .arr n' w a => n = n' ∧ SizeOf P e w ∧ IsAgg P e a
  | .struct _, .struct => True
  | _, .other => True
  | _, _ => False
def FldsOK (P : Program) : TypeDesc → List (Nat × Nat × Bool) → Prop
  | .struct fs, flds => flds.length = fs.size ∧ ∀ (i : Nat) off size a, flds[i]? = some (off, size, a) → ∃ f, fs[i]? = some f ∧ f.offset = off ∧ SizeOf P f.type size ∧ IsAgg P f.type a
  | _, flds => flds = []
def eqV : List V → List V → Option Bool
  | [], [] => some true
  | .int k a :: xs, .int k' b :: ys => cond (decide (k = k')) ((eqV xs ys).bind fun t => some (decide (a = b) && t)) none
  | .str a :: xs, .str b :: ys => (eqV xs ys).bind fun t => some (decide (a = b) && t)
  | .bool a :: xs, .bool b :: ys => (eqV xs ys).bind fun t => some (decide (a = b) && t)
  | _, _ => none
/-- Flat: equality is that of the cells. -/
def FlatOK (P : Program) (t : Nat) (zs : List V) : Prop := ∀ (xs ys : Array Value) (us vs : List V) (b : Bool) (w : World), xs.toList = us.map sv → ys.toList = vs.map sv →
  fits zs us = true → fits zs vs = true → eqV us vs = some b → (Op.equal t (.agg xs) (.agg ys)).run P w = .ok b w ∧ (∀ op x y, (eqGuard op t x y (.agg xs) (.agg ys)).run P w = .ok () w)
structure TIok (P : Program) (t : Nat) (ti : TI) : Prop where
  size : SizeOf P t ti.size
  zero : ZeroOf P t (ti.zero.map sv)
  agg : IsAgg P t ti.agg
  kind : ∃ d, P.underlying t = some d ∧ KindOK P d ti.kind ∧ FldsOK P d ti.flds
  zlen : ti.zero.length = ti.size
  zpure : allB (fun v => v.plain || (match v with | .nils => true | _ => false)) ti.zero = true
def TabOK (P : Program) (T : Tab) : Prop := ∀ t ti, T.get t = some ti → TIok P t ti ∧ (ti.flat = true → FlatOK P t ti.zero)

/-! ### The check -/
def sameV : Value → V → Bool
  | .int k n, .int k' n' => decide (k = k') && decide (n = n')
  | .bool a, .bool b => decide (a = b)
  | .string s, .str l => decide (s.data.toList = l)
  | .slice none 0 0, .nils => true
  | _, _ => false
theorem sameV_eq {c : Value} {v : V} (h : sameV c v = true) : c = sv v := by
  unfold sameV at h
  split at h
  · simp at h; obtain ⟨rfl, rfl⟩ := h; rfl
  · simp at h; subst h; rfl
  · rename_i s l; simp at h; subst h; rfl
  · rfl
  · cases h
def sameVs : List Value → List V → Bool
  | [], [] => true
  | c :: cs, v :: vs => sameV c v && sameVs cs vs
  | _, _ => false
theorem sameVs_eq : ∀ {cs : List Value} {vs : List V}, sameVs cs vs = true → cs = vs.map sv
  | [], [], _ => rfl
  | c :: cs, v :: vs, h => by
    simp only [sameVs, Bool.and_eq_true] at h
    rw [sameV_eq h.1, sameVs_eq h.2]; rfl
  | [], _ :: _, h => by simp [sameVs] at h
  | _ :: _, [], h => by simp [sameVs] at h
def sizeB (P : Program) (t n : Nat) : Bool := match P.info? t with
  | some i => Nat.beq i.size n
  | none => false
def aggB (P : Program) (t : Nat) (b : Bool) : Bool := match P.underlying t with
  | some d => decide (aggD d = b)
  | none => false
def zeroB (P : Program) (t : Nat) (vs : List V) : Bool := match P.info? t with
  | some i => match i.zero with
    | some z => sameVs z.cells.toList vs
    | none => false
  | none => false
def bytesB (P : Program) (t : Nat) : Bool := match P.info? t with
  | some i => Nat.ble i.bytes 128
  | none => false
def u8B (P : Program) (e : Nat) (τ : Ty) : Bool := !decide (τ = .u8) || (match P.underlying e with
  | some (.int .u8) => true
  | _ => false)
theorem u8B_ok {P : Program} {e : Nat} {τ : Ty} (h : u8B P e τ = true) (ht : τ = .u8) : P.underlying e = some (.int .u8) := by
  unfold u8B at h
  simp only [ht, decide_true, Bool.not_true, Bool.false_or] at h
  split at h
  · assumption
  · cases h
def kindB (P : Program) : TypeDesc → TK → Bool
  | .int k, .int k' => decide (k = k')
  | .bool, .bool => true
  | .string, .str => true
  | .slice e, .sl τ => sizeB P e τ.width && zeroB P e (τ.cells τ.zero) && aggB P e τ.isAgg && bytesB P e && u8B P e τ
  | .array n e, .arr n' w a => Nat.beq n n' && sizeB P e w && aggB P e a
  | .struct _, .struct => true
  | _, .other => true
  | _, _ => false
def fldsB (P : Program) : List Field → List (Nat × Nat × Bool) → Bool
  | [], [] => true
  | f :: fs, (off, size, a) :: r => Nat.beq f.offset off && sizeB P f.type size && aggB P f.type a && fldsB P fs r
  | _, _ => false
def fldsDB (P : Program) : TypeDesc → List (Nat × Nat × Bool) → Bool
  | .struct fs, flds => fldsB P fs.toList flds
  | _, flds => flds.isEmpty
def zpB (v : V) : Bool := v.plain || (match v with | .nils => true | _ => false)
def tiB (P : Program) (t : Nat) (ti : TI) : Bool :=
  sizeB P t ti.size && zeroB P t ti.zero && aggB P t ti.agg && (match P.underlying t with
    | some d => kindB P d ti.kind && fldsDB P d ti.flds
    | none => false) && Nat.beq ti.zero.length ti.size && allB zpB ti.zero
theorem sizeB_ok {P : Program} {t n : Nat} (h : sizeB P t n = true) : SizeOf P t n := by
  unfold sizeB at h; split at h
  · rename_i i hi; exact ⟨i, hi, Nat.eq_of_beq_eq_true h⟩
  · cases h
theorem aggB_ok {P : Program} {t : Nat} {b : Bool} (h : aggB P t b = true) : IsAgg P t b := by
  unfold aggB at h; split at h
  · rename_i d hd; exact ⟨d, hd, of_decide_eq_true h⟩
  · cases h
theorem zeroB_ok {P : Program} {t : Nat} {vs : List V} (h : zeroB P t vs = true) : ZeroOf P t (vs.map sv) := by
  unfold zeroB at h; split at h
  · rename_i i hi
    split at h
    · rename_i z hz; exact ⟨i, z, hi, hz, sameVs_eq h⟩
    · cases h
  · cases h
theorem fldsB_ok {P : Program} : ∀ {fs : List Field} {r : List (Nat × Nat × Bool)}, fldsB P fs r = true →
    r.length = fs.length ∧ ∀ (i : Nat) off size a, r[i]? = some (off, size, a) → ∃ f, fs[i]? = some f ∧ f.offset = off ∧ SizeOf P f.type size ∧ IsAgg P f.type a
  | [], [], _ => ⟨rfl, fun i _ _ _ h => by simp at h⟩
  | f :: fs, (off, size, a) :: r, h => by
    simp only [fldsB, Bool.and_eq_true] at h
    obtain ⟨hl, hr⟩ := fldsB_ok h.2
    refine ⟨by simp [hl], fun i => ?_⟩
    cases i with
    | zero =>
      intro off' size' a' e
      simp at e
      obtain ⟨rfl, rfl, rfl⟩ := e
      exact ⟨f, rfl, Nat.eq_of_beq_eq_true h.1.1.1, sizeB_ok h.1.1.2, aggB_ok h.1.2⟩
    | succ i => intro off' size' a' e; simpa using hr i off' size' a' (by simpa using e)
  | [], _ :: _, h => by simp [fldsB] at h
  | _ :: _, [], h => by simp [fldsB] at h
theorem kindB_ok {P : Program} {d : TypeDesc} {k : TK} (h : kindB P d k = true) : KindOK P d k := by
  unfold kindB at h
  split at h
  · rename_i k k'; exact (of_decide_eq_true h : k = k')
  · trivial
  · trivial
  · simp only [Bool.and_eq_true] at h
    refine ⟨sizeB_ok h.1.1.1.1, zeroB_ok h.1.1.1.2, aggB_ok h.1.1.2, ?_, u8B_ok h.2⟩
    have := h.1.2
    unfold bytesB at this; split at this
    · rename_i i hi; exact ⟨i, hi, Nat.le_of_ble_eq_true this⟩
    · cases this
  · simp only [Bool.and_eq_true] at h
    exact ⟨Nat.eq_of_beq_eq_true h.1.1, sizeB_ok h.1.2, aggB_ok h.2⟩
  · trivial
  · cases d <;> trivial
  · cases h
theorem tiB_ok {P : Program} {t : Nat} {ti : TI} (h : tiB P t ti = true) : TIok P t ti := by
  simp only [tiB, Bool.and_eq_true] at h
  obtain ⟨⟨⟨⟨⟨h1, h2⟩, h3⟩, h4⟩, h5⟩, h6⟩ := h
  refine ⟨sizeB_ok h1, zeroB_ok h2, aggB_ok h3, ?_, Nat.eq_of_beq_eq_true h5, h6⟩
  split at h4
  · rename_i d hd
    simp only [Bool.and_eq_true] at h4
    refine ⟨d, hd, kindB_ok h4.1, ?_⟩
    have := h4.2
    cases d <;> simp only [fldsDB] at this <;> simp only [FldsOK] <;> first
      | (obtain ⟨hl, hr⟩ := fldsB_ok this; exact ⟨by simpa using hl, fun i off size a e => by simpa using hr i off size a e⟩)
      | simpa using this
  · cases h4
def tabB (P : Program) : Tab → Bool
  | [] => true
  | (t, ti) :: r => cond (tiB P t ti) (tabB P r) false
theorem tabB_ok {P : Program} : ∀ {T : Tab}, tabB P T = true → ∀ t ti, T.get t = some ti → TIok P t ti
  | [], _, t, ti, h => by simp [Tab.get] at h
  | (i, x) :: r, hb, t, ti, h => by
    simp only [tabB] at hb
    cases hx : tiB P i x <;> simp [hx] at hb
    simp only [Tab.get] at h
    cases he : Nat.beq i t <;> simp [he] at h
    · exact tabB_ok hb t ti h
    · have := Nat.eq_of_beq_eq_true he; subst this; subst h; exact tiB_ok hx
end Ev
end
