/- The evaluator: a function over the loaded program's code that computes with values (typed lists, texts, numbers) in place of memory. Definitions alone: what it computes is shown to be what the machine does in the texts behind this one. -/
import Derived.Test.YtnoodoiehlcblaaProg
import Derived.KernelRfl
set_option linter.unusedVariables false
namespace Ev
open Go

/-! ### The data of the program -/
abbrev Str := List UInt8
structure Place where
  X : Int
  Y : Int
  deriving DecidableEq
structure Box where
  Low : Place
  High : Place
  deriving DecidableEq
structure Jet where
  At : Place
  Heading : Int
  Tilt : Int
  Lift : Int
  deriving DecidableEq
structure Gust where
  From : Int
  Drift : Place
  deriving DecidableEq
structure Device where
  Name : Str
  Kind : Int
  Line : Str
  At : Place
  Heading : Int
  Tilt : Int
  Most : Int
  deriving DecidableEq
structure Cue where
  Tick : Int
  Name : Str
  Level : Int
  Ramp : Int
  deriving DecidableEq
structure Run where
  Level : Int
  Count : Int
  deriving DecidableEq
structure Block where
  b0 : Int
  b1 : Int
  b2 : Int
  b3 : Int
  b4 : Int
  b5 : Int
  b6 : Int
  b7 : Int
  deriving DecidableEq
structure Drop where
  From : Str
  Born : Int
  At : Place
  Height : Int
  deriving DecidableEq
structure Throw where
  name : Str
  born : Int
  jet : Jet
  deriving DecidableEq

/-- The kinds of elements that a slice of the program has. -/
inductive Ty | int | u8 | bool | str | place | box | jet | gust | device | cue | run | block | drop | throw
  deriving DecidableEq
@[reducible] def Ty.den : Ty → Type
  | .int => Int | .u8 => Int | .bool => Bool | .str => Str | .place => Place | .box => Box | .jet => Jet | .gust => Gust
  | .device => Device | .cue => Cue | .run => Run | .block => Block | .drop => Drop | .throw => Throw

/-- Values. -/
inductive V
  | undef
  | int (k : IntKind) (n : Int)
  | bool (b : Bool)
  | str (s : Str)
  | agg (cs : List V)
  | tup (vs : List V)
  | nils
  | lst (t : Ty) (l : List t.den)
  | own (id : Nat)
  | ownv (id lo hi : Nat)
  | sptr (cs : List V)
  | lptr (id off : Nat)
  | eptr (id row col : Nat)
  | fn (f : Nat) (cap : List V)

abbrev i64 (n : Int) : V := .int .i64 n
abbrev plc (p : Place) : List V := [i64 p.X, i64 p.Y]
def Ty.cells : (t : Ty) → t.den → List V
  | .int, n => [i64 n]
  | .u8, n => [.int .u8 n]
  | .bool, b => [.bool b]
  | .str, s => [.str s]
  | .place, p => [i64 p.X, i64 p.Y]
  | .box, b => [i64 b.Low.X, i64 b.Low.Y, i64 b.High.X, i64 b.High.Y]
  | .jet, j => [i64 j.At.X, i64 j.At.Y, i64 j.Heading, i64 j.Tilt, i64 j.Lift]
  | .gust, g => [i64 g.From, i64 g.Drift.X, i64 g.Drift.Y]
  | .device, d => [.str d.Name, i64 d.Kind, .str d.Line, i64 d.At.X, i64 d.At.Y, i64 d.Heading, i64 d.Tilt, i64 d.Most]
  | .cue, x => [i64 x.Tick, .str x.Name, i64 x.Level, i64 x.Ramp]
  | .run, r => [i64 r.Level, i64 r.Count]
  | .block, b => [i64 b.b0, i64 b.b1, i64 b.b2, i64 b.b3, i64 b.b4, i64 b.b5, i64 b.b6, i64 b.b7]
  | .drop, d => [.str d.From, i64 d.Born, i64 d.At.X, i64 d.At.Y, i64 d.Height]
  | .throw, x => [.str x.name, i64 x.born, i64 x.jet.At.X, i64 x.jet.At.Y, i64 x.jet.Heading, i64 x.jet.Tilt, i64 x.jet.Lift]
def Ty.ofCells : (t : Ty) → List V → Option t.den
  | .int, [.int .i64 n] => some n
  | .u8, [.int .u8 n] => some n
  | .bool, [.bool b] => some b
  | .str, [.str s] => some s
  | .place, [.int .i64 x, .int .i64 y] => some ⟨x, y⟩
  | .box, [.int .i64 a, .int .i64 b, .int .i64 c, .int .i64 d] => some ⟨⟨a, b⟩, ⟨c, d⟩⟩
  | .jet, [.int .i64 a, .int .i64 b, .int .i64 c, .int .i64 d, .int .i64 e] => some ⟨⟨a, b⟩, c, d, e⟩
  | .gust, [.int .i64 a, .int .i64 b, .int .i64 c] => some ⟨a, ⟨b, c⟩⟩
  | .device, [.str n, .int .i64 k, .str l, .int .i64 x, .int .i64 y, .int .i64 h, .int .i64 t, .int .i64 m] => some ⟨n, k, l, ⟨x, y⟩, h, t, m⟩
  | .cue, [.int .i64 t, .str n, .int .i64 l, .int .i64 r] => some ⟨t, n, l, r⟩
  | .run, [.int .i64 a, .int .i64 b] => some ⟨a, b⟩
  | .block, [.int .i64 a, .int .i64 b, .int .i64 c, .int .i64 d, .int .i64 e, .int .i64 f, .int .i64 g, .int .i64 h] => some ⟨a, b, c, d, e, f, g, h⟩
  | .drop, [.str n, .int .i64 b, .int .i64 x, .int .i64 y, .int .i64 h] => some ⟨n, b, ⟨x, y⟩, h⟩
  | .throw, [.str n, .int .i64 b, .int .i64 x, .int .i64 y, .int .i64 h, .int .i64 t, .int .i64 l] => some ⟨n, b, ⟨⟨x, y⟩, h, t, l⟩⟩
  | _, _ => none
def Ty.width : Ty → Nat
  | .int => 1 | .u8 => 1 | .bool => 1 | .str => 1 | .place => 2 | .box => 4 | .jet => 5 | .gust => 3 | .device => 8 | .cue => 4 | .run => 2 | .block => 8 | .drop => 5 | .throw => 7
def Ty.isAgg : Ty → Bool
  | .int | .u8 | .bool | .str => false
  | _ => true
def Ty.zero : (t : Ty) → t.den
  | .int => (0 : Int) | .u8 => (0 : Int) | .bool => false | .str => ([] : Str) | .place => ⟨0, 0⟩ | .box => ⟨⟨0, 0⟩, ⟨0, 0⟩⟩ | .jet => ⟨⟨0, 0⟩, 0, 0, 0⟩
  | .gust => ⟨0, ⟨0, 0⟩⟩ | .device => ⟨[], 0, [], ⟨0, 0⟩, 0, 0, 0⟩ | .cue => ⟨0, [], 0, 0⟩ | .run => ⟨0, 0⟩ | .block => ⟨0, 0, 0, 0, 0, 0, 0, 0⟩
  | .drop => ⟨[], 0, ⟨0, 0⟩, 0⟩ | .throw => ⟨[], 0, ⟨⟨0, 0⟩, 0, 0, 0⟩⟩
/-- Rows of one kind, read as rows of another: only of the same. -/
def castL : (a b : Ty) → List a.den → Option (List b.den)
  | .int, .int, l => some l | .u8, .u8, l => some l | .bool, .bool, l => some l | .str, .str, l => some l | .place, .place, l => some l
  | .box, .box, l => some l | .jet, .jet, l => some l | .gust, .gust, l => some l | .device, .device, l => some l | .cue, .cue, l => some l
  | .run, .run, l => some l | .block, .block, l => some l | .drop, .drop, l => some l | .throw, .throw, l => some l
  | _, _, _ => none

/-- What a call owns: a variable whose address is taken, or the rows of a slice. -/
inductive Blk
  | box (cs : List V)
  | rows (t : Ty) (l : List t.den)
abbrev Store := List (Nat × Blk)
structure St where
  fr : List V
  st : Store

/-! ### What is known of a type -/
inductive TK
  | int (k : IntKind) | bool | str | sl (t : Ty) | arr (len esize : Nat) (eagg : Bool) | struct | other
structure TI where
  size : Nat
  agg : Bool
  bytes : Nat
  zero : List V
  flds : List (Nat × Nat × Bool)
  kind : TK
  flat : Bool
abbrev Tab := List (Nat × TI)
def Tab.get : Tab → Nat → Option TI
  | [], _ => none
  | (i, x) :: r, n => cond (Nat.beq i n) (some x) (Tab.get r n)

/-! ### Small steps, each handing on -/
section
variable {R : Type}
def lim : Nat := 1099511627776
def capK (n : Nat) (K : Option R) : Option R := if n ≤ lim then K else none
def rdL {α : Type} (l : List α) (i : Int) (K : α → Option R) : Option R := if 0 ≤ i then (l[i.toNat]?).bind K else none
def okIf (c : Prop) [Decidable c] (K : Option R) : Option R := if c then K else none
def setK : List V → Nat → V → (List V → Option R) → Option R
  | [], _, _, _ => none
  | _ :: xs, 0, v, K => K (v :: xs)
  | x :: xs, n + 1, v, K => setK xs n v (fun ys => K (x :: ys))
def get : List V → Nat → V
  | [], _ => .undef
  | x :: _, 0 => x
  | _ :: xs, n + 1 => get xs n
def takeK : Nat → List V → (List V → Option R) → Option R
  | 0, _, K => K []
  | _ + 1, [], _ => none
  | n + 1, x :: xs, K => takeK n xs (fun ys => K (x :: ys))
def dropK : Nat → List V → (List V → Option R) → Option R
  | 0, cs, K => K cs
  | _ + 1, [], _ => none
  | n + 1, _ :: xs, K => dropK n xs K
/-- 'vs' laid over 'cs' from place 'n' on. -/
def layK : Nat → List V → List V → (List V → Option R) → Option R
  | 0, [], cs, K => K cs
  | 0, v :: vs, _ :: cs, K => layK 0 vs cs (fun ys => K (v :: ys))
  | n + 1, vs, c :: cs, K => layK n vs cs (fun ys => K (c :: ys))
  | _, _, _, _ => none
def look : Store → Nat → Option Blk
  | [], _ => none
  | (i, b) :: r, n => cond (Nat.beq i n) (some b) (look r n)
def updK : Store → Nat → Blk → (Store → Option R) → Option R
  | [], _, _, _ => none
  | (i, b) :: r, n, b', K => cond (Nat.beq i n) (K ((n, b') :: r)) (updK r n b' (fun r' => K ((i, b) :: r')))
def delK : Store → Nat → (Store → Option R) → Option R
  | [], _, K => K []
  | (i, b) :: r, n, K => cond (Nat.beq i n) (delK r n K) (delK r n (fun r' => K ((i, b) :: r')))
def newK (st : Store) (id : Nat) (b : Blk) (K : Store → Option R) : Option R :=
  match look st id with
  | none => K ((id, b) :: st)
  | some _ => none
def V.cs : V → List V
  | .agg cs => cs
  | v => [v]
def loadK (ti : TI) (cs : List V) (K : V → Option R) : Option R :=
  match ti.agg with
  | true => takeK ti.size cs fun ys => K (.agg ys)
  | false => match cs with
    | v :: _ => K v
    | [] => none
end

/-! ### What no longer holds -/
def scrubC (id : Nat) : V → V
  | .own i => cond (Nat.beq i id) .undef (.own i)
  | .ownv i lo hi => cond (Nat.beq i id) .undef (.ownv i lo hi)
  | .lptr i o => cond (Nat.beq i id) .undef (.lptr i o)
  | .eptr i r c => cond (Nat.beq i id) .undef (.eptr i r c)
  | .fn _ _ => .undef
  | .agg _ => .undef
  | .tup _ => .undef
  | v => v
def scrubA (id : Nat) : V → V
  | .agg cs => .agg (cs.map (scrubC id))
  | v => scrubC id v
def scrubT (id : Nat) : V → V
  | .tup vs => .tup (vs.map (scrubA id))
  | v => scrubA id v
def scrubB (id : Nat) : Nat × Blk → Nat × Blk
  | (i, .box cs) => (i, .box (cs.map (scrubC id)))
  | (i, b) => (i, b)
def St.scrub (s : St) (id : Nat) : St := ⟨s.fr.map (scrubT id), s.st.map (scrubB id)⟩
end Ev
