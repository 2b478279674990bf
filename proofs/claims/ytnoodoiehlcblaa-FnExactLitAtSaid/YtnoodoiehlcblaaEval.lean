/- The evaluator, second part: calls, operations, code. Definitions alone. -/
import Derived.Test.YtnoodoiehlcblaaDef
set_option linter.unusedVariables false
namespace Ev
open Go

/-! ### What a function of the program is taken for -/
inductive Lf | c | r (t : Ty) | m (t : Ty) | p | f | s
inductive Sh | one (l : Lf) | agg (ls : List Lf)
structure Entry where
  pars : List Sh
  res : List Sh
  shares : Bool
  muts : Bool
  sem : (R : Type) → List V → List Blk → (V → List Blk → Option R) → Option R
abbrev Env := Nat → Option Entry

section
variable {R : Type}
def V.plain : V → Bool
  | .int _ _ => true | .bool _ => true | .str _ => true | _ => false
def V.idfree : V → Bool
  | .int _ _ => true | .bool _ => true | .str _ => true | .lst _ _ => true | .nils => true | .undef => true | _ => false
def V.base : V → Bool
  | .agg _ => false | .tup _ => false | .fn _ _ => false | _ => true
def allB (p : V → Bool) : List V → Bool
  | [] => true
  | v :: vs => cond (p v) (allB p vs) false
def capC (st : Store) (frz : List Nat) : List V → (List V → List Nat → Option R) → Option R
  | [], K => K [] frz
  | .lptr id off :: vs, K =>
    match look st id with
    | some (.box cs) => dropK off cs fun cs => cond (allB V.plain cs) (capC st (id :: frz) vs fun ys f => K (.sptr cs :: ys) f) none
    | _ => none
  | v :: vs, K => cond v.plain (capC st frz vs fun ys f => K (v :: ys) f) none
def argC (st : Store) (ids frz : List Nat) : Lf → V → (V → List Nat → List Nat → Option R) → Option R
  | .c, v, K => match v with
    | .int _ _ | .bool _ | .str _ | .undef => K v ids frz
    | _ => none
  | .r t, v, K => match v with
    | .lst t' l => match castL t' t l with
      | some l => K (.lst t l) ids frz
      | none => none
    | .own id => match look st id with
      | some (.rows t' l) => match castL t' t l with
        | some l => K (.lst t l) ids (id :: frz)
        | none => none
      | _ => none
    | .ownv id lo hi => match look st id with
      | some (.rows t' l) => match castL t' t l with
        | some l => K (.lst t ((l.take hi).drop lo)) ids (id :: frz)
        | none => none
      | _ => none
    | .nils => K (.lst t []) ids frz
    | .undef => K .undef ids frz
    | _ => none
  | .m t, v, K => match v with
    | .own id => match look st id with
      | some (.rows t' l) => match castL t' t l with
        | some _ => K (.own ids.length) (ids ++ [id]) frz
        | none => none
      | _ => none
    | _ => none
  | .p, v, K => match v with
    | .lptr id 0 => match look st id with
      | some (.box cs) => cond (allB V.idfree cs) (K (.lptr ids.length 0) (ids ++ [id]) frz) none
      | _ => none
    | _ => none
  | .f, v, K => match v with
    | .fn g cap => capC st frz cap fun cap f => K (.fn g cap) ids f
    | _ => none
  | .s, v, K => match v with
    | .sptr cs => K (.sptr cs) ids frz
    | _ => none
def argCs (st : Store) : List Lf → List V → List Nat → List Nat → (List V → List Nat → List Nat → Option R) → Option R
  | [], [], ids, frz, K => K [] ids frz
  | l :: ls, v :: vs, ids, frz, K => argC st ids frz l v fun v ids frz => argCs st ls vs ids frz fun vs ids frz => K (v :: vs) ids frz
  | _, _, _, _, _ => none
def argA (st : Store) (ids frz : List Nat) : Sh → V → (V → List Nat → List Nat → Option R) → Option R
  | .one l, v, K => argC st ids frz l v K
  | .agg ls, .agg cs, K => argCs st ls cs ids frz fun cs ids frz => K (.agg cs) ids frz
  | _, _, _ => none
def argAs (st : Store) : List Sh → List V → List Nat → List Nat → (List V → List Nat → List Nat → Option R) → Option R
  | [], [], ids, frz, K => K [] ids frz
  | s :: ss, v :: vs, ids, frz, K => argA st ids frz s v fun v ids frz => argAs st ss vs ids frz fun vs ids frz => K (v :: vs) ids frz
  | _, _, _, _, _ => none
def memN (n : Nat) : List Nat → Bool
  | [] => false
  | m :: r => cond (Nat.beq m n) true (memN n r)
def okIds (frz : List Nat) : List Nat → Bool
  | [] => true
  | n :: r => cond (memN n r) false (cond (memN n frz) false (okIds frz r))
def blksK (st : Store) : List Nat → (List Blk → Option R) → Option R
  | [], K => K []
  | id :: ids, K => match look st id with
    | some b => blksK st ids fun bs => K (b :: bs)
    | none => none
def mapId (dst : Nat) : List Nat → Nat → Nat
  | [], j => dst + 10000 * j
  | id :: _, 0 => id
  | _ :: ids, j + 1 => mapId dst ids j
def renC (sh : Bool) (dst : Nat) (ids : List Nat) (v : V) (K : V → Option R) : Option R :=
  match v with
  | .int _ _ | .bool _ | .str _ => K v
  | .own j => K (.own (mapId dst ids j))
  | .lptr j o => K (.lptr (mapId dst ids j) o)
  | .lst t l => cond sh (K (.lst t l)) none
  | _ => none
def renCs (sh : Bool) (dst : Nat) (ids : List Nat) : List V → (List V → Option R) → Option R
  | [], K => K []
  | v :: vs, K => renC sh dst ids v fun v => renCs sh dst ids vs fun vs => K (v :: vs)
def renA (sh : Bool) (dst : Nat) (ids : List Nat) (v : V) (K : V → Option R) : Option R :=
  match v with
  | .agg cs => renCs sh dst ids cs fun cs => K (.agg cs)
  | v => renC sh dst ids v K
def renAs (sh : Bool) (dst : Nat) (ids : List Nat) : List V → (List V → Option R) → Option R
  | [], K => K []
  | v :: vs, K => renA sh dst ids v fun v => renAs sh dst ids vs fun vs => K (v :: vs)
def renT (sh : Bool) (dst : Nat) (ids : List Nat) (v : V) (K : V → Option R) : Option R :=
  match v with
  | .tup vs => renAs sh dst ids vs fun vs => K (.tup vs)
  | v => renA sh dst ids v K
/-- What may come back in a block: no ids, and what is shared only where the callee may hand on what came in. -/
def okV (sh : Bool) : V → Bool
  | .lst _ _ => sh
  | v => v.idfree
def Blk.okB (sh : Bool) : Blk → Bool
  | .box cs => allB (okV sh) cs
  | .rows _ _ => true
def impB (sh : Bool) (dst : Nat) : List Nat → Nat → List Blk → Store → (Store → Option R) → Option R
  | id :: ids, j, b :: bs, st, K => cond (b.okB sh) (updK st id b fun st => impB sh dst ids j bs st K) none
  | [], j, b :: bs, st, K => cond (b.okB sh) (newK st (dst + 10000 * j) b fun st => impB sh dst [] (j + 1) bs st K) none
  | [], _, [], st, K => K st
  | _ :: _, _, [], _, _ => none
def frzC (id : Nat) (t : Ty) (l : List t.den) : V → V
  | .own i => cond (Nat.beq i id) (.lst t l) (.own i)
  | .ownv i lo hi => cond (Nat.beq i id) (.lst t ((l.take hi).drop lo)) (.ownv i lo hi)
  | v => scrubC id v
def frzA (id : Nat) (t : Ty) (l : List t.den) : V → V
  | .agg cs => .agg (cs.map (frzC id t l))
  | v => frzC id t l v
def frzT (id : Nat) (t : Ty) (l : List t.den) : V → V
  | .tup vs => .tup (vs.map (frzA id t l))
  | v => frzA id t l v
def frzB (id : Nat) (t : Ty) (l : List t.den) : Nat × Blk → Nat × Blk
  | (i, .box cs) => (i, .box (cs.map (frzC id t l)))
  | (i, b) => (i, b)
def frzAll : List Nat → St → (St → Option R) → Option R
  | [], s, K => K s
  | id :: ids, s, K => match look s.st id with
    | some (.rows t l) => delK s.st id fun st => frzAll ids ⟨s.fr.map (frzT id t l), st.map (frzB id t l)⟩ K
    | some (.box _) => none
    | none => none
def dedup : List Nat → List Nat
  | [] => []
  | n :: r => cond (memN n r) (dedup r) (n :: dedup r)
def nilB : List Nat → Bool
  | [] => true
  | _ => false
def callK (E : Env) (f : Nat) (dst : Nat) (vs : List V) (s : St) (K : V → St → Option R) : Option R :=
  match E f with
  | none => none
  | some e => argAs s.st e.pars vs [] [] fun av ids frz =>
    cond (okIds frz ids && (e.muts || nilB ids)) (frzAll (cond e.shares (dedup frz) []) s fun s => blksK s.st ids fun bs => e.sem R av bs fun res out =>
      impB e.shares dst ids 0 out s.st fun st => renT e.shares dst ids res fun v => K v ⟨s.fr, st⟩) none

/-! ### Operations -/
def ofConst : Value → V
  | .int k n => .int k n
  | .bool b => .bool b
  | .string s => .str s.data.toList
  | .slice none 0 0 => .nils
  | .agg cs => .agg (cs.toList.map fun
    | .int k n => .int k n
    | .bool b => .bool b
    | .string s => .str s.data.toList
    | .slice none 0 0 => .nils
    | _ => .undef)
  | _ => .undef
def opd (fr : List V) : Operand → V
  | .tmp t => get fr t
  | .const v => ofConst v
  | .func f => .fn f []
  | .global _ => .undef
def opds (fr : List V) : List Operand → (List V → Option R) → Option R
  | [], K => K []
  | x :: xs, K => opds fr xs fun vs => K (opd fr x :: vs)
def bitsOp (op : BinOp) (k : IntKind) (a b : Int) : Int :=
  match op with
  | .and => k.wrap (BitVec.ofInt k.bits a &&& BitVec.ofInt k.bits b).toNat
  | .or => k.wrap (BitVec.ofInt k.bits a ||| BitVec.ofInt k.bits b).toNat
  | _ => k.wrap (BitVec.ofInt k.bits a ^^^ BitVec.ofInt k.bits b).toNat
def shrOp (k : IntKind) (a b : Int) : Int := a.fdiv (2 ^ min b.toNat k.bits)
def shlOp (k : IntKind) (a b : Int) : Int := k.wrap (a * 2 ^ min b.toNat k.bits)
def mn (a b : Int) : Int := if b < a then b else a
def mx (a b : Int) : Int := if b > a then b else a
def intK (op : BinOp) (k : IntKind) (a b : Int) (K : V → Option R) : Option R :=
  match op with
  | .add => K (.int k (k.wrap (a + b)))
  | .sub => K (.int k (k.wrap (a - b)))
  | .mul => K (.int k (k.wrap (a * b)))
  | .quo => cond (decide (b = 0)) none (K (.int k (k.wrap (a.tdiv b))))
  | .rem => cond (decide (b = 0)) none (K (.int k (a.tmod b)))
  | .and => K (.int k (bitsOp .and k a b))
  | .or => K (.int k (bitsOp .or k a b))
  | .xor => K (.int k (bitsOp .xor k a b))
  | .eql => K (.bool (decide (a = b)))
  | .neq => K (.bool (!decide (a = b)))
  | .lss => K (.bool (decide (a < b)))
  | .leq => K (.bool (decide (a ≤ b)))
  | .gtr => K (.bool (decide (a > b)))
  | .geq => K (.bool (decide (a ≥ b)))
  | _ => none
/-- Cells of the kinds of 'zs'. -/
def fits : List V → List V → Bool
  | [], [] => true
  | .int k _ :: zs, .int k' _ :: xs => decide (k = k') && fits zs xs
  | .bool _ :: zs, .bool _ :: xs => fits zs xs
  | .str _ :: zs, .str _ :: xs => fits zs xs
  | _, _ => false
def eqK : List V → List V → (Bool → Option R) → Option R
  | [], [], K => K true
  | .int k a :: xs, .int k' b :: ys, K => cond (decide (k = k')) (eqK xs ys fun t => K (decide (a = b) && t)) none
  | .str a :: xs, .str b :: ys, K => eqK xs ys fun t => K (decide (a = b) && t)
  | .bool a :: xs, .bool b :: ys, K => eqK xs ys fun t => K (decide (a = b) && t)
  | _, _, _ => none
def binK (T : Tab) (op : BinOp) (t : Nat) (x y : V) (K : V → Option R) : Option R :=
  match x, y with
  | .int k a, .int k' b =>
    match op with
    | .shl => cond (decide (b < 0)) none (K (.int k (shlOp k a b)))
    | .shr => cond (decide (b < 0)) none (K (.int k (shrOp k a b)))
    | op => cond (decide (k = k')) (intK op k a b K) none
  | .str a, .str b =>
    match op with
    | .add => capK (a.length + b.length) (K (.str (a ++ b)))
    | .eql => K (.bool (decide (a = b)))
    | .neq => K (.bool (!decide (a = b)))
    | .lss => K (.bool (Op.bytesLess a b))
    | .leq => K (.bool (Op.bytesLess a b || decide (a = b)))
    | .gtr => K (.bool (!(Op.bytesLess a b || decide (a = b))))
    | .geq => K (.bool (!Op.bytesLess a b))
    | _ => none
  | .bool a, .bool b =>
    match T.get t with
    | some ⟨_, _, _, _, _, .bool, _⟩ => match op with
      | .eql => K (.bool (decide (a = b)))
      | .neq => K (.bool (!decide (a = b)))
      | _ => none
    | _ => none
  | .agg xs, .agg ys =>
    match T.get t with
    | some ti => cond (ti.flat && (fits ti.zero xs && fits ti.zero ys)) (match op with
      | .eql => eqK xs ys fun b => K (.bool b)
      | .neq => eqK xs ys fun b => K (.bool (!b))
      | _ => none) none
    | none => none
  | _, _ => none
/-- The rows that an operand holds, as a source. -/
def rowsK (t : Ty) (not : Nat) (st : Store) (v : V) (K : List t.den → Option R) : Option R :=
  match v with
  | .nils => K []
  | .lst t' l => match castL t' t l with
    | some l => K l
    | none => none
  | .own id => cond (Nat.beq id not) none (match look st id with
    | some (.rows t' l) => match castL t' t l with
      | some l => K l
      | none => none
    | _ => none)
  | .ownv id lo hi => cond (Nat.beq id not) none (match look st id with
    | some (.rows t' l) => match castL t' t l with
      | some l => K ((l.take hi).drop lo)
      | none => none
    | _ => none)
  | _ => none
def putRow (s : St) (id : Nat) (b : Blk) (K : V → St → Option R) : Option R :=
  cond (Nat.ble 100 id) (updK s.st id b fun st => let s' := St.scrub ⟨s.fr, st⟩ id; K (.own id) s') none
def appendK (T : Tab) (t : Nat) (dst : Nat) (x y : V) (s : St) (K : V → St → Option R) : Option R :=
  match T.get t with
  | some ⟨_, _, _, _, _, .sl τ, _⟩ =>
    match x with
    | .own id => match look s.st id with
      | some (.rows t' l) => match castL t' τ l with
        | some l => rowsK τ id s.st y fun m => capK (l.length + m.length) (putRow s id (.rows τ (l ++ m)) K)
        | none => none
      | _ => none
    | .nils => rowsK τ dst s.st y fun m => capK m.length (newK s.st dst (.rows τ m) fun st => K (.own dst) ⟨s.fr, st⟩)
    | _ => none
  | _ => none
def lenK (ti : TI) (st : Store) (v : V) (K : V → Option R) : Option R :=
  match ti.kind, v with
  | .arr n _ _, _ => K (i64 (n : Int))
  | .str, .str s => K (i64 s.length)
  | .sl _, .nils => K (i64 0)
  | .sl _, .lst _ l => K (i64 l.length)
  | .sl _, .own id => match look st id with
    | some (.rows _ l) => K (i64 l.length)
    | _ => none
  | .sl _, .ownv id lo hi => K (i64 ((hi - lo : Nat) : Int))
  | _, _ => none
def foldK (g : Int → Int → Int) : Int → List V → (V → Option R) → Option R
  | a, [], K => K (i64 a)
  | a, .int .i64 b :: vs, K => foldK g (g a b) vs K
  | _, _, _ => none
def intsK : List V → (List Int → Option R) → Option R
  | [], K => K []
  | .int .i64 n :: vs, K => intsK vs fun ns => K (n :: ns)
  | _, _ => none
def rowOf (t : Ty) : List V → (Option t.den)
  | cs => t.ofCells cs
/-- The rows of a literal of 'n' elements, the parts from number 'i' on. -/
def litK (τ : Ty) : Nat → Nat → List (Nat × V) → (List τ.den → Option R) → Option R
  | 0, _, [], K => K []
  | n + 1, i, (j, v) :: ps, K => cond (Nat.beq i j) (match τ.ofCells v.cs with
    | some d => litK τ n (i + 1) ps fun l => K (d :: l)
    | none => none) (litK τ n (i + 1) ((j, v) :: ps) fun l => K (τ.zero :: l))
  | n + 1, i, [], K => litK τ n (i + 1) [] fun l => K (τ.zero :: l)
  | 0, _, _ :: _, _ => none
def V.val : V → Bool
  | .undef => false | .tup _ => false | _ => true
def buildK (flds : List (Nat × Nat × Bool)) : List (Nat × V) → List V → (List V → Option R) → Option R
  | [], cs, K => K cs
  | (i, v) :: ps, cs, K => match flds[i]? with
    | some (off, size, _) => cond (Nat.beq size v.cs.length && v.val) (layK off v.cs cs fun cs => buildK flds ps cs K) none
    | none => none
def partsV (fr : List V) (ps : List (Nat × Operand)) : List (Nat × V) := ps.map fun p => (p.1, opd fr p.2)
/-- A load or a store through a pointer. -/
def loadP (ti : TI) (st : Store) (v : V) (K : V → Option R) : Option R :=
  match v with
  | .sptr cs => loadK ti cs K
  | .lptr id off => match look st id with
    | some (.box cs) => dropK off cs fun cs => loadK ti cs K
    | _ => none
  | .eptr id row col => match look st id with
    | some (.rows t l) => (l[row]?).bind fun d => dropK col (t.cells d) fun cs => loadK ti cs K
    | _ => none
  | _ => none
def V.solid : V → Bool
  | .undef => false | .agg _ => false | .tup _ => false | _ => true
def storeP (ti : TI) (st : Store) (v x : V) (K : Store → Option R) : Option R :=
  cond (Nat.beq ti.size x.cs.length && allB V.solid x.cs) (match v with
  | .lptr id off => match look st id with
    | some (.box cs) => layK off x.cs cs fun cs => updK st id (.box cs) K
    | _ => none
  | .eptr id row col => match look st id with
    | some (.rows t l) => (l[row]?).bind fun d => layK col x.cs (t.cells d) fun cs => match t.ofCells cs with
      | some d => updK st id (.rows t (l.set row d)) K
      | none => none
    | _ => none
  | _ => none) none
def winK (t : Ty) (l : List t.den) (lo hi : Option V) (K : Nat → Nat → List t.den → Option R) : Option R :=
  match lo, hi with
  | some (.int .i64 a), none => okIf (0 ≤ a ∧ a ≤ l.length) (K a.toNat l.length (l.drop a.toNat))
  | none, some (.int .i64 b) => okIf (0 ≤ b ∧ b ≤ l.length) (K 0 b.toNat (l.take b.toNat))
  | some (.int .i64 a), some (.int .i64 b) => okIf (0 ≤ a ∧ a ≤ b ∧ b ≤ l.length) (K a.toNat b.toNat ((l.take b.toNat).drop a.toNat))
  | _, _ => none
def sliceK (ti : TI) (ann : Nat → Bool) (dst : Nat) (s : St) (x : V) (lo hi : Option V) (K : V → St → Option R) : Option R :=
  match ti.kind, x with
  | .str, .str l => match lo, hi with
    | some (.int .i64 a), none => okIf (0 ≤ a ∧ a ≤ l.length) (K (.str (l.drop a.toNat)) s)
    | none, some (.int .i64 b) => okIf (0 ≤ b ∧ b ≤ l.length) (K (.str (l.take b.toNat)) s)
    | some (.int .i64 a), some (.int .i64 b) => okIf (0 ≤ a ∧ a ≤ b ∧ b ≤ l.length) (K (.str ((l.take b.toNat).drop a.toNat)) s)
    | _, _ => none
  | .sl τ, .lst t l => match castL t τ l with
    | some l => winK τ l lo hi fun _ _ m => K (.lst τ m) s
    | none => none
  | .sl τ, .own id => match look s.st id with
    | some (.rows t l) => match castL t τ l with
      | some l => winK τ l lo hi fun a b m => cond (ann dst) (putRow s id (.rows τ m) K) (K (.ownv id a b) s)
      | none => none
    | _ => none
  | _, _ => none
/-- One arm for each place of an array. -/
def brK (i : Int) : Nat → (Nat → Option R) → Option R
  | 0, _ => none
  | n + 1, K => cond (decide (i = (n : Int))) (K n) (brK i n K)
def idxAddrK (ti : TI) (st : Store) (x i : V) (K : V → Option R) : Option R :=
  match ti.kind, x, i with
  | .sl τ, .lst t l, .int .i64 i => match castL t τ l with
    | some l => rdL l i fun d => K (.sptr (τ.cells d))
    | none => none
  | .sl τ, .own id, .int .i64 i => match look st id with
    | some (.rows t l) => match castL t τ l with
      | some l => rdL l i fun _ => K (.eptr id i.toNat 0)
      | none => none
    | _ => none
  | .sl τ, .ownv id lo hi, .int .i64 i => match look st id with
    | some (.rows t l) => match castL t τ l with
      | some l => rdL ((l.take hi).drop lo) i fun _ => K (.eptr id (lo + i.toNat) 0)
      | none => none
    | _ => none
  | .arr n 1 false, .sptr cs, .int .i64 i => takeK n cs fun cs => intsK cs fun ns => rdL ns i fun n => K (.sptr [i64 n])
  | .arr n w _, .lptr id off, .int .i64 i => brK i n fun j => K (.lptr id (off + j * w))
  | .arr n w _, .eptr id row col, .int .i64 i => brK i n fun j => K (.eptr id row (col + j * w))
  | _, _, _ => none
def idxK (ti : TI) (x i : V) (K : V → Option R) : Option R :=
  match ti.kind, x, i with
  | .str, .str s, .int .i64 i => rdL s i fun b => K (.int .u8 (b.toNat : Int))
  | .arr n 1 false, .agg cs, .int .i64 i => takeK n cs fun cs => intsK cs fun ns => rdL ns i fun n => K (i64 n)
  | _, _, _ => none
def fieldP (off : Nat) (v : V) (K : V → Option R) : Option R :=
  match v with
  | .sptr cs => dropK off cs fun cs => K (.sptr cs)
  | .lptr id o => K (.lptr id (o + off))
  | .eptr id r c => K (.eptr id r (c + off))
  | _ => none
def convK (T : Tab) (st : Store) (src dst : Nat) (x : V) (K : V → Option R) : Option R :=
  match T.get src, T.get dst with
  | some si, some ti => match si.kind, ti.kind, x with
    | _, .int k, .int _ n => K (.int k (k.wrap n))
    | _, .str, .str s => K (.str s)
    | .sl .u8, .str, x => rowsK .u8 99999 st x fun l => K (.str (l.map fun n => UInt8.ofNat n.toNat))
    | _, _, _ => none
  | _, _ => none
def builtinK (T : Tab) (b : Builtin) (dst : Nat) (vs : List V) (ts : List Nat) (s : St) (K : V → St → Option R) : Option R :=
  match b, vs, ts with
  | .len, [v], [t] => match T.get t with
    | some ti => lenK ti s.st v fun v => K v s
    | none => none
  | .append, [x, y], [t, u] => match T.get u with
    | some ⟨_, _, _, _, _, .sl _, _⟩ => appendK T t dst x y s K
    | _ => none
  | .min, .int .i64 a :: vs, _ => foldK mn a vs fun v => K v s
  | .max, .int .i64 a :: vs, _ => foldK mx a vs fun v => K v s
  | _, _, _ => none
def sameO : Operand → Operand → Bool
  | .tmp a, .tmp b => Nat.beq a b
  | .const (.int _ a), .const (.int _ b) => decide (a = b)
  | _, _ => false
def evOp (E : Env) (T : Tab) (ann : Nat → Bool) (dst : Nat) (op : Op) (s : St) (K : V → St → Option R) : Option R :=
  match op with
  | .move x => K (opd s.fr x) s
  | .assign x => K (opd s.fr x) s
  | .pick c a b => match opd s.fr c with
    | .bool t => cond t (K (opd s.fr a) s) (K (opd s.fr b) s)
    | _ => none
  | .alloc t => match T.get t with
    | some ti => newK s.st dst (.box ti.zero) fun st => K (.lptr dst 0) ⟨s.fr, st⟩
    | none => none
  | .box _ x => match opd s.fr x with
    | .undef => none
    | .tup _ => none
    | v => newK s.st dst (.box v.cs) fun st => K (.lptr dst 0) ⟨s.fr, st⟩
  | .build t ps => match T.get t with
    | some ti => match ti.kind with
      | .struct => buildK ti.flds (partsV s.fr ps.toList) ti.zero fun cs => K (.agg cs) s
      | .arr _ _ _ => buildK ti.flds (partsV s.fr ps.toList) ti.zero fun cs => K (.agg cs) s
      | _ => none
    | none => none
  | .buildSlice t n ps => match T.get t with
    | some ⟨_, _, _, _, _, .sl τ, _⟩ => cond (Nat.ble (n * τ.width) 16777216)
        (litK τ n 0 (partsV s.fr ps.toList) fun l => newK s.st dst (.rows τ l) fun st => K (.own dst) ⟨s.fr, st⟩) none
    | _ => none
  | .makeSlice t l c => match T.get t, opd s.fr l with
    | some ⟨_, _, _, _, _, .sl τ, _⟩, .int .i64 n => cond (sameO l c) (okIf (0 ≤ n)
        (capK n.toNat (newK s.st dst (.rows τ (List.replicate n.toNat τ.zero)) fun st => K (.own dst) ⟨s.fr, st⟩))) none
    | _, _ => none
  | .load t x => match T.get t with
    | some ti => loadP ti s.st (opd s.fr x) fun v => K v s
    | none => none
  | .store t a x => match T.get t with
    | some ti => storeP ti s.st (opd s.fr a) (opd s.fr x) fun st => K (.tup []) ⟨s.fr, st⟩
    | none => none
  | .nilCheck x => match opd s.fr x with
    | .lptr id o => K (.lptr id o) s
    | .eptr id r c => K (.eptr id r c) s
    | .sptr cs => K (.sptr cs) s
    | _ => none
  | .binOp op t x y _ => binK T op t (opd s.fr x) (opd s.fr y) fun v => K v s
  | .unOp op _ x => match op, opd s.fr x with
    | .not, .bool b => K (.bool (!b)) s
    | .neg, .int k n => K (.int k (k.wrap (0 - n))) s
    | _, _ => none
  | .convert a b x => convK T s.st a b (opd s.fr x) fun v => K v s
  | .makeFunc (.func f) first cap => cond (Nat.beq first.size 0) (opds s.fr cap.toList fun vs => cond (allB V.base vs) (K (.fn f vs) s) none) none
  | .slice t x lo hi none => match T.get t with
    | some ti => sliceK ti ann dst s (opd s.fr x) (lo.map (opd s.fr)) (hi.map (opd s.fr)) K
    | none => none
  | .fieldAddr t x i => match T.get t with
    | some ti => match ti.flds[i]? with
      | some (off, size, _) => cond (Nat.beq size 0) none (match ti.kind with
        | .struct => fieldP off (opd s.fr x) fun v => K v s
        | _ => none)
      | none => none
    | none => none
  | .field t x i => match T.get t with
    | some ti => match ti.flds[i]?, opd s.fr x with
      | some (off, size, agg), .agg cs => match ti.kind with
        | .struct => dropK off cs fun cs => loadK ⟨size, agg, 0, [], [], .other, false⟩ cs fun v => K v s
        | _ => none
      | _, _ => none
    | none => none
  | .indexAddr t x i => match T.get t with
    | some ti => idxAddrK ti s.st (opd s.fr x) (opd s.fr i) fun v => K v s
    | none => none
  | .index t x i => match T.get t with
    | some ti => idxK ti (opd s.fr x) (opd s.fr i) fun v => K v s
    | none => none
  | .extract x i => match opd s.fr x with
    | .tup vs => match vs[i]? with
      | some v => K v s
      | none => none
    | _ => none
  | .call ⟨.builtin b, args, ts⟩ => opds s.fr args.toList fun vs => builtinK T b dst vs ts.toList s K
  | .call ⟨.value f, args, _⟩ => match opd s.fr f with
    | .fn g cap => opds s.fr args.toList fun vs => callK E g dst (vs ++ cap) s K
    | _ => none
  | _ => none

/-! ### Regions and code -/
def dstOf (ops : List Oper) (j : Nat) : Option Nat := match ops[j]? with
  | some o => o.dst
  | none => none
/-- The number under which an operation's block is kept: those below 100 are handed in. -/
def idOf (o : Oper) : Nat := o.dst.getD 9999 + 100
def putK (s : St) (dst : Option Nat) (v : V) (K : St → Option R) : Option R :=
  match dst with
  | some d => setK s.fr d v fun fr => K ⟨fr, s.st⟩
  | none => K s
def evOps (E : Env) (T : Tab) (ann : Nat → Bool) (ops : List Oper) : List Oper → St → (St → Option R) → Option R
  | [], s, K => K s
  | o :: os, s, K =>
    match o.guard with
    | none => evOp E T ann (idOf o) o.op s fun v s => putK s o.dst v fun s => evOps E T ann ops os s K
    | some (j, want) => match dstOf ops j with
      | none => none
      | some g => match get s.fr g with
        | .bool b => cond (cond want b (!b))
          (setK s.fr g (.bool want) fun fr => evOp E T ann (idOf o) o.op ⟨fr, s.st⟩ fun v s => putK s o.dst v fun s => evOps E T ann ops os s K)
          (setK s.fr g (.bool (!want)) fun fr => putK ⟨fr, s.st⟩ o.dst (.tup []) fun s => evOps E T ann ops os s K)
        | .tup [] => putK s o.dst (.tup []) fun s => evOps E T ann ops os s K
        | _ => none
/-! A comparison with nil: a slice without elements may be nil or not, so what follows is to come out alike. -/
def isNil (o : Oper) : Bool := match o.op with
  | .binOp _ _ _ (.const (.slice none 0 0)) _ => true
  | _ => false
open Classical in
noncomputable def both (a b : Option R) : Option R := if a = b then a else none
noncomputable def emptyK (l : Bool) (a b : Option R) : Option R := cond l (both a b) b
noncomputable def nilK (T : Tab) (o : Oper) (s : St) (K : St → Option R) : Option R :=
  match o.guard, o.dst, o.op with
  | none, some d, .binOp op t x _ _ => match T.get t, op with
    | some ⟨_, _, _, _, _, .sl _, _⟩, .eql => match opd s.fr x with
      | .nils => putK s (some d) (.bool true) K
      | .lst _ l => emptyK l.isEmpty (putK s (some d) (.bool true) K) (putK s (some d) (.bool false) K)
      | .own id => match look s.st id with
        | some (.rows _ l) => emptyK l.isEmpty (putK s (some d) (.bool true) K) (putK s (some d) (.bool false) K)
        | _ => none
      | _ => none
    | some ⟨_, _, _, _, _, .sl _, _⟩, .neq => match opd s.fr x with
      | .nils => putK s (some d) (.bool false) K
      | .lst _ l => emptyK l.isEmpty (putK s (some d) (.bool false) K) (putK s (some d) (.bool true) K)
      | .own id => match look s.st id with
        | some (.rows _ l) => emptyK l.isEmpty (putK s (some d) (.bool false) K) (putK s (some d) (.bool true) K)
        | _ => none
      | _ => none
    | _, _ => none
  | _, _, _ => none
noncomputable def evSeq (E : Env) (T : Tab) (ann : Nat → Bool) (ops : List Oper) : List Oper → St → (St → Option R) → Option R
  | [], s, K => K s
  | o :: os, s, K => cond (isNil o) (nilK T o s fun s => evSeq E T ann ops os s K) (evOps E T ann ops [o] s fun s => evSeq E T ann ops os s K)
/-- Whether an operation may write what was there before it. -/
def calm (E : Env) (ann : Nat → Bool) (o : Oper) : Bool :=
  match o.op with
  | .store .. => false
  | .call ⟨.builtin .append, _, _⟩ => false
  | .call ⟨.builtin _, _, _⟩ => true
  | .call ⟨.value (.func f), _, _⟩ => match E f with
    | some e => !(e.muts || e.shares)
    | none => false
  | .call _ => false
  | .slice .. => !ann (idOf o)
  | _ => true
def calms (E : Env) (ann : Nat → Bool) : List Oper → Bool
  | [] => true
  | o :: os => cond (calm E ann o) (calms E ann os) false
/-! Regions that draw their order: what is to hold of their edges. -/
def bnd (e : Edge) : Bool := match e.ground with
  | .textOnly _ => false
  | .gcOnly _ => false
  | _ => true
def predOf (o : Oper) (j : Nat) : Bool := o.after.toList.any fun e => cond (Nat.beq e.on j) (bnd e) false
def tmpsOf (o : Oper) : List Nat := o.op.operands.toList.filterMap fun
  | .tmp t => some t
  | _ => none
def dstIs (o : Oper) (t : Nat) : Bool := match o.dst with
  | some d => Nat.beq d t
  | none => false
/-- Operation 'i' against all: whoever writes what it reads is tied to it. -/
def tied (i : Nat) (o : Oper) (t : Nat) : Nat → List Oper → Bool
  | _, [] => true
  | j, x :: xs => cond (dstIs x t) (Nat.beq i j || cond (Nat.blt j i) (predOf o j) (predOf x i)) true && tied i o t (j + 1) xs
def opReg (ops : List Oper) (i : Nat) (o : Oper) : Bool :=
  (match o.dst with
    | some d => Nat.blt d 9000
    | none => false) &&
  (o.after.toList.all fun e => cond (bnd e) (Nat.blt e.on i) true) &&
  (match o.guard with
    | some (j, _) => predOf o j
    | none => true) &&
  (tmpsOf o).all (fun t => tied i o t 0 ops)
def regOK (ops : List Oper) : Nat → List Oper → Bool
  | _, [] => true
  | i, o :: os => opReg ops i o && (os.all fun x => match o.dst with
    | some d => !dstIs x d
    | none => false) && regOK ops (i + 1) os
/-- How many operations come first that may be done in any order; behind them each waits for all before it. -/
def preLen (E : Env) (ann : Nat → Bool) : List Oper → Nat
  | [] => 0
  | o :: os => cond (calm E ann o && o.dst.isSome) (preLen E ann os + 1) 0
def tset (done : List (List Nat)) (o : Oper) : List Nat := dedup (o.after.toList.flatMap fun e => cond (bnd e) (e.on :: done.getD e.on []) [])
/-- What each operation waits for, at once or by way of others. -/
def tsets : List (List Nat) → List Oper → List (List Nat)
  | done, [] => done
  | done, o :: os => tsets (done ++ [tset done o]) os
def allIn (l : List Nat) : Nat → Bool
  | 0 => true
  | n + 1 => memN n l && allIn l n
def chainB (sets : List (List Nat)) : Nat → List Oper → Bool
  | _, [] => true
  | n, o :: os => allIn (sets.getD n []) n && (o.after.toList.all fun e => cond (bnd e) (Nat.blt e.on n) true) && chainB sets (n + 1) os
def regAny (E : Env) (ann : Nat → Bool) (ops : List Oper) : Bool :=
  calms E ann (ops.take (preLen E ann ops)) && regOK (ops.take (preLen E ann ops)) 0 (ops.take (preLen E ann ops)) && chainB (tsets [] ops) (ops.take (preLen E ann ops)).length (ops.drop (preLen E ann ops))
abbrev LEnv (R : Type) := Nat → Option (St → (St → Option R) → Option R)
noncomputable def ev (E : Env) (T : Tab) (ann : Nat → Bool) (L : LEnv R) (kr : St → Option R) : Code → (Nat → St → Option R) → (St → Option R) → St → Option R
  | .skip, _, K, s => K s
  | .region _ ops true, _, K, s => cond (regAny E ann ops.toList) (evOps E T ann ops.toList ops.toList s K) none
  | .region _ ops false, _, K, s => evSeq E T ann ops.toList ops.toList s K
  | .seq a b, X, K, s => ev E T ann L kr a X (fun s => ev E T ann L kr b X K s) s
  | .cond c a b, X, K, s => match opd s.fr c with
    | .bool t => cond t (ev E T ann L kr a X K s) (ev E T ann L kr b X K s)
    | _ => none
  | .block id (.loop _), X, K, s => match L id with
    | some l => l s K
    | none => none
  | .block id c, X, K, s => ev E T ann L kr c (fun i s => cond (Nat.beq i id) (K s) (X i s)) K s
  | .exit id, X, _, s => X id s
  | .ret, _, _, s => kr s
  | _, _, _, _ => none

/-! ### The end of a call -/
def expC (st : Store) (n : Nat) : Lf → V → (V → Store → List Blk → Nat → Option R) → Option R
  | .c, v, K => cond v.plain (K v st [] n) none
  | .r t, v, K => match v with
    | .lst t' l => match castL t' t l with
      | some l => K (.lst t l) st [] n
      | none => none
    | .nils => K (.lst t []) st [] n
    | .own id => match look st id with
      | some (.rows t' l) => match castL t' t l with
        | some l => delK st id fun st => K (.lst t l) st [] n
        | none => none
      | _ => none
    | _ => none
  | .m t, v, K => match v with
    | .own id => match look st id with
      | some (.rows t' l) => match castL t' t l with
        | some l => delK st id fun st => K (.own n) st [.rows t l] (n + 1)
        | none => none
      | _ => none
    | .ownv id lo hi => match look st id with
      | some (.rows t' l) => match castL t' t l with
        | some l => delK st id fun st => K (.own n) st [.rows t ((l.take hi).drop lo)] (n + 1)
        | none => none
      | _ => none
    | .nils => K (.own n) st [.rows t []] (n + 1)
    | _ => none
  | .p, v, K => match v with
    | .lptr id 0 => match look st id with
      | some (.box cs) => cond (allB V.idfree cs) (delK st id fun st => K (.lptr n 0) st [.box cs] (n + 1)) none
      | _ => none
    | _ => none
  | .f, _, _ => none
  | .s, _, _ => none
def expCs : List Lf → List V → Store → Nat → (List V → Store → List Blk → Nat → Option R) → Option R
  | [], [], st, n, K => K [] st [] n
  | l :: ls, v :: vs, st, n, K => expC st n l v fun v st bs n => expCs ls vs st n fun vs st bs' n => K (v :: vs) st (bs ++ bs') n
  | _, _, _, _, _ => none
def expA : Sh → V → Store → Nat → (V → Store → List Blk → Nat → Option R) → Option R
  | .one l, v, st, n, K => expC st n l v K
  | .agg ls, .agg cs, st, n, K => expCs ls cs st n fun cs st bs n => K (.agg cs) st bs n
  | _, _, _, _, _ => none
def expAs : List Sh → List V → Store → Nat → (List V → Store → List Blk → Nat → Option R) → Option R
  | [], [], st, n, K => K [] st [] n
  | s :: ss, v :: vs, st, n, K => expA s v st n fun v st bs n => expAs ss vs st n fun vs st bs' n => K (v :: vs) st (bs ++ bs') n
  | _, _, _, _, _ => none
def mutsK : Nat → Nat → Store → (List Blk → Option R) → Option R
  | 0, _, _, K => K []
  | m + 1, j, st, K => match look st j with
    | some b => mutsK m (j + 1) st fun bs => K (b :: bs)
    | none => none
def pack : List V → V
  | [v] => v
  | vs => .tup vs
def resVs (T : Tab) (s : St) : List ResultVar → (List V → Option R) → Option R
  | [], K => K []
  | .tmp t :: rs, K => resVs T s rs fun vs => K (get s.fr t :: vs)
  | .cell a t :: rs, K => match T.get t with
    | some ti => loadP ti s.st (get s.fr a) fun v => resVs T s rs fun vs => K (v :: vs)
    | none => none
def enterSt : Nat → List Blk → Store
  | _, [] => []
  | n, b :: bs => (n, b) :: enterSt (n + 1) bs
end
end Ev
