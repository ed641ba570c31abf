/- An abstract evaluator for the compiled text: its values, its memory of named blocks, its operations. Nothing here speaks of one program. -/
import GoSem.Dispatch
import GoSem.Machine.Frame
import GoSem.Core.Layout
import Derived.Laws.Sem
import Derived.Laws.Cells
import Derived.Laws.Wrap64
namespace Go.Ab
open Go

/-- names: numbers as paths (o = 0, l s = 2 s + 1, r s = 2 s + 2) -/
inductive S where
  | o
  | l (s : S)
  | r (s : S)
  deriving DecidableEq, Inhabited
namespace S
def toNat : S → Nat
  | .o => 0
  | .l s => 2 * s.toNat + 1
  | .r s => 2 * s.toNat + 2
def succ : S → S
  | .o => .l .o
  | .l s => .r s
  | .r s => .l s.succ
def ofNatF : Nat → Nat → S
  | 0, _ => .o
  | f + 1, n => bif n.beq 0 then .o else bif (n.land 1).beq 1 then .l (ofNatF f (n.div 2)) else .r (ofNatF f ((n.div 2).sub 1))
def ofNat (n : Nat) : S := ofNatF (n + 1) n
def beq : S → S → Bool
  | .o, .o => true
  | .l a, .l b => a.beq b
  | .r a, .r b => a.beq b
  | _, _ => false
end S

/-- what is known of a slice's capacity: it, or a bound from below -/
inductive Cap where
  | exact (c : Nat)
  | upto (lb : Nat)
  deriving DecidableEq, Inhabited

inductive AV where
  | bool (b : Bool)
  | int (k : IntKind) (n : Int)
  | str (s : ByteArray)
  | ptr (b : S) (o : Nat)
  | nilptr
  | slice (z : Nat) (b : S) (o n : Nat) (c : Cap)
  | nilslice
  | map (b : S)
  | nilmap
  | func (f : Nat) (first capt : List AV)
  | yield (l : S)
  | nilfunc
  | iface (t : Nat) (v : AV)
  | niliface
  | agg (cs : List AV)
  | tup (vs : List AV)
  deriving Inhabited

inductive Tr (α : Type) where
  | E
  | N (v : Option α) (l r : Tr α)
  deriving Inhabited
namespace Tr
variable {α : Type}
def get : Tr α → S → Option α
  | .E, _ => none
  | .N v _ _, .o => v
  | .N _ l _, .l s => l.get s
  | .N _ _ r, .r s => r.get s
def put : S → Tr α → Option α → Tr α
  | .o, .E, x => .N x .E .E
  | .o, .N _ l r, x => .N x l r
  | .l s, .E, x => .N none (put s .E x) .E
  | .l s, .N v l r, x => .N v (put s l x) r
  | .r s, .E, x => .N none .E (put s .E x)
  | .r s, .N v l r, x => .N v l (put s r x)
def set (t : Tr α) (s : S) (x : α) : Tr α := put s t (some x)
def del (t : Tr α) (s : S) : Tr α := put s t none
def ofL : S → List α → Tr α → Tr α
  | _, [], t => t
  | i, x :: xs, t => ofL i.succ xs (t.set i x)
end Tr

/-- operands -/
inductive Opd where
  | t (s : S)
  | c (v : AV)
  deriving Inhabited

/-- the kinds of a struct's fields that are compared -/
inductive FK where
  | b | i | s
  deriving Inhabited, DecidableEq
inductive EqK where
  | bool | ptr | slice | map | func
  | agg (ks : List FK)
  deriving Inhabited, DecidableEq

/-- operations that need no memory -/
inductive POp where
  | mv (x : Opd)
  | pick (c a b : Opd)
  | bin (op : BinOp) (x y : Opd)
  | eql (k : EqK) (ng : Bool) (x y : Opd)
  | bad
  | not (x : Opd)
  | neg (x : Opd)
  | conv (k : IntKind) (x : Opd)
  | nilck (x : Opd)
  | fieldA (off : Nat) (x : Opd)
  | indexA (size : Nat) (x i : Opd)
  | indexArr (n size : Nat) (x i : Opd)
  | index (n size : Nat) (isAgg : Bool) (x i : Opd)
  | indexS (x i : Opd)
  | field (off size : Nat) (isAgg : Bool) (x : Opd)
  | build (z : List AV) (parts : List (Nat × Nat × Opd))
  | mkfn (f : Nat) (first capt : List Opd)
  | ext (i : Nat) (x : Opd)
  | len (str : Bool) (x : Opd)
  | lenA (n : Nat)
  | cap (x : Opd)
  | slice (size : Nat) (x : Opd) (lo hi mx : Option Opd)
  | sliceS (x : Opd) (lo hi : Option Opd)
  | mki (t : Nat) (x : Opd)
  | max (x : Opd) (xs : List Opd)
  | min (x : Opd) (xs : List Opd)
  deriving Inhabited

/-- operations that only read memory -/
inductive ROp where
  | load1 (x : Opd)
  | loadN (n : Nat) (x : Opd)
  | lookup (ks : Bool) (z : AV) (x k : Opd) (ok : Bool)
  | lenM (x : Opd)
  | b2s (x : Opd)
  | sliceA (n size : Nat) (x : Opd) (lo hi mx : Option Opd)
  deriving Inhabited

/-- operations that make memory -/
inductive LOp where
  | alloc (z : List AV)
  | box (x : Opd)
  | bslice (n size : Nat) (z : List AV) (parts : List (Nat × Nat × Opd))
  | mkslice (size bytes : Nat) (z : List AV) (l c : Opd)
  | mkmap
  | s2b (x : Opd)
  deriving Inhabited

/-- operations that write memory -/
inductive EOp where
  | store (n : Nat) (a x : Opd)
  | append (size bytes : Nat) (x y : Opd)
  | appendz (size bytes : Nat) (z : List AV) (x n : Opd)
  | copy (size : Nat) (x y : Opd)
  | mapset (ks : Bool) (m k v : Opd)
  | mapent (ks : Bool) (z : AV) (m k : Opd)
  | entset (m s v : Opd)
  | delete (ks : Bool) (m k : Opd)
  | clear (z : List AV) (x : Opd)
  deriving Inhabited

inductive Act1 where
  | p (o : POp)
  | r (o : ROp)
  | a (o : LOp)
  | e (o : EOp)
  | call (f : Nat) (args : List Opd)
  | callv (f : Opd) (args : List Opd)
  deriving Inhabited

structure Ins where
  dst : Option S
  guard : Option (S × Bool)
  act : Act1
  deriving Inhabited

inductive C where
  | skip
  | ret
  | exit (id : Nat)
  | seq (a b : C)
  | cond (c : Opd) (a b : C)
  | block (id : Nat) (c : C)
  | loop (c : C)
  | reg (ops : List Ins)
  | dreg (ops : List Ins) (chk : List (Ins × List Nat))
  | rfunc (f : Opd) (params : List S) (asg body : C)
  deriving Inhabited

structure Cd where
  n : Nat                         -- so many slots
  res : List (S × Option Nat)     -- a slot; 'some n': it leads to a cell (n = 0) or an aggregate of n cells
  body : C
  deriving Inhabited
inductive Ob where
  | cells (c : List AV)
  | map (es : List (AV × AV × Nat)) (clock : Nat)
  | loop (st : LoopState) (pend : Option C) (env : Tr AV) (params : List S) (asg body : C)
  deriving Inhabited

abbrev Hp := Tr Ob
abbrev Env := Tr AV
def undefA : AV := .tup []
def at_ (e : Env) (s : S) : AV := match e.get s with
  | some v => v
  | none => undefA
def Opd.ev (e : Env) : Opd → AV
  | .t s => at_ e s
  | .c v => v
def Opd.evo (e : Env) : Option Opd → Option AV
  | none => none
  | some o => some (o.ev e)
def evL (e : Env) : List Opd → List AV
  | [] => []
  | o :: os => o.ev e :: evL e os
def AV.cells : AV → List AV
  | .agg cs => cs
  | v => [v]
/-- the value of one cell -/
def AV.one : AV → Bool
  | .agg _ => false
  | .tup _ => false
  | _ => true

/-- equality of two cells, as far as it is told here -/
def eqS : FK → AV → AV → Option Bool
  | .b, .bool a, .bool b => some (a == b)
  | .i, .int k a, .int k' b => if k = k' then some (a == b) else none
  | .s, .str a, .str b => some (a == b)
  | _, _, _ => none
def eqL : List FK → List AV → List AV → Option Bool
  | [], [], [] => some true
  | k :: ks, x :: xs, y :: ys => match eqS k x y, eqL ks xs ys with
    | some a, some b => some (a && b)
    | _, _ => none
  | _, _, _ => none
def eqA : EqK → AV → AV → Option Bool
  | .bool, .bool a, .bool b => some (a == b)
  | .ptr, .nilptr, .nilptr => some true
  | .ptr, .nilptr, .ptr _ _ => some false
  | .ptr, .ptr _ _, .nilptr => some false
  | .slice, .nilslice, .nilslice => some true
  | .slice, .nilslice, .slice .. => some false
  | .slice, .slice .., .nilslice => some false
  | .map, .nilmap, .nilmap => some true
  | .map, .nilmap, .map _ => some false
  | .map, .map _, .nilmap => some false
  | .func, .nilfunc, .nilfunc => some true
  | .func, .nilfunc, .func .. => some false
  | .func, .func .., .nilfunc => some false
  | .agg ks, .agg xs, .agg ys => eqL ks xs ys
  | _, _, _ => none

mutual
def AV.same : AV → AV → Bool
  | .bool a, .bool b => a == b
  | .int k a, .int k' b => decide (k = k') && (a == b)
  | .str a, .str b => a == b
  | .ptr a b, .ptr c d => a.beq c && b.beq d
  | .nilptr, .nilptr => true
  | .slice y a b c d, .slice z e f g h => y.beq z && a.beq e && b.beq f && c.beq g && decide (d = h)
  | .nilslice, .nilslice => true
  | .map a, .map b => a.beq b
  | .nilmap, .nilmap => true
  | .func f a b, .func g c d => f.beq g && sameL a c && sameL b d
  | .yield a, .yield b => a.beq b
  | .nilfunc, .nilfunc => true
  | .iface t a, .iface u b => t.beq u && a.same b
  | .niliface, .niliface => true
  | .agg a, .agg b => sameL a b
  | .tup a, .tup b => sameL a b
  | _, _ => false
def sameL : List AV → List AV → Bool
  | [], [] => true
  | a :: al, b :: bl => a.same b && sameL al bl
  | _, _ => false
end

def intBin (op : BinOp) (k : IntKind) (x y : Int) : Option AV :=
  match op with
  | .add => some (.int k (k.wrap (x + y)))
  | .sub => some (.int k (k.wrap (x - y)))
  | .mul => some (.int k (k.wrap (x * y)))
  | .quo => if y = 0 then none else some (.int k (k.wrap (x.tdiv y)))
  | .rem => if y = 0 then none else some (.int k (x.tmod y))
  | .and => some (.int k (k.wrap ((BitVec.ofInt k.bits x) &&& (BitVec.ofInt k.bits y)).toNat))
  | .or => some (.int k (k.wrap ((BitVec.ofInt k.bits x) ||| (BitVec.ofInt k.bits y)).toNat))
  | .xor => some (.int k (k.wrap ((BitVec.ofInt k.bits x) ^^^ (BitVec.ofInt k.bits y)).toNat))
  | .andNot => some (.int k (k.wrap ((BitVec.ofInt k.bits x) &&& ~~~(BitVec.ofInt k.bits y)).toNat))
  | .eql => some (.bool (x == y))
  | .neq => some (.bool (x != y))
  | .lss => some (.bool (decide (x < y)))
  | .leq => some (.bool (decide (x ≤ y)))
  | .gtr => some (.bool (decide (x > y)))
  | .geq => some (.bool (decide (x ≥ y)))
  | .shl => none
  | .shr => none
def strBin (op : BinOp) (x y : ByteArray) : Option AV :=
  match op with
  | .add => if x.size + y.size < 2 ^ 62 then some (.str (x ++ y)) else none
  | .eql => some (.bool (x.toList == y.toList))
  | .neq => some (.bool !(x.toList == y.toList))
  | .lss => some (.bool (Op.bytesLess x.toList y.toList))
  | .leq => some (.bool (Op.bytesLess x.toList y.toList || x.toList == y.toList))
  | .gtr => some (.bool !(Op.bytesLess x.toList y.toList || x.toList == y.toList))
  | .geq => some (.bool !(Op.bytesLess x.toList y.toList))
  | _ => none
def shiftA (left : Bool) (k : IntKind) (x y : Int) : Option AV :=
  if y < 0 then none else
  if left then some (.int k (k.wrap (x * 2 ^ (min y.toNat k.bits)))) else some (.int k (x.fdiv (2 ^ (min y.toNat k.bits))))
def binA (op : BinOp) (x y : AV) : Option AV :=
  match x, y with
  | .int k a, .int k' b =>
    match op with
    | .shl => shiftA true k a b
    | .shr => shiftA false k a b
    | op => if k = k' then intBin op k a b else none
  | .str a, .str b => strBin op a b
  | _, _ => none

def putL (z : List AV) (off : Nat) : List AV → List AV
  | [] => z
  | c :: cs => putL (z.set off c) (off + 1) cs
def fillA (e : Env) : List (Nat × Nat × Opd) → List AV → Option (List AV)
  | [], z => some z
  | (off, size, x) :: rest, z =>
    if (x.ev e).cells.length = size ∧ off + size ≤ z.length then fillA e rest (putL z off (x.ev e).cells) else none
def numA (v : Option AV) (d : Nat) : Option Nat := match v with
  | none => some d
  | some (.int _ i) => if 0 ≤ i then some i.toNat else none
  | some _ => none
def capLo : Cap → Nat
  | .exact c => c
  | .upto lb => lb
def capIs : Cap → Option Nat
  | .exact c => some c
  | .upto _ => none
/-- low, high and limit (where one is known) of a slice expression -/
def boundsA (n : Nat) (c : Cap) (lo hi mx : Option AV) : Option (Nat × Nat × Option Nat) :=
  match numA hi n, numA lo 0 with
  | some h, some l =>
    if l ≤ h then
      match mx with
      | none => if h ≤ capLo c then some (l, h, capIs c) else none
      | some mx => match numA (some mx) 0 with
        | some m => if h ≤ m ∧ m ≤ capLo c ∧ hi.isSome then some (l, h, some m) else none
        | none => none
    else none
  | _, _ => none
def capAt (c : Cap) (l : Nat) : Option Nat → Cap
  | some m => .exact (m - l)
  | none => match c with
    | .exact c => .exact (c - l)
    | .upto lb => .upto (lb - l)
def partA (isAgg : Bool) (cs : List AV) (off size : Nat) : Option AV :=
  if isAgg then some (.agg ((cs.drop off).take size)) else cs[off]?
def maxI : List AV → IntKind → Int → Option AV
  | [], k, a => some (.int k a)
  | .int _ b :: r, k, a => maxI r k (if b > a then b else a)
  | _ :: _, _, _ => none
def minI : List AV → IntKind → Int → Option AV
  | [], k, a => some (.int k a)
  | .int _ b :: r, k, a => minI r k (if b < a then b else a)
  | _ :: _, _, _ => none

def POp.run (e : Env) : POp → Option AV
  | .mv x => some (x.ev e)
  | .pick c a b => match c.ev e with
    | .bool true => some (a.ev e)
    | .bool false => some (b.ev e)
    | _ => none
  | .bin op x y => binA op (x.ev e) (y.ev e)
  | .eql k ng x y => match eqA k (x.ev e) (y.ev e) with
    | some b => some (.bool (if ng then !b else b))
    | none => none
  | .bad => none
  | .not x => match x.ev e with
    | .bool b => some (.bool !b)
    | _ => none
  | .neg x => match x.ev e with
    | .int k n => some (.int k (k.wrap (0 - n)))
    | _ => none
  | .conv k x => match x.ev e with
    | .int _ n => some (.int k (k.wrap n))
    | _ => none
  | .nilck x => match x.ev e with
    | .ptr b o => some (.ptr b o)
    | .func f a c => some (.func f a c)
    | .yield l => some (.yield l)
    | _ => none
  | .fieldA off x => match x.ev e with
    | .ptr b o => some (.ptr b (o + off))
    | _ => none
  | .indexA size x i => match x.ev e, i.ev e with
    | .slice z b o n _, .int _ i => if 0 ≤ i ∧ i < n ∧ z = size then some (.ptr b (o + i.toNat * size)) else none
    | _, _ => none
  | .indexArr n size x i => match x.ev e, i.ev e with
    | .ptr b o, .int _ i => if 0 ≤ i ∧ i < n then some (.ptr b (o + i.toNat * size)) else none
    | _, _ => none
  | .index n size isAgg x i => match x.ev e, i.ev e with
    | .agg cs, .int _ i => if 0 ≤ i ∧ i < n then partA isAgg cs (i.toNat * size) size else none
    | _, _ => none
  | .indexS x i => match x.ev e, i.ev e with
    | .str s, .int _ i => if 0 ≤ i then match s[i.toNat]? with
        | some b => some (.int .u8 b.toNat)
        | none => none
      else none
    | _, _ => none
  | .field off size isAgg x => match x.ev e with
    | .agg cs => partA isAgg cs off size
    | _ => none
  | .build z parts => match fillA e parts z with
    | some cs => some (.agg cs)
    | none => none
  | .mkfn f first capt => some (.func f (evL e first) (evL e capt))
  | .ext i x => match x.ev e with
    | .tup vs => vs[i]?
    | _ => none
  | .len true x => match x.ev e with
    | .str s => some (.int .i64 s.size)
    | _ => none
  | .len false x => match x.ev e with
    | .slice _ _ _ n _ => some (.int .i64 n)
    | .nilslice => some (.int .i64 0)
    | _ => none
  | .lenA n => some (.int .i64 n)
  | .cap x => match x.ev e with
    | .slice _ _ _ _ (.exact c) => some (.int .i64 c)
    | .nilslice => some (.int .i64 0)
    | _ => none
  | .slice size x lo hi mx => match x.ev e with
    | .slice z b o n c => if z = size then match boundsA n c (Opd.evo e lo) (Opd.evo e hi) (Opd.evo e mx) with
        | some (l, h, m) => some (.slice z b (o + l * size) (h - l) (capAt c l m))
        | none => none
      else none
    | .nilslice => match boundsA 0 (.exact 0) (Opd.evo e lo) (Opd.evo e hi) (Opd.evo e mx) with
      | some _ => some .nilslice
      | none => none
    | _ => none
  | .sliceS x lo hi => match x.ev e with
    | .str s => match boundsA s.size (.exact s.size) (Opd.evo e lo) (Opd.evo e hi) none with
      | some (l, h, _) => some (.str (s.extract l h))
      | none => none
    | _ => none
  | .mki t x => some (.iface t (x.ev e))
  | .max x xs => match x.ev e with
    | .int k a => maxI (evL e xs) k a
    | _ => none
  | .min x xs => match x.ev e with
    | .int k a => minI (evL e xs) k a
    | _ => none

def keyEq : AV → AV → Option Bool
  | .int k a, .int k' b => if k = k' then some (a == b) else none
  | .str a, .str b => some (a == b)
  | _, _ => none
/-- a key of the kind: a string, or a whole number -/
def keyOk : Bool → AV → Bool
  | true, .str _ => true
  | false, .int _ _ => true
  | _, _ => false
def findE (k : AV) : List (AV × AV × Nat) → Nat → Option (Option (Nat × AV × Nat))
  | [], _ => some none
  | (k', v, s) :: es, i => match keyEq k k' with
    | some true => some (some (i, v, s))
    | some false => findE k es (i + 1)
    | none => none
def cellsOf (h : Hp) (b : S) : Option (List AV) := match h.get b with
  | some (.cells c) => some c
  | _ => none
/-- n cells from o on, if they are all there -/
def rowOf (c : List AV) (o n : Nat) : Option (List AV) := if o + n ≤ c.length then some ((c.drop o).take n) else none
def bytesOf : List AV → Option (List UInt8)
  | [] => some []
  | .int .u8 n :: r => match bytesOf r with
    | some l => some (UInt8.ofNat n.toNat :: l)
    | none => none
  | _ :: _ => none
def ROp.run (e : Env) (h : Hp) : ROp → Option AV
  | .load1 x => match x.ev e with
    | .ptr b o => match cellsOf h b with
      | some c => c[o]?
      | none => none
    | _ => none
  | .loadN n x => match x.ev e with
    | .ptr b o => match cellsOf h b with
      | some c => match rowOf c o n with
        | some cs => some (.agg cs)
        | none => none
      | none => none
    | _ => none
  | .lookup ks z x k ok => if keyOk ks (k.ev e) then match x.ev e with
    | .nilmap => some (if ok then .tup [z, .bool false] else z)
    | .map b => match h.get b with
      | some (.map es _) => match findE (k.ev e) es 0 with
        | some (some (_, v, _)) => some (if ok then .tup [v, .bool true] else v)
        | some none => some (if ok then .tup [z, .bool false] else z)
        | none => none
      | _ => none
    | _ => none
    else none
  | .lenM x => match x.ev e with
    | .map b => match h.get b with
      | some (.map es _) => some (.int .i64 es.length)
      | _ => none
    | .nilmap => some (.int .i64 0)
    | _ => none
  | .b2s x => match x.ev e with
    | .nilslice => some (.str ByteArray.empty)
    | .slice z b o n _ => if z = 1 then match cellsOf h b with
        | some c => match rowOf c o n with
          | some l => match bytesOf l with
            | some l => some (.str ⟨l.toArray⟩)
            | none => none
          | none => none
        | none => none
      else none
    | _ => none
  | .sliceA n size x lo hi mx => match x.ev e with
    | .ptr b o => match cellsOf h b with
      | some c => if o + n * size ≤ c.length then match boundsA n (.exact n) (Opd.evo e lo) (Opd.evo e hi) (Opd.evo e mx) with
          | some (l, hh, m) => some (.slice size b (o + l * size) (hh - l) (capAt (.exact n) l m))
          | none => none
        else none
      | none => none
    | _ => none
def repL (z : List AV) : Nat → List AV
  | 0 => []
  | n + 1 => z ++ repL z n
def LOp.run (e : Env) (id : S) : LOp → Option (AV × Ob)
  | .alloc z => some (.ptr id 0, .cells z)
  | .box x => some (.ptr id 0, .cells (x.ev e).cells)
  | .bslice n size z parts => match fillA e parts (repL z n) with
    | some cs => some (.slice size id 0 n (.exact n), .cells cs)
    | none => none
  | .mkslice size bytes z l c => match l.ev e, c.ev e with
    | .int _ l, .int _ c => if 0 ≤ l ∧ l ≤ c ∧ c ≤ 2 ^ 30 ∧ c.toNat * bytes ≤ 2 ^ 36 then some (.slice size id 0 l.toNat (.exact c.toNat), .cells (repL z c.toNat)) else none
    | _, _ => none
  | .mkmap => some (.map id, .map [] 0)
  | .s2b x => match x.ev e with
    | .str s => if s.size = 0 then none else some (.slice 1 id 0 s.size (.upto s.size), .cells (s.data.toList.map fun b => .int .u8 b.toNat))
    | _ => none
/-- a byte -/
def isU8 : AV → Bool
  | .int .u8 _ => true
  | _ => false
def uOk1 : Option AV → AV → Bool
  | some x, v => bif isU8 x then isU8 v else true
  | none, _ => true
def uOk : List AV → List AV → Bool
  | [], _ => true
  | x :: _, ys => bif isU8 x then ys.all isU8 else true
def storeL (c : List AV) (o : Nat) : List AV → Option (List AV)
  | [] => some c
  | v :: vs => if o < c.length ∧ v.one = true ∧ uOk1 c[o]? v = true then storeL (c.set o v) (o + 1) vs else none
def elemsOf (h : Hp) (size : Nat) : AV → Option (Nat × List AV)
  | .nilslice => some (0, [])
  | .slice z b o n _ => if z = size then match cellsOf h b with
      | some c => match rowOf c o (n * size) with
        | some l => some (n, l)
        | none => none
      | none => none
    else none
  | .str s => if size = 1 then some (s.size, s.data.toList.map fun b => .int .u8 b.toNat) else none
  | _ => none
def setAt : List (AV × AV × Nat) → Nat → AV → AV → List (AV × AV × Nat)
  | [], _, _, _ => []
  | (_, _, s) :: es, 0, k, v => (k, v, s) :: es
  | e :: es, i + 1, k, v => e :: setAt es i k v
def setStamp : List (AV × AV × Nat) → Int → AV → Option (List (AV × AV × Nat))
  | [], _, _ => none
  | (k, x, t) :: es, s, v => if (t : Int) = s then some ((k, v, t) :: es) else match setStamp es s v with
    | some r => some ((k, x, t) :: r)
    | none => none
/-- into the room that is there -/
def appendIn (z : Nat) (b : S) (o n : Nat) (c : Cap) (m : Nat) (ys : List AV) (h : Hp) : Option (AV × Hp) :=
  match cellsOf h b with
  | some t => match storeL t (o + n * z) ys with
    | some t => some (.slice z b o (n + m) c, h.set b (.cells t))
    | none => none
  | none => none
def appendA (size bytes : Nat) (x : AV) (m : Nat) (ys : List AV) (id : S) (h : Hp) : Option (AV × Hp) :=
  match x with
  | .nilslice =>
    if m = 0 then some (.nilslice, h)
    else if m ≤ 2 ^ 30 ∧ m * bytes ≤ 2 ^ 36 then some (.slice size id 0 m (.upto m), h.set id (.cells ys)) else none
  | .slice z b o n (.exact c) =>
    if z = size then
      if n + m ≤ c then
        if m = 0 then some (.slice z b o n (.exact c), h) else appendIn z b o n (.exact c) m ys h
      else if n + m ≤ 2 ^ 30 ∧ (n + m) * bytes ≤ 2 ^ 36 then
        match cellsOf h b with
        | some t => match rowOf t o (n * size) with
          | some xs => some (.slice size id 0 (n + m) (.upto (n + m)), h.set id (.cells (xs ++ ys)))
          | none => none
        | none => none
      else none
    else none
  | .slice z b o n (.upto lb) =>
    if z = size then
      if n + m ≤ lb then
        if m = 0 then some (.slice z b o n (.upto lb), h) else appendIn z b o n (.upto lb) m ys h
      else if n + m ≤ 2 ^ 30 ∧ (n + m) * bytes ≤ 2 ^ 36 ∧ ys.all AV.one = true then
        match cellsOf h b with
        | some t => if uOk t ys = true then match rowOf t o (n * size) with
            | some xs => some (.slice size id 0 (n + m) (.upto (n + m)), (h.del b).set id (.cells (xs ++ ys)))
            | none => none
          else none
        | none => none
      else none
    else none
  | _ => none
def copyA (size : Nat) (x y : AV) (h : Hp) : Option (AV × Hp) :=
  match x with
  | .nilslice => match elemsOf h size y with
    | some _ => some (.int .i64 0, h)
    | none => none
  | .slice z b o n _ => if z = size then match elemsOf h size y with
      | some (m, ys) =>
        match cellsOf h b with
        | some t => match storeL t o (ys.take (min m n * size)) with
          | some t => some (.int .i64 ((min m n : Nat) : Int), h.set b (.cells t))
          | none => none
        | none => none
      | none => none
    else none
  | _ => none
def EOp.run (e : Env) (id : S) (h : Hp) : EOp → Option (AV × Hp)
  | .store n a x => match a.ev e with
    | .ptr b o =>
      if (x.ev e).cells.length = n then
        match cellsOf h b with
        | some c => match storeL c o (x.ev e).cells with
          | some c => some (undefA, h.set b (.cells c))
          | none => none
        | none => none
      else none
    | _ => none
  | .append size bytes x y => match elemsOf h size (y.ev e) with
    | some (m, ys) => appendA size bytes (x.ev e) m ys id h
    | none => none
  | .appendz size bytes z x n => match n.ev e with
    | .int _ n => if 0 ≤ n ∧ n ≤ 2 ^ 30 ∧ n.toNat * bytes ≤ 2 ^ 36 then appendA size bytes (x.ev e) n.toNat (repL z n.toNat) id h else none
    | _ => none
  | .copy size x y => copyA size (x.ev e) (y.ev e) h
  | .mapset ks m k v => if keyOk ks (k.ev e) then match m.ev e with
    | .map b => match h.get b with
      | some (.map es cl) => match findE (k.ev e) es 0 with
        | some (some (i, _, _)) => some (undefA, h.set b (.map (setAt es i (k.ev e) (v.ev e)) cl))
        | some none => some (undefA, h.set b (.map (es ++ [(k.ev e, v.ev e, cl)]) (cl + 1)))
        | none => none
      | _ => none
    | _ => none
    else none
  | .mapent ks z m k => if keyOk ks (k.ev e) then match m.ev e with
    | .map b => match h.get b with
      | some (.map es cl) => match findE (k.ev e) es 0 with
        | some (some (i, v, s)) => some (.tup [v, .int .i64 s], h.set b (.map (setAt es i (k.ev e) v) cl))
        | some none => some (.tup [z, .int .i64 cl], h.set b (.map (es ++ [(k.ev e, z, cl)]) (cl + 1)))
        | none => none
      | _ => none
    | _ => none
    else none
  | .entset m s v => match m.ev e, s.ev e with
    | .map b, .int _ s => match h.get b with
      | some (.map es cl) => match setStamp es s (v.ev e) with
        | some es => some (undefA, h.set b (.map es cl))
        | none => none
      | _ => none
    | _, _ => none
  | .delete ks m k => if keyOk ks (k.ev e) then match m.ev e with
    | .nilmap => some (.tup [], h)
    | .map b => match h.get b with
      | some (.map es cl) => match findE (k.ev e) es 0 with
        | some (some (i, _, _)) => some (.tup [], h.set b (.map (es.eraseIdx i) cl))
        | some none => some (.tup [], h.set b (.map es cl))
        | none => none
      | _ => none
    | _ => none
    else none
  | .clear z x => match x.ev e with
    | .nilslice => some (.tup [], h)
    | .slice y b o n _ =>
      if n = 0 then some (.tup [], h) else
      if y = z.length then
        match cellsOf h b with
        | some t => match storeL t o (repL z n) with
          | some t => some (.tup [], h.set b (.cells t))
          | none => none
        | none => none
      else none
    | _ => none

inductive X where
  | norm
  | exit (id : Nat)
  | ret
  deriving DecidableEq, Inhabited
inductive R where
  | mk (x : X) (e : Env) (nx : S) (h : Hp)
  | bad
  deriving Inhabited
inductive RV where
  | mk (v : AV) (nx : S) (h : Hp)
  | bad
  deriving Inhabited
def putD (e : Env) (d : Option S) (v : AV) : Env := match d with
  | some d => e.set d v
  | none => e
def wantedA (e : Env) : Option (S × Bool) → Bool
  | none => true
  | some (s, w) => match at_ e s with
    | .bool b => b == w
    | _ => false

/-- what is called: a function, or the round of a loop over a function -/
inductive Tg where
  | fn (f : Nat)
  | rd (l : S)
  deriving Inhabited
abbrev Caller := Tg → List AV → S → Hp → RV
def callvA (call : Caller) (f : AV) (args : List AV) (nx : S) (h : Hp) : RV :=
  match f with
  | .func g first capt => call (.fn g) (first ++ args ++ capt) nx h
  | .yield l => call (.rd l) args nx h
  | _ => .bad

/-- a loop over a function: its round is the argument -/
def rangeA (call : Caller) (f : AV) (nx : S) (h : Hp) : RV :=
  match f with
  | .func g first capt => call (.fn g) (first ++ [.yield nx] ++ capt) nx.succ h
  | _ => .bad

/-- one operation: its value, the next name, the memory -/
def Act1.run (call : Caller) (a : Act1) (e : Env) (nx : S) (h : Hp) : RV :=
  match a with
  | .p o => match o.run e with
    | some v => .mk v nx h
    | none => .bad
  | .r o => match o.run e h with
    | some v => .mk v nx h
    | none => .bad
  | .a o => match o.run e nx with
    | some (v, ob) => .mk v nx.succ (h.set nx ob)
    | none => .bad
  | .e o => match o.run e nx h with
    | some (v, h) => .mk v nx.succ h
    | none => .bad
  | .call f args => call (.fn f) (evL e args) nx h
  | .callv f args => callvA call (f.ev e) (evL e args) nx h

def runOps (call : Caller) : List Ins → Env → S → Hp → R
  | [], e, nx, h => .mk .norm e nx h
  | i :: is, e, nx, h =>
    match wantedA e i.guard with
    | false => runOps call is (putD e i.dst undefA) nx h
    | true => match i.act.run call e nx h with
      | .mk v nx h => runOps call is (putD e i.dst v) nx h
      | .bad => .bad

def isEff : Act1 → Bool
  | .e _ => true
  | .call _ _ => true
  | .callv _ _ => true
  | _ => false
/-- the memories in front of each effect of a region, and behind the last one -/
def snaps (call : Caller) : List Ins → Env → S → Hp → List Hp
  | [], _, _, h => [h]
  | i :: is, e, nx, h =>
    let rest := match wantedA e i.guard with
      | false => snaps call is (putD e i.dst undefA) nx h
      | true => match i.act.run call e nx h with
        | .mk v nx h => snaps call is (putD e i.dst v) nx h
        | .bad => []
    if isEff i.act then h :: rest else rest
/-- a load that may stand elsewhere reads the same there -/
def chkOk (e : Env) (hs : List Hp) : List (Ins × List Nat) → Bool
  | [] => true
  | (i, js) :: rest =>
    (match wantedA e i.guard with
     | false => true
     | true => match i.act, i.dst with
       | .r o, some d => js.all fun j => match hs[j]? with
         | some h => match o.run e h with
           | some v => v.same (at_ e d)
           | none => false
         | none => false
       | _, _ => false) && chkOk e hs rest

def loopN (f : Env → S → Hp → R) : Nat → Env → S → Hp → R
  | 0, _, _, _ => .bad
  | n + 1, e, nx, h => match f e nx h with
    | .mk .norm e nx h => loopN f n e nx h
    | r => r

def evalC (call : Caller) (fuel : Nat) : C → Env → S → Hp → R
  | .skip, e, nx, h => .mk .norm e nx h
  | .ret, e, nx, h => .mk .ret e nx h
  | .exit id, e, nx, h => .mk (.exit id) e nx h
  | .seq a b, e, nx, h => match evalC call fuel a e nx h with
    | .mk .norm e nx h => evalC call fuel b e nx h
    | r => r
  | .cond c a b, e, nx, h => match c.ev e with
    | .bool true => evalC call fuel a e nx h
    | .bool false => evalC call fuel b e nx h
    | _ => .bad
  | .block id c, e, nx, h => match evalC call fuel c e nx h with
    | .mk (.exit id') e nx h => if id' = id then .mk .norm e nx h else .mk (.exit id') e nx h
    | r => r
  | .loop c, e, nx, h => loopN (fun e nx h => evalC call fuel c e nx h) fuel e nx h
  | .reg ops, e, nx, h => runOps call ops e nx h
  | .dreg ops chk, e, nx, h => match runOps call ops e nx h with
    | .mk x e' nx' h' => if chkOk e' (snaps call ops e nx h) chk then .mk x e' nx' h' else .bad
    | .bad => .bad
  | .rfunc f params asg body, e, nx, h =>
    match rangeA call (f.ev e) nx (h.set nx (.loop .ready none e params asg body)) with
    | .mk _ nx' h' => match h'.get nx with
      | some (.loop st pend e' ps ag bd) =>
        if st = .busy then .bad else
        match pend with
        | none => .mk .norm e nx' (h'.set nx (.loop .exhausted none e' ps ag bd))
        | some .ret => .mk .ret e nx' (h'.set nx (.loop .exhausted (some .ret) e' ps ag bd))
        | some (.exit id) => .mk (.exit id) e nx' (h'.set nx (.loop .exhausted (some (.exit id)) e' ps ag bd))
        | some _ => .bad
      | _ => .bad
    | .bad => .bad
def putArgs (e : Env) : List S → List AV → Option Env
  | [], [] => some e
  | p :: ps, a :: al => putArgs (e.set p a) ps al
  | _, _ => none
def resOf (e : Env) (h : Hp) : List (S × Option Nat) → Option (List AV)
  | [] => some []
  | (s, none) :: r => match resOf e h r with
    | some vs => some (at_ e s :: vs)
    | none => none
  | (s, some n) :: r =>
    match (if n = 0 then ROp.run e h (.load1 (.t s)) else ROp.run e h (.loadN n (.t s))), resOf e h r with
    | some v, some vs => some (v :: vs)
    | _, _ => none
def tupOf : List AV → AV
  | [v] => v
  | vs => .tup vs
/-- slices.Insert into the midst of a slice: what it comes to, whether there is room or not -/
def insertA (size bytes : Nat) (args : List AV) (nx : S) (h : Hp) : RV :=
  match args with
  | [.slice z b 0 n c, .int .i64 i, .slice z' b' o' m c'] => match elemsOf h size (.slice z b 0 n c), elemsOf h size (.slice z' b' o' m c') with
    | some (n, xs), some (m, ys) =>
      if 0 ≤ i ∧ i < n ∧ 0 < m ∧ b.beq b' = false ∧ n + m ≤ 2 ^ 30 ∧ (n + m) * bytes ≤ 2 ^ 36 then
        .mk (.slice size nx 0 (n + m) (.upto (n + m))) nx.succ
          ((h.del b).set nx (.cells (xs.take (i.toNat * size) ++ ys ++ xs.drop (i.toNat * size))))
      else .bad
    | _, _ => .bad
  | _ => .bad
def roundA (ev : C → Env → S → Hp → R) (l : S) (args : List AV) (nx : S) (h : Hp) : RV :=
  match h.get l with
  | some (.loop .ready _ e ps ag bd1) => match putArgs e ps args with
    | some e => match ev ag e nx h with
      | .mk .norm e nx h => match h.get l with
        | some (.loop .ready pd e0 ps ag bd) => match ev bd1 e nx (h.set l (.loop .busy pd e0 ps ag bd)) with
          | .mk x _ nx h => match h.get l with
            | some (.loop _ _ e0 ps ag bd) => match x with
              | .norm => .mk (.bool true) nx (h.set l (.loop .ready none e0 ps ag bd))
              | .ret => .mk (.bool false) nx (h.set l (.loop .done (some .ret) e0 ps ag bd))
              | .exit id => .mk (.bool false) nx (h.set l (.loop .done (some (.exit id)) e0 ps ag bd))
            | _ => .bad
          | .bad => .bad
        | _ => .bad
      | _ => .bad
    | none => .bad
  | _ => .bad
def bodyA (ev : C → Env → S → Hp → R) (fn : Cd) (args : List AV) (nx : S) (h : Hp) : RV :=
  match args.length.ble fn.n with
  | false => .bad
  | true => match ev fn.body (Tr.ofL .o args .E) nx h with
    | .mk (.exit _) _ _ _ => .bad
    | .mk _ e nx h => match resOf e h fn.res with
      | some vs => .mk (tupOf vs) nx h
      | none => .bad
    | .bad => .bad
/-- a function: its code; or what is known of some calls, and the code for all others -/
inductive Fun where
  | code (c : Cd)
  | pre (g : List AV → S → Hp → RV) (c : Cd)
  deriving Inhabited
def callN (prog : Nat → Option Fun) : Nat → Caller
  | 0 => fun _ _ _ _ => .bad
  | n + 1 => fun t args nx h => match t with
    | .rd l => roundA (evalC (callN prog n) n) l args nx h
    | .fn f => match prog f with
      | some (.pre g fn) => match g args nx h with
        | .mk v nx h => .mk v nx h
        | .bad => bodyA (evalC (callN prog n) n) fn args nx h
      | some (.code fn) => bodyA (evalC (callN prog n) n) fn args nx h
      | none => .bad
end Go.Ab
/- From the model's code to the code of the abstract evaluator. -/
namespace Go.Ab
open Go

/-- a constant of the text -/
def toAV : Value → Option AV
  | .bool b => some (.bool b)
  | .int k n => some (.int k n)
  | .string s => some (.str s)
  | .pointer none => some .nilptr
  | .slice none 0 0 => some .nilslice
  | .map none => some .nilmap
  | .nilFunc => some .nilfunc
  | .nilIface => some .niliface
  | _ => none
def toAVL : List Value → Option (List AV)
  | [] => some []
  | v :: vs => match toAV v, toAVL vs with
    | some a, some l => some (a :: l)
    | _, _ => none
def toAVA : Value → Option AV
  | .agg cs => match toAVL cs.toList with
    | some l => some (.agg l)
    | none => none
  | v => toAV v
def cOpd : Operand → Option Opd
  | .tmp t => some (.t (S.ofNat t))
  | .const v => match toAVA v with
    | some a => some (.c a)
    | none => none
  | .global _ => none
  | .func f => some (.c (.func f [] []))
def cOpds : List Operand → Option (List Opd)
  | [] => some []
  | o :: os => match cOpd o, cOpds os with
    | some a, some l => some (a :: l)
    | _, _ => none
def cOpdO : Option Operand → Option (Option Opd)
  | none => some none
  | some o => match cOpd o with
    | some a => some (some a)
    | none => none
/-- the zero value of a type: its cells -/
def zeroA (P : Program) (t : TypeId) : Option (List AV) :=
  match P.info? t with
  | some i => match i.zero with
    | some z => toAVL z.cells.toList
    | none => none
  | none => none
def zeroV (P : Program) (t : TypeId) : Option AV :=
  match P.info? t with
  | some i => match i.zero with
    | some z => toAVA z
    | none => none
  | none => none
def isAggT (P : Program) (t : TypeId) : Option Bool :=
  match P.underlying t with
  | some (.struct _) => some true
  | some (.array _ _) => some true
  | some _ => some false
  | none => none
def sizeT (P : Program) (t : TypeId) : Option Nat := match P.info? t with
  | some i => some i.size
  | none => none
def bytesT (P : Program) (t : TypeId) : Option Nat := match P.info? t with
  | some i => some i.bytes
  | none => none
/-- a struct of whole numbers, strings and bools, none of them blank: its fields lie one behind the other -/
def flatF (P : Program) : Nat → List Field → Option (List FK)
  | _, [] => some []
  | off, f :: fs => if f.name != "_" && f.offset == off then
      match P.underlying f.type, flatF P (off + 1) fs with
      | some .bool, some l => some (.b :: l)
      | some (.int _), some l => some (.i :: l)
      | some .string, some l => some (.s :: l)
      | _, _ => none
    else none
def eqKOf (P : Program) (t : TypeId) : Option (Option EqK) :=
  match P.underlying t with
  | some .bool => some (some .bool)
  | some (.pointer _) => some (some .ptr)
  | some (.slice _) => some (some .slice)
  | some (.map _ _) => some (some .map)
  | some (.func _ _ _) => some (some .func)
  | some (.struct fs) => if !P.stoodInHeld t && !P.eqGuardType P.depth t then match flatF P 0 fs.toList with
      | some ks => some (some (.agg ks))
      | none => none
    else none
  | some (.int _) => some none
  | some .string => some none
  | _ => none
def cParts (place : Nat → Option (Nat × Nat)) : List (Nat × Operand) → Option (List (Nat × Nat × Opd))
  | [] => some []
  | (i, x) :: r => match place i, cOpd x, cParts place r with
    | some (off, sz), some x, some l => some ((off, sz, x) :: l)
    | _, _, _ => none
def fieldPl (P : Program) (fs : Array Field) (i : Nat) : Option (Nat × Nat) :=
  match fs[i]? with
  | some f => match sizeT P f.type with
    | some s => some (f.offset, s)
    | none => none
  | none => none
/-- all fields of a struct have a size -/
def sizedF (P : Program) : List Field → Bool
  | [] => true
  | f :: fs => (sizeT P f.type).isSome && sizedF P fs
def c1 (x : Operand) (f : Opd → Act1) : Option Act1 := match cOpd x with
  | some x => some (f x)
  | none => none
def c2 (x y : Operand) (f : Opd → Opd → Act1) : Option Act1 := match cOpd x, cOpd y with
  | some x, some y => some (f x y)
  | _, _ => none
def c3 (x y z : Operand) (f : Opd → Opd → Opd → Act1) : Option Act1 := match cOpd x, cOpd y, cOpd z with
  | some x, some y, some z => some (f x y z)
  | _, _, _ => none
/-- the kind of a map's keys -/
def keyK (P : Program) (t : TypeId) : Option Bool := match P.underlying t with
  | some .string => some true
  | some (.int _) => some false
  | _ => none
def cBuiltin (P : Program) (b : Builtin) (ts : List TypeId) (xs : List Operand) : Option Act1 :=
  match b, ts, xs with
  | .len, [t], [x] => match P.underlying t with
    | some .string => c1 x fun x => .p (.len true x)
    | some (.slice _) => c1 x fun x => .p (.len false x)
    | some (.array n _) => some (.p (.lenA n))
    | some (.pointer a) => match P.underlying a with
      | some (.array n _) => some (.p (.lenA n))
      | _ => none
    | some (.map _ _) => c1 x fun x => .r (.lenM x)
    | _ => none
  | .cap, [t], [x] => match P.underlying t with
    | some (.slice _) => c1 x fun x => .p (.cap x)
    | _ => none
  | .append, [t, t'], [x, y] => match P.underlying t, P.underlying t' with
    | some (.slice el), some (.int _) => match sizeT P el, bytesT P el, zeroA P el with
      | some s, some b, some z => if z.length = s ∧ 0 < s ∧ 0 < b then c2 x y fun x y => .e (.appendz s b z x y) else none
      | _, _, _ => none
    | some (.slice el), some _ => match sizeT P el, bytesT P el, zeroA P el with
      | some s, some b, some z => if z.length = s ∧ 0 < s ∧ 0 < b then c2 x y fun x y => .e (.append s b x y) else none
      | _, _, _ => none
    | _, _ => none
  | .copy, t :: _, [x, y] => match P.underlying t with
    | some (.slice el) => match sizeT P el with
      | some s => if 0 < s then c2 x y fun x y => .e (.copy s x y) else none
      | none => none
    | _ => none
  | .max, _, x :: xs => match cOpd x, cOpds xs with
    | some x, some xs => some (.p (.max x xs))
    | _, _ => none
  | .min, _, x :: xs => match cOpd x, cOpds xs with
    | some x, some xs => some (.p (.min x xs))
    | _, _ => none
  | .delete, t :: _, [x, y] => match P.underlying t with
    | some (.map kt _) => match keyK P kt with
      | some ks => c2 x y fun x y => .e (.delete ks x y)
      | none => none
    | _ => none
  | .clear, [t], [x] => match P.underlying t with
    | some (.slice el) => match sizeT P el, zeroA P el with
      | some s, some z => if z.length = s then c1 x fun x => .e (.clear z x) else none
      | _, _ => none
    | _ => none
  | _, _, _ => none
def cOp (P : Program) (o : Op) : Option Act1 :=
  match o with
  | .move x => c1 x fun x => .p (.mv x)
  | .assign x => c1 x fun x => .p (.mv x)
  | .pick c a b => c3 c a b fun c a b => .p (.pick c a b)
  | .alloc t => match zeroA P t with
    | some z => some (.a (.alloc z))
    | none => none
  | .box _ x => c1 x fun x => .a (.box x)
  | .build t parts => match P.underlying t, zeroA P t with
    | some (.struct fs), some z => match cParts (fieldPl P fs) parts.toList with
      | some ps => if sizedF P fs.toList then some (.p (.build z ps)) else none
      | none => none
    | some (.array _ el), some z => match sizeT P el with
      | some s => match cParts (fun i => some (i * s, s)) parts.toList with
        | some ps => some (.p (.build z ps))
        | none => none
      | none => none
    | _, _ => none
  | .buildSlice t len parts => match P.underlying t with
    | some (.slice el) => match sizeT P el, zeroA P el with
      | some s, some z => match cParts (fun i => some (i * s, s)) parts.toList with
        | some ps => if len * s ≤ 2 ^ 24 ∧ z.length = s ∧ 0 < s then some (.a (.bslice len s z ps)) else none
        | none => none
      | _, _ => none
    | _ => none
  | .insert t m k v => match P.underlying t with
    | some (.map kt _) => match keyK P kt with
      | some ks => c3 m k v fun m k v => .e (.mapset ks m k v)
      | none => none
    | _ => none
  | .mapUpdate t m k v => match P.underlying t with
    | some (.map kt _) => match keyK P kt with
      | some ks => c3 m k v fun m k v => .e (.mapset ks m k v)
      | none => none
    | _ => none
  | .load t a => match isAggT P t, sizeT P t with
    | some true, some n => c1 a fun a => .r (.loadN n a)
    | some false, some _ => c1 a fun a => .r (.load1 a)
    | _, _ => none
  | .store t a x => match sizeT P t with
    | some n => c2 a x fun a x => .e (.store n a x)
    | none => none
  | .nilCheck x => c1 x fun x => .p (.nilck x)
  | .binOp .eql t x y _ => match eqKOf P t with
    | some (some k) => c2 x y fun x y => .p (.eql k false x y)
    | some none => c2 x y fun x y => .p (.bin .eql x y)
    | none => none
  | .binOp .neq t x y _ => match eqKOf P t with
    | some (some k) => c2 x y fun x y => .p (.eql k true x y)
    | some none => c2 x y fun x y => .p (.bin .neq x y)
    | none => none
  | .binOp op _ x y _ => c2 x y fun x y => .p (.bin op x y)
  | .unOp .neg _ x => c1 x fun x => .p (.neg x)
  | .unOp .not _ x => c1 x fun x => .p (.not x)
  | .convert s d x => match P.underlying s, P.underlying d with
    | some (.int _), some (.int k) => c1 x fun x => .p (.conv k x)
    | some .string, some (.slice el) => match P.underlying el with
      | some (.int .u8) => c1 x fun x => .a (.s2b x)
      | _ => none
    | some (.slice el), some .string => match P.underlying el with
      | some (.int .u8) => c1 x fun x => .r (.b2s x)
      | _ => none
    | _, _ => none
  | .makeInterface t x => match P.underlying t with
    | some (.interface _) => none
    | some _ => c1 x fun x => .p (.mki t x)
    | none => none
  | .makeFunc (.func f) a b => match cOpds a.toList, cOpds b.toList with
    | some a, some b => some (.p (.mkfn f a b))
    | _, _ => none
  | .makeMap _ none => some (.a .mkmap)
  | .makeSlice t l c => match P.underlying t with
    | some (.slice el) => match sizeT P el, bytesT P el, zeroA P el with
      | some s, some b, some z => if z.length = s ∧ 0 < s then c2 l c fun l c => .a (.mkslice s b z l c) else none
      | _, _, _ => none
    | _ => none
  | .slice t x lo hi mx => match cOpd x, cOpdO lo, cOpdO hi, cOpdO mx with
    | some x, some lo, some hi, some mx => match P.underlying t with
      | some (.array n el) => match sizeT P el with
        | some s => some (.r (.sliceA n s x lo hi mx))
        | none => none
      | some (.slice el) => match sizeT P el with
        | some s => some (.p (.slice s x lo hi mx))
        | none => none
      | some .string => match mx with
        | none => some (.p (.sliceS x lo hi))
        | some _ => none
      | _ => none
    | _, _, _, _ => none
  | .fieldAddr t x f => match P.underlying t with
    | some (.struct fs) => match fs[f]? with
      | some fd => match sizeT P fd.type with
        | some n => if n = 0 then none else c1 x fun x => .p (.fieldA fd.offset x)
        | none => none
      | none => none
    | _ => none
  | .field t x f => match P.underlying t with
    | some (.struct fs) => match fs[f]? with
      | some fd => match sizeT P fd.type, isAggT P fd.type with
        | some n, some g => c1 x fun x => .p (.field fd.offset n g x)
        | _, _ => none
      | none => none
    | _ => none
  | .indexAddr t x i => match P.underlying t with
    | some (.slice el) => match sizeT P el with
      | some n => c2 x i fun x i => .p (.indexA n x i)
      | none => none
    | some (.array m el) => match sizeT P el with
      | some n => c2 x i fun x i => .p (.indexArr m n x i)
      | none => none
    | _ => none
  | .index t x i => match P.underlying t with
    | some (.array m el) => match sizeT P el, isAggT P el with
      | some n, some g => c2 x i fun x i => .p (.index m n g x i)
      | _, _ => none
    | some .string => c2 x i fun x i => .p (.indexS x i)
    | _ => none
  | .lookup t x i ok => match P.underlying t with
    | some (.map kt el) => match zeroV P el, keyK P kt with
      | some z, some ks => c2 x i fun x i => .r (.lookup ks z x i ok)
      | _, _ => none
    | _ => none
  | .mapEntry t m k => match P.underlying t with
    | some (.map kt el) => match zeroV P el, keyK P kt with
      | some z, some ks => c2 m k fun m k => .e (.mapent ks z m k)
      | _, _ => none
    | _ => none
  | .entryStore _ m s x => c3 m s x fun m s x => .e (.entset m s x)
  | .extract t i => c1 t fun t => .p (.ext i t)
  | .call c => match c.callee with
    | .value f => match cOpds c.args.toList with
      | some args => match f with
        | .func g => some (.call g args)
        | f => c1 f fun f => .callv f args
      | none => none
    | .builtin b => cBuiltin P b c.argTypes.toList c.args.toList
    | _ => none
  | _ => none

def cAct (P : Program) (o : Op) : Act1 := match cOp P o with
  | some a => a
  | none => .p .bad
def cIns (P : Program) (N : Nat) (ops : Array Oper) (o : Oper) : Option Ins :=
  match (match o.dst with
    | none => some none
    | some d => if d < N then some (some (S.ofNat d)) else none : Option (Option S)),
    (match o.guard with
    | none => some none
    | some (j, w) => match (ops[j]?).bind (·.dst) with
      | some d => some (some (S.ofNat d, w))
      | none => none : Option (Option (S × Bool))) with
  | some d, some g => some { dst := d, guard := g, act := cAct P o.op }
  | _, _ => none
def cInss (P : Program) (N : Nat) (ops : Array Oper) : List Oper → Option (List Ins)
  | [] => some []
  | o :: os => match cIns P N ops o, cInss P N ops os with
    | some a, some l => some (a :: l)
    | _, _ => none

/-! regions that draw their order -/

def Opd.slots : Opd → List S
  | .t s => [s]
  | .c _ => []
def slotsO : Option Opd → List S
  | some x => x.slots
  | none => []
def slotsL (l : List Opd) : List S := l.flatMap Opd.slots
def POp.slots : POp → List S
  | .mv x | .not x | .neg x | .conv _ x | .nilck x | .fieldA _ x | .field _ _ _ x | .ext _ x | .len _ x | .cap x | .mki _ x => x.slots
  | .pick a b c => a.slots ++ b.slots ++ c.slots
  | .bin _ x y | .eql _ _ x y | .indexA _ x y | .indexArr _ _ x y | .index _ _ _ x y | .indexS x y => x.slots ++ y.slots
  | .bad | .lenA _ => []
  | .build _ ps => ps.flatMap fun p => p.2.2.slots
  | .mkfn _ a b => slotsL a ++ slotsL b
  | .slice _ x a b c => x.slots ++ slotsO a ++ slotsO b ++ slotsO c
  | .sliceS x a b => x.slots ++ slotsO a ++ slotsO b
  | .max x l | .min x l => x.slots ++ slotsL l
def ROp.slots : ROp → List S
  | .load1 x | .loadN _ x | .lenM x | .b2s x => x.slots
  | .lookup _ _ x k _ => x.slots ++ k.slots
  | .sliceA _ _ x a b c => x.slots ++ slotsO a ++ slotsO b ++ slotsO c
def LOp.slots : LOp → List S
  | .alloc _ | .mkmap => []
  | .box x | .s2b x => x.slots
  | .bslice _ _ _ ps => ps.flatMap fun p => p.2.2.slots
  | .mkslice _ _ _ l c => l.slots ++ c.slots
def EOp.slots : EOp → List S
  | .store _ a x | .append _ _ a x | .appendz _ _ _ a x | .copy _ a x | .mapent _ _ a x | .delete _ a x => a.slots ++ x.slots
  | .mapset _ m k v | .entset m k v => m.slots ++ k.slots ++ v.slots
  | .clear _ x => x.slots
def Act1.slots : Act1 → List S
  | .p o => o.slots
  | .r o => o.slots
  | .a o => o.slots
  | .e o => o.slots
  | .call _ l => slotsL l
  | .callv f l => f.slots ++ slotsL l
def Ins.slots (i : Ins) : List S := (match i.guard with
  | some (s, _) => [s]
  | none => []) ++ i.act.slots
def isRd : Act1 → Bool
  | .r _ => true
  | _ => false

/-- the operations that an operation has to wait for -/
def pre (o : Oper) : List Nat := (o.after.toList.filter (Region.binds .any)).map (·.on)
/-- all that come before, as bits -/
def ancs (ops : List Oper) : List Nat :=
  (ops.foldl (fun (acc : Array Nat) o => acc.push ((pre o).foldl (fun m j => m ||| (1 <<< j) ||| (acc.getD j 0)) 0)) #[]).toList
def okAnc (ops : List Oper) (A : List Nat) : Bool :=
  (List.range ops.length).all fun i => match ops[i]?, A[i]? with
    | some o, some m => (pre o).all (fun j => decide (j < i)) &&
        (List.range ops.length).all fun j => !m.testBit j || (pre o).contains j || (pre o).any fun k => (A.getD k 0).testBit j
    | _, _ => false
/-- each slot is written once; what an operation reads is written by one that comes before, or by one that comes behind, or not at all -/
def okSlots (l : List Ins) (A : List Nat) : Bool :=
  (List.range l.length).all fun i => (List.range l.length).all fun j => match l[i]?, l[j]? with
    | some x, some y => match y.dst with
      | some d => (i == j || x.dst != some d) &&
          (!x.slots.contains d || (A.getD i 0).testBit j || (!isRd x.act && (i == j || (A.getD j 0).testBit i)))
      | none => true
    | _, _ => false
def effs (l : List Ins) : List Nat := (List.range l.length).filter fun i => match l[i]? with
  | some x => isEff x.act
  | none => false
def okChain (l : List Ins) (A : List Nat) : Bool :=
  (effs l).all fun i => (effs l).all fun j => decide (j ≤ i) || (A.getD j 0).testBit i
/-- where a load may stand, in numbers of effects that come before: c is the effect that comes next -/
def mayAt (l : List Ins) (A : List Nat) (i c : Nat) : Bool :=
  (effs l).all fun e => (!(A.getD i 0).testBit e || decide (e < c)) && (!(A.getD e 0).testBit i || decide (c ≤ e))
def likeAt (l : List Ins) (i c : Nat) : Bool := (effs l).all fun e => decide (e < i) == decide (e < c)
def places (l : List Ins) (A : List Nat) (i : Nat) : List Nat :=
  (List.range ((effs l).length + 1)).filter fun j => mayAt l A i ((effs l ++ [l.length]).getD j 0) && !likeAt l i ((effs l ++ [l.length]).getD j 0)
def checks (l : List Ins) (A : List Nat) : List (Ins × List Nat) :=
  (List.range l.length).filterMap fun i => match l[i]? with
    | some x => if isRd x.act && !(places l A i).isEmpty then some (x, places l A i) else none
    | none => none
def cDraw (P : Program) (N : Nat) (ops : Array Oper) : Option C :=
  match cInss P N ops ops.toList with
  | some l => if okAnc ops.toList (ancs ops.toList) && okSlots l (ancs ops.toList) && okChain l (ancs ops.toList) then some (.dreg l (checks l (ancs ops.toList))) else none
  | none => none

/-- no loop over a function -/
def C.noRf : C → Bool
  | .seq a b => a.noRf && b.noRf
  | .cond _ a b => a.noRf && b.noRf
  | .block _ c => c.noRf
  | .loop c => c.noRf
  | .rfunc .. => false
  | _ => true
def cCode (P : Program) (N : Nat) : Code → Option C
  | .skip => some .skip
  | .ret => some .ret
  | .exit id => some (.exit id)
  | .seq a b => match cCode P N a, cCode P N b with
    | some a, some b => some (.seq a b)
    | _, _ => none
  | .cond c a b => match cOpd c, cCode P N a, cCode P N b with
    | some c, some a, some b => some (.cond c a b)
    | _, _, _ => none
  | .block id c => match cCode P N c with
    | some c => some (.block id c)
    | none => none
  | .loop c => match cCode P N c with
    | some c => some (.loop c)
    | none => none
  | .region _ ops false => match cInss P N ops ops.toList with
    | some l => some (.reg l)
    | none => none
  | .region _ ops true => cDraw P N ops
  | .rangeFunc f ps a b => match cOpd f, cCode P N a, cCode P N b with
    | some f, some a, some b => if ps.toList.all (fun p => decide (p < N)) && a.noRf && b.noRf then some (.rfunc f (ps.toList.map S.ofNat) a b) else none
    | _, _, _ => none
  | _ => none
def cRes (P : Program) : List ResultVar → Option (List (S × Option Nat))
  | [] => some []
  | .tmp t :: r => match cRes P r with
    | some l => some ((S.ofNat t, none) :: l)
    | none => none
  | .cell a t :: r => match isAggT P t, sizeT P t, cRes P r with
    | some true, some n, some l => if n = 0 then none else some ((S.ofNat a, some n) :: l)
    | some false, some _, some l => some ((S.ofNat a, some 0) :: l)
    | _, _, _ => none
def cFn (P : Program) (f : Func) : Option Fun :=
  match f.body with
  | some b => match cCode P f.ntmps b, cRes P f.results.toList with
    | some b, some r => some (.code { n := f.ntmps, body := b, res := r })
    | _, _ => none
  | none => none
end Go.Ab
/- How the abstract values and memories stand for the model's; the operations that need no memory. -/
namespace Go.Ab
open Go

/-! paths -/
theorem S.toNat_succ (s : S) : s.succ.toNat = s.toNat + 1 := by
  induction s with
  | o => rfl
  | l s ih => simp [S.succ, S.toNat]
  | r s ih => simp only [S.succ, S.toNat, ih]; omega
theorem S.toNat_inj : ∀ {a b : S}, a.toNat = b.toNat → a = b
  | .o, .o, _ => rfl
  | .o, .l _, h => by simp [S.toNat] at h
  | .o, .r _, h => by simp [S.toNat] at h
  | .l _, .o, h => by simp [S.toNat] at h
  | .r _, .o, h => by simp [S.toNat] at h
  | .l a, .l b, h => by simp only [S.toNat] at h; rw [S.toNat_inj (a := a) (b := b) (by omega)]
  | .r a, .r b, h => by simp only [S.toNat] at h; rw [S.toNat_inj (a := a) (b := b) (by omega)]
  | .l a, .r b, h => by simp only [S.toNat] at h; omega
  | .r a, .l b, h => by simp only [S.toNat] at h; omega
theorem S.toNat_ofNatF : ∀ (f n : Nat), n < f → (S.ofNatF f n).toNat = n
  | 0, n, h => by omega
  | f + 1, n, h => by
    have e1 : n.beq 0 = decide (n = 0) := by
      rw [Bool.eq_iff_iff]; simp
    have e2 : (n.land 1).beq 1 = decide (n % 2 = 1) := by
      rw [Bool.eq_iff_iff, Nat.beq_eq, decide_eq_true_iff]
      have : n.land 1 = n % 2 := Nat.and_one_is_mod n
      rw [this]
    have e3 : n.div 2 = n / 2 := rfl
    have e4 : (n / 2).sub 1 = n / 2 - 1 := rfl
    simp only [S.ofNatF, e1, e2, e3, e4]
    by_cases h0 : n = 0
    · simp [h0, S.toNat]
    · by_cases h1 : n % 2 = 1
      · simp only [h0, h1, decide_true, decide_false, cond_true, cond_false, S.toNat]
        rw [S.toNat_ofNatF f (n / 2) (by omega)]; omega
      · simp only [h0, h1, decide_false, cond_false, S.toNat]
        rw [S.toNat_ofNatF f (n / 2 - 1) (by omega)]; omega
theorem S.toNat_ofNat (n : Nat) : (S.ofNat n).toNat = n := S.toNat_ofNatF _ _ (Nat.lt_succ_self n)
theorem S.ofNat_inj {a b : Nat} (h : S.ofNat a = S.ofNat b) : a = b := by
  have := congrArg S.toNat h
  rwa [S.toNat_ofNat, S.toNat_ofNat] at this
theorem S.ofNat_toNat (s : S) : S.ofNat s.toNat = s := S.toNat_inj (S.toNat_ofNat _)
theorem S.ofNat_succ (n : Nat) : (S.ofNat n).succ = S.ofNat (n + 1) := S.toNat_inj (by rw [S.toNat_succ, S.toNat_ofNat, S.toNat_ofNat])
theorem S.beq_eq : ∀ {a b : S}, a.beq b = true → a = b
  | .o, .o, _ => rfl
  | .l a, .l b, h => by rw [S.beq_eq (a := a) (b := b) h]
  | .r a, .r b, h => by rw [S.beq_eq (a := a) (b := b) h]
  | .o, .l _, h => by simp [S.beq] at h
  | .o, .r _, h => by simp [S.beq] at h
  | .l _, .o, h => by simp [S.beq] at h
  | .r _, .o, h => by simp [S.beq] at h
  | .l _, .r _, h => by simp [S.beq] at h
  | .r _, .l _, h => by simp [S.beq] at h

/-! tries -/
namespace Tr
variable {α : Type}
theorem get_put : ∀ (s s' : S) (t : Tr α) (x : Option α), (put s t x).get s' = if s' = s then x else t.get s'
  | .o, .o, .E, x => by simp [put, get]
  | .o, .o, .N .., x => by simp [put, get]
  | .o, .l _, .E, x => by simp [put, get]
  | .o, .l _, .N .., x => by simp [put, get]
  | .o, .r _, .E, x => by simp [put, get]
  | .o, .r _, .N .., x => by simp [put, get]
  | .l s, .o, .E, x => by simp [put, get]
  | .l s, .o, .N .., x => by simp [put, get]
  | .l s, .l s', .E, x => by simp [put, get, get_put s s']
  | .l s, .l s', .N .., x => by simp [put, get, get_put s s']
  | .l s, .r _, .E, x => by simp [put, get]
  | .l s, .r _, .N .., x => by simp [put, get]
  | .r s, .o, .E, x => by simp [put, get]
  | .r s, .o, .N .., x => by simp [put, get]
  | .r s, .r s', .E, x => by simp [put, get, get_put s s']
  | .r s, .r s', .N .., x => by simp [put, get, get_put s s']
  | .r s, .l _, .E, x => by simp [put, get]
  | .r s, .l _, .N .., x => by simp [put, get]
theorem get_set (t : Tr α) (s s' : S) (x : α) : (t.set s x).get s' = if s' = s then some x else t.get s' := get_put s s' t _
theorem get_del (t : Tr α) (s s' : S) : (t.del s).get s' = if s' = s then none else t.get s' := get_put s s' t _
theorem get_E (s : S) : (E : Tr α).get s = none := by cases s <;> rfl
end Tr

/-! values -/
/-- where the named blocks lie: the row, where they begin in it, and how many cells the row has -/
abbrev Io := S → Option (Nat × Nat × Nat)
def CapRel : Cap → Nat → Nat → Prop
  | .exact c, n, cap => cap = c ∧ n ≤ c
  | .upto lb, n, cap => n ≤ lb ∧ lb ≤ cap
mutual
def VRel (ι : Io) : AV → Value → Prop
  | .bool b, v => v = .bool b
  | .int k n, v => v = .int k n
  | .str s, v => v = .string s
  | .ptr b o, v => ∃ r p q, ι b = some (r, p, q) ∧ v = .pointer (some ⟨r, p + o, none⟩)
  | .nilptr, v => v = .pointer none
  | .slice z b o n c, v => ∃ r p q a cap, ι b = some (r, p, q) ∧ v = .slice (some a) n cap ∧ CapRel c n cap ∧ (cap = 0 ∨ (a = ⟨r, p + o, none⟩ ∧ p + o + cap * z ≤ q))
  | .nilslice, v => v = .slice none 0 0
  | .map b, v => ∃ r q, ι b = some (r, 0, q) ∧ v = .map (some r)
  | .nilmap, v => v = .map none
  | .func f a c, v => ∃ vs ws, v = .func (.func f) vs ws ∧ VRels ι a vs.toList ∧ VRels ι c ws.toList
  | .yield l, v => ∃ r q, ι l = some (r, 0, q) ∧ v = .func (.yield r) #[] #[]
  | .nilfunc, v => v = .nilFunc
  | .iface t x, v => ∃ y, v = .iface t y ∧ VRel ι x y
  | .niliface, v => v = .nilIface
  | .agg cs, v => ∃ vs, v = .agg vs ∧ VRels ι cs vs.toList
  | .tup cs, v => ∃ vs, v = .tuple vs ∧ VRels ι cs vs.toList
def VRels (ι : Io) : List AV → List Value → Prop
  | [], l => l = []
  | a :: al, l => ∃ v vs, l = v :: vs ∧ VRel ι a v ∧ VRels ι al vs
end
def Io.le (ι ι' : Io) : Prop := ∀ b x, ι b = some x → ι' b = some x
theorem Io.le_refl (ι : Io) : ι.le ι := fun _ _ h => h
theorem Io.le_trans {a b c : Io} (h : a.le b) (h' : b.le c) : a.le c := fun x y e => h' x y (h x y e)
mutual
theorem VRel.mono {ι ι' : Io} (h : ι.le ι') : ∀ {a : AV} {v : Value}, VRel ι a v → VRel ι' a v
  | .bool _, _, e => e
  | .int .., _, e => e
  | .str _, _, e => e
  | .ptr .., _, ⟨r, p, q, e, e'⟩ => ⟨r, p, q, h _ _ e, e'⟩
  | .nilptr, _, e => e
  | .slice .., _, ⟨r, p, q, a, cap, e, e'⟩ => ⟨r, p, q, a, cap, h _ _ e, e'⟩
  | .nilslice, _, e => e
  | .map _, _, ⟨r, q, e, e'⟩ => ⟨r, q, h _ _ e, e'⟩
  | .nilmap, _, e => e
  | .func .., _, ⟨vs, ws, e, e1, e2⟩ => ⟨vs, ws, e, VRels.mono h e1, VRels.mono h e2⟩
  | .yield _, _, ⟨r, q, e, e'⟩ => ⟨r, q, h _ _ e, e'⟩
  | .nilfunc, _, e => e
  | .iface .., _, ⟨y, e, e'⟩ => ⟨y, e, VRel.mono h e'⟩
  | .niliface, _, e => e
  | .agg _, _, ⟨vs, e, e'⟩ => ⟨vs, e, VRels.mono h e'⟩
  | .tup _, _, ⟨vs, e, e'⟩ => ⟨vs, e, VRels.mono h e'⟩
theorem VRels.mono {ι ι' : Io} (h : ι.le ι') : ∀ {a : List AV} {v : List Value}, VRels ι a v → VRels ι' a v
  | [], _, e => e
  | _ :: _, _, ⟨v, vs, e, e1, e2⟩ => ⟨v, vs, e, VRel.mono h e1, VRels.mono h e2⟩
end
theorem VRels.length {ι : Io} : ∀ {a : List AV} {v : List Value}, VRels ι a v → v.length = a.length
  | [], _, h => by simp [VRels] at h; simp [h]
  | _ :: al, _, ⟨v, vs, e, _, h⟩ => by subst e; simp [VRels.length h]
theorem VRels.get {ι : Io} : ∀ {a : List AV} {v : List Value} (_ : VRels ι a v) (i : Nat) (x : AV), a[i]? = some x → ∃ y, v[i]? = some y ∧ VRel ι x y
  | [], _, _, i, x, e => by simp at e
  | _ :: al, _, ⟨v, vs, e, h1, h2⟩, 0, x, e' => by subst e; simp at e' ⊢; subst e'; exact h1
  | _ :: al, _, ⟨v, vs, e, h1, h2⟩, i + 1, x, e' => by subst e; simp at e' ⊢; exact VRels.get h2 i x e'
theorem VRels.of_get {ι : Io} : ∀ {a : List AV} {v : List Value}, v.length = a.length → (∀ (i : Nat) (x : AV), a[i]? = some x → ∃ y, v[i]? = some y ∧ VRel ι x y) → VRels ι a v
  | [], v, hl, _ => by simp at hl; simp [VRels, hl]
  | x :: al, [], hl, _ => by simp at hl
  | x :: al, y :: vs, hl, h => by
    refine ⟨y, vs, rfl, ?_, VRels.of_get (by simpa using hl) fun i z e => by simpa using h (i + 1) z (by simpa using e)⟩
    obtain ⟨y', e, h0⟩ := h 0 x (by simp)
    simp at e; subst e; exact h0
theorem VRels.append {ι : Io} : ∀ {a b : List AV} {v w : List Value}, VRels ι a v → VRels ι b w → VRels ι (a ++ b) (v ++ w)
  | [], _, _, _, h, h' => by simp [VRels] at h; subst h; exact h'
  | _ :: _, _, _, _, ⟨v, vs, e, h1, h2⟩, h' => by subst e; exact ⟨v, _, rfl, h1, VRels.append h2 h'⟩
theorem VRels.drop {ι : Io} {a : List AV} {v : List Value} (h : VRels ι a v) (n : Nat) : VRels ι (a.drop n) (v.drop n) :=
  VRels.of_get (by simp [h.length]) fun i x e => by
    rw [List.getElem?_drop] at e ⊢; exact h.get _ _ e
theorem VRels.take {ι : Io} {a : List AV} {v : List Value} (h : VRels ι a v) (n : Nat) : VRels ι (a.take n) (v.take n) :=
  VRels.of_get (by simp [h.length]) fun i x e => by
    rw [List.getElem?_take] at e ⊢
    split at e
    · rename_i hi; rw [if_pos hi]; exact h.get _ _ e
    · simp at e
theorem VRels.set {ι : Io} {a : List AV} {v : List Value} (h : VRels ι a v) (n : Nat) {x : AV} {y : Value} (hx : VRel ι x y) : VRels ι (a.set n x) (v.set n y) :=
  VRels.of_get (by simp [h.length]) fun i z e => by
    rw [List.getElem?_set] at e ⊢
    split at e
    · rename_i hi
      split at e
      · rename_i hl
        rw [if_pos hi, if_pos (by rw [h.length]; exact hl)]
        simp at e; subst e; exact ⟨_, rfl, hx⟩
      · simp at e
    · rename_i hi; rw [if_neg hi]; exact h.get _ _ e

/-- of a value that is no aggregate and no tuple -/
theorem VRel.one {ι : Io} {a : AV} {v : Value} (h : VRel ι a v) (h1 : a.one = true) : v.oneCell' = true := by
  cases a <;> simp [AV.one] at h1 <;> simp only [VRel] at h <;> (try (subst h; rfl))
  · obtain ⟨_, _, _, _, rfl⟩ := h; rfl
  · obtain ⟨_, _, _, _, _, _, rfl, _⟩ := h; rfl
  · obtain ⟨_, _, _, rfl⟩ := h; rfl
  · obtain ⟨_, _, rfl, _⟩ := h; rfl
  · obtain ⟨_, _, _, rfl⟩ := h; rfl
  · obtain ⟨_, rfl, _⟩ := h; rfl
theorem VRel.cells {ι : Io} {a : AV} {v : Value} (h : VRel ι a v) : VRels ι a.cells v.cells.toList := by
  have hone : ∀ {a : AV} {v : Value}, VRel ι a v → a.cells = [a] → v.cells = #[v] → VRels ι a.cells v.cells.toList := by
    intro a v h e e'
    rw [e, e']
    exact ⟨v, [], rfl, h, rfl⟩
  cases a with
  | agg cs => obtain ⟨vs, rfl, h⟩ := h; exact h
  | bool => have h' := h; simp only [VRel] at h; subst h; exact hone h' rfl rfl
  | int => have h' := h; simp only [VRel] at h; subst h; exact hone h' rfl rfl
  | str => have h' := h; simp only [VRel] at h; subst h; exact hone h' rfl rfl
  | nilptr => have h' := h; simp only [VRel] at h; subst h; exact hone h' rfl rfl
  | nilslice => have h' := h; simp only [VRel] at h; subst h; exact hone h' rfl rfl
  | nilmap => have h' := h; simp only [VRel] at h; subst h; exact hone h' rfl rfl
  | nilfunc => have h' := h; simp only [VRel] at h; subst h; exact hone h' rfl rfl
  | niliface => have h' := h; simp only [VRel] at h; subst h; exact hone h' rfl rfl
  | ptr => have h' := h; obtain ⟨_, _, _, _, rfl⟩ := h; exact hone h' rfl rfl
  | slice => have h' := h; obtain ⟨_, _, _, _, _, _, rfl, _⟩ := h; exact hone h' rfl rfl
  | map => have h' := h; obtain ⟨_, _, _, rfl⟩ := h; exact hone h' rfl rfl
  | func => have h' := h; obtain ⟨_, _, rfl, _⟩ := h; exact hone h' rfl rfl
  | yield => have h' := h; obtain ⟨_, _, _, rfl⟩ := h; exact hone h' rfl rfl
  | iface => have h' := h; obtain ⟨_, rfl, _⟩ := h; exact hone h' rfl rfl
  | tup => have h' := h; obtain ⟨_, rfl, _⟩ := h; exact hone h' rfl rfl
theorem VRel.undef {ι : Io} : VRel ι undefA undef := ⟨#[], rfl, rfl⟩

/-! constants -/
theorem toAV_rel {ι : Io} {v : Value} {a : AV} (h : toAV v = some a) : VRel ι a v := by
  unfold toAV at h
  split at h <;> simp at h <;> subst h <;> simp [VRel]
theorem toAVL_rel {ι : Io} : ∀ {l : List Value} {a : List AV}, toAVL l = some a → VRels ι a l
  | [], a, h => by simp [toAVL] at h; subst h; simp [VRels]
  | v :: l, a, h => by
    simp only [toAVL] at h
    split at h
    · rename_i x y hx hy
      simp at h; subst h
      exact ⟨v, l, rfl, toAV_rel hx, toAVL_rel hy⟩
    · simp at h
theorem toAVA_rel {ι : Io} {v : Value} {a : AV} (h : toAVA v = some a) : VRel ι a v := by
  unfold toAVA at h
  split at h
  · rename_i cs
    split at h
    · rename_i l hl
      simp at h; subst h
      exact ⟨cs, rfl, toAVL_rel hl⟩
    · simp at h
  · exact toAV_rel h

/-! slots -/
def EnvRel (ι : Io) (e : Env) (tmps : Array Value) : Prop := ∀ t, VRel ι (at_ e (S.ofNat t)) (tmps.getD t undef)
theorem EnvRel.mono {ι ι' : Io} (h : ι.le ι') {e : Env} {tmps : Array Value} (he : EnvRel ι e tmps) : EnvRel ι' e tmps := fun t => (he t).mono h
theorem at_set (e : Env) (s s' : S) (v : AV) : at_ (e.set s v) s' = if s' = s then v else at_ e s' := by
  by_cases h : s' = s <;> simp [at_, Tr.get_set, h]
theorem EnvRel.set {ι : Io} {e : Env} {tmps : Array Value} (he : EnvRel ι e tmps) {d : Nat} (hd : d < tmps.size) {a : AV} {v : Value} (h : VRel ι a v) :
    EnvRel ι (e.set (S.ofNat d) a) (tmps.setIfInBounds d v) := by
  intro t
  rw [at_set]
  by_cases ht : t = d
  · subst ht; simpa [Array.getD, hd] using h
  · rw [if_neg (fun h => ht (S.ofNat_inj h))]
    have := he t
    have e : (tmps.setIfInBounds d v).getD t Go.undef = tmps.getD t Go.undef := by
      simp only [Array.getD_eq_getD_getElem?, Array.getElem?_setIfInBounds]; rw [if_neg (fun h => ht h.symm)]
    rwa [e]
theorem cOpd_rel {ι : Io} {e : Env} {a : Act} (he : EnvRel ι e a.tmps) {x : Operand} {y : Opd} (h : cOpd x = some y) : VRel ι (y.ev e) (a.eval x) := by
  unfold cOpd at h
  split at h
  · simp at h; subst h; exact he _
  · split at h
    · rename_i hv; simp at h; subst h; exact toAVA_rel hv
    · simp at h
  · simp at h
  · simp at h; subst h
    exact ⟨#[], #[], rfl, rfl, rfl⟩
theorem cOpds_rel {ι : Io} {e : Env} {a : Act} (he : EnvRel ι e a.tmps) : ∀ {x : List Operand} {y : List Opd}, cOpds x = some y → VRels ι (evL e y) (x.map a.eval)
  | [], y, h => by simp [cOpds] at h; subst h; rfl
  | o :: os, y, h => by
    simp only [cOpds] at h
    split at h
    · rename_i p q hp hq
      simp at h; subst h
      exact ⟨_, _, rfl, cOpd_rel he hp, cOpds_rel he hq⟩
    · simp at h
end Go.Ab
/- The operations that need no memory: the model's run gives the value that the abstract one tells. -/
namespace Go.Ab
open Go

theorem c1_some {x : Operand} {f : Opd → Act1} {y : Act1} : c1 x f = some y ↔ ∃ a, cOpd x = some a ∧ f a = y := by
  unfold c1; split <;> simp_all
theorem c2_some {x x' : Operand} {f : Opd → Opd → Act1} {y : Act1} : c2 x x' f = some y ↔ ∃ a b, cOpd x = some a ∧ cOpd x' = some b ∧ f a b = y := by
  unfold c2; split
  · simp_all
  · simp only [reduceCtorEq, false_iff]
    rintro ⟨a, b, h1, h2, _⟩
    simp_all
theorem c3_some {x x' x'' : Operand} {f : Opd → Opd → Opd → Act1} {y : Act1} :
    c3 x x' x'' f = some y ↔ ∃ a b c, cOpd x = some a ∧ cOpd x' = some b ∧ cOpd x'' = some c ∧ f a b c = y := by
  unfold c3; split
  · simp_all
  · simp only [reduceCtorEq, false_iff]
    rintro ⟨a, b, c, h1, h2, h3, _⟩
    simp_all

section
variable {P : Program} {ι : Io} {e : Env} {a : Act}

theorem run_und {t : TypeId} {d : TypeDesc} (h : P.underlying t = some d) (w : World) : (underlying t).run P w = .ok d w := by
  simp [underlying, h]
theorem run_ti {t : TypeId} {i : TypeInfo} (h : P.info? t = some i) (w : World) : (typeInfo t).run P w = .ok i w := by
  simp [typeInfo, h]
theorem sizeT_some {t : TypeId} {n : Nat} (h : sizeT P t = some n) : ∃ i, P.info? t = some i ∧ i.size = n := by
  unfold sizeT at h
  split at h
  · rename_i i hi; simp at h; exact ⟨i, hi, h⟩
  · simp at h
theorem run_size {t : TypeId} {n : Nat} (h : sizeT P t = some n) (w : World) : (sizeOf t).run P w = .ok n w := by
  obtain ⟨i, hi, rfl⟩ := sizeT_some h
  simp [sizeOf, run_ti hi]
theorem run_agg {t : TypeId} {g : Bool} (h : isAggT P t = some g) (w : World) : (isAgg t).run P w = .ok g w := by
  unfold isAggT at h
  split at h <;> simp at h <;> subst h
  · rename_i h; simp [isAgg, run_und h]
  · rename_i h; simp [isAgg, run_und h]
  · rename_i d h1 h2 h; simp only [isAgg, Sem.run_bind, run_und h, Result.andThen_ok]
    rfl
theorem run_zero {t : TypeId} {z : List AV} (h : zeroA P t = some z) (w : World) : ∃ v, (zeroValue t).run P w = .ok v w ∧ VRels ι z v.cells.toList := by
  unfold zeroA at h
  split at h
  · rename_i i hi
    split at h
    · rename_i v hv
      exact ⟨v, by simp [zeroValue, run_ti hi, hv], toAVL_rel h⟩
    · simp at h
  · simp at h
theorem run_zeroV {t : TypeId} {z : AV} (h : zeroV P t = some z) (w : World) : ∃ v, (zeroValue t).run P w = .ok v w ∧ VRel ι z v := by
  unfold zeroV at h
  split at h
  · rename_i i hi
    split at h
    · rename_i v hv
      exact ⟨v, by simp [zeroValue, run_ti hi, hv], toAVA_rel h⟩
    · simp at h
  · simp at h

/-! whole numbers and strings -/
theorem intBin_run {op : BinOp} {k : IntKind} {x y : Int} {r : AV} (h : intBin op k x y = some r) (xt : TypeId) (w : World) :
    ∃ v, (binOp op xt (.int k x) (.int k y)).run P w = .ok v w ∧ VRel ι r v := by
  cases op <;> simp only [intBin] at h
  case quo =>
    split at h
    · simp at h
    · rename_i hy; simp at h; subst h
      exact ⟨_, by simp [binOp, Op.intDiv, hy], rfl⟩
  case rem =>
    split at h
    · simp at h
    · rename_i hy; simp at h; subst h
      exact ⟨_, by simp [binOp, Op.intDiv, hy], rfl⟩
  all_goals (try (simp at h; done))
  all_goals
    simp only [Option.some.injEq] at h; subst h
    exact ⟨_, by simp [binOp, Op.intArith, Op.intBits, Op.intCmp], rfl⟩
theorem shiftA_run {left : Bool} {k k' : IntKind} {x y : Int} {r : AV} (h : shiftA left k x y = some r) (xt : TypeId) (w : World) :
    ∃ v, (binOp (if left then .shl else .shr) xt (.int k x) (.int k' y)).run P w = .ok v w ∧ VRel ι r v := by
  unfold shiftA at h
  split at h
  · simp at h
  · rename_i hy
    cases left <;> simp only [Bool.false_eq_true, if_true, if_false, Option.some.injEq] at h <;> subst h
    · exact ⟨_, by simp [binOp, Op.shift, hy], rfl⟩
    · exact ⟨_, by simp [binOp, Op.shift, hy], rfl⟩
theorem strBin_run {op : BinOp} {x y : ByteArray} {r : AV} (h : strBin op x y = some r) (xt : TypeId) (w : World) :
    ∃ v, (binOp op xt (.string x) (.string y)).run P w = .ok v w ∧ VRel ι r v := by
  cases op <;> simp only [strBin] at h
  case add =>
    split at h
    · rename_i hs; simp at h; subst h
      have : ¬ ((x.size + y.size : Nat) : Int) > IntKind.i64.max := by
        have : IntKind.i64.max = 9223372036854775807 := by decide
        rw [this]; omega
      exact ⟨_, by simp only [binOp, Op.stringOp, if_neg this]; rfl, rfl⟩
    · simp at h
  all_goals (try (simp at h; done))
  all_goals
    simp only [Option.some.injEq] at h; subst h
    exact ⟨_, by simp only [binOp, Op.stringOp]; rfl, rfl⟩
theorem binA_run {op : BinOp} {x y : AV} {r : AV} {v v' : Value} (h : binA op x y = some r) (hx : VRel ι x v) (hy : VRel ι y v') (xt : TypeId) (w : World) :
    ∃ u, (binOp op xt v v').run P w = .ok u w ∧ VRel ι r u := by
  unfold binA at h
  split at h
  · rename_i k a k' b
    simp only [VRel] at hx hy; subst hx; subst hy
    split at h
    · exact shiftA_run (left := true) h xt w
    · exact shiftA_run (left := false) h xt w
    · split at h
      · rename_i hk; subst hk; exact intBin_run h xt w
      · simp at h
  · simp only [VRel] at hx hy; subst hx; subst hy
    exact strBin_run h xt w
  · simp at h
theorem eqGuard_run {op : BinOp} {t : TypeId} {x y : Operand} {u v : Value} (h1 : ∀ a, u ≠ .agg a) (h2 : u ≠ .nilIface) (w : World) :
    (eqGuard op t x y u v).run P w = .ok () w := by
  unfold eqGuard
  cases u <;> simp at h1 h2 <;> cases op <;> simp
end
end Go.Ab
