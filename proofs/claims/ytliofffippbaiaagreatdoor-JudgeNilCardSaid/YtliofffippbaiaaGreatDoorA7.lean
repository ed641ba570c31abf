/- Short words for the texts of the program's functions and for memories. -/
import Derived.Test.YtliofffippbaiaaGreatDoorA6
namespace Go.Ab.T
open Go Go.Ab
def n (k : Nat) : S := .ofNat k
def i (k : Nat) : AV := .int .i64 (.ofNat k)
def m (k : Nat) : AV := .int .i64 (.negSucc k)
def u (k : Nat) : AV := .int .u8 (.ofNat k)
def p (b o : Nat) : AV := .ptr (.ofNat b) o
def sl (z b o k c : Nat) : AV := .slice z (.ofNat b) o k (.exact c)
def su (z b o k c : Nat) : AV := .slice z (.ofNat b) o k (.upto c)
def tt : AV := .bool true
def ff : AV := .bool false
def I (d : Nat) (a : Act1) : Ins := ⟨some (.ofNat d), none, a⟩
def J (d g : Nat) (b : Bool) (a : Act1) : Ins := ⟨some (.ofNat d), some (.ofNat g, b), a⟩
def K (a : Act1) : Ins := ⟨none, none, a⟩
def L (g : Nat) (b : Bool) (a : Act1) : Ins := ⟨none, some (.ofNat g, b), a⟩
def t (k : Nat) : Opd := .t (.ofNat k)
def c (v : AV) : Opd := .c v
def s (l : List UInt8) : AV := .str ⟨⟨l⟩⟩
/-- a memory out of its blocks -/
def hp : List (Nat × Ob) → Hp → Hp
  | [], h => h
  | (b, x) :: r, h => hp r (h.set (.ofNat b) x)
def dl : List Nat → Hp → Hp
  | [], h => h
  | b :: r, h => dl r (h.del (.ofNat b))
end Go.Ab.T
