import Derived.Calls
import Derived.Below
import Derived.LoopN
import Derived.RowKit3
import Derived.Laws.AppendOwn
import Derived.Laws.FloatArith
set_option maxHeartbeats 1000000
set_option linter.unusedVariables false
namespace Ai
open Go

/-- The one NaN. -/
def nanC : Nat := 0x7FF8000000000001
def isNan (b : Nat) : Bool := (Ieee.double.read b).isNaN
def canon (b : Nat) : Nat := bif isNan b then nanC else b

/-- Data of one cell, by value. -/
inductive D where
  | bool (b : Bool)
  | int (k : IntKind) (n : Int)
  | flt (x : Nat)
  | str (s : List UInt8)
  | nil
  | sl (els : List (List D))

inductive AV where
  | junk
  | d (x : D)
  | fp (cs : List D)
  | ref (o off n : Nat)
  | ptr (o off : Nat)
  | eptr (o j off : Nat)
  | agg (cs : List AV)
  | tup (vs : List AV)
  | fn (f : FuncId) (caps : List AV)
  | uq (e : TypeId) (sz : Nat) (els : List (List D))

inductive Ob where
  | vs (e : TypeId) (cs : List AV)
  | ds (e : TypeId) (sz : Nat) (els : List (List D))

structure St where
  τ : Nat → AV
  H : Nat → Option Ob

inductive TD where
  | bool | int (k : IntKind) | flt | str
  | slice (e : TypeId)
  | struct (fs : List (Nat × TypeId))
  | array (n : Nat) (e : TypeId)
  | other

structure TI where
  sz : Nat
  agg : Bool
  bytes : Nat
  zero : List D
  desc : TD

abbrev undefA : AV := .tup []
def put (d : Option Tmp) (v : AV) (s : St) : St := match d with | some t => { s with τ := fun i => bif Nat.beq i t then v else s.τ i } | none => s

mutual
def scr (κ : Nat) : AV → AV
  | .ref o off n => bif Nat.beq o κ then .junk else .ref o off n
  | .ptr o off => bif Nat.beq o κ then .junk else .ptr o off
  | .eptr o j off => bif Nat.beq o κ then .junk else .eptr o j off
  | .agg cs => .agg (scrL κ cs)
  | .tup vs => .tup (scrL κ vs)
  | .fn f caps => .fn f (scrL κ caps)
  | .junk => .junk
  | .d x => .d x
  | .fp cs => .fp cs
  | .uq e sz els => .uq e sz els
def scrL (κ : Nat) : List AV → List AV
  | [] => []
  | v :: vs => scr κ v :: scrL κ vs
end
def scrO (κ : Nat) : Ob → Ob
  | .vs e cs => .vs e (scrL κ cs)
  | .ds e sz els => .ds e sz els
def St.kill (κ : Nat) (s : St) : St :=
  { τ := fun i => scr κ (s.τ i), H := fun o => bif Nat.beq o κ then none else (s.H o).map (scrO κ) }
def St.setH (κ : Nat) (ob : Ob) (s : St) : St := { s with H := fun o => bif Nat.beq o κ then some ob else s.H o }
def St.new (κ : Nat) (ob : Ob) (s : St) : St := (s.kill κ).setH κ (scrO κ ob)

/-- A constant of the program's text. -/
def ofConst : Value → AV
  | .bool b => .d (.bool b)
  | .int k n => .d (.int k n)
  | .float .f64 b => .d (.flt (canon b))
  | .string s => .d (.str s.data.toList)
  | .slice none 0 0 => .d .nil
  | _ => .junk

def ev (N : Nat) (s : St) : Operand → AV
  | .tmp t => bif Nat.blt t N then s.τ t else .junk
  | .const v => ofConst v
  | .global _ => .junk
  | .func f => .fn f []

def splice {α : Type} : List α → Nat → List α → List α
  | cs, 0, xs => xs ++ cs.drop xs.length
  | c :: cs, off + 1, xs => c :: splice cs off xs
  | [], _ + 1, _ => []

def okCell : AV → Bool
  | .junk | .agg _ | .tup _ | .uq .. => false
  | _ => true
/-- The cells of a value. -/
def cellsOf : AV → Option (List AV)
  | .agg cs => bif cs.all okCell then some cs else none
  | v => bif okCell v then some [v] else none
def toD : AV → Option D
  | .d x => some x
  | _ => none
def toDs : List AV → Option (List D)
  | [] => some []
  | v :: vs => match toD v with | some x => (match toDs vs with | some xs => some (x :: xs) | none => none) | none => none

def mkVal (ti : TI) (cs : List AV) : Option AV :=
  bif ti.agg then some (.agg cs) else match cs with | [c] => some c | _ => none

/-- A value as it is seen from a callee, or by whoever it is handed to: what is the call's own is read by value. -/
def fz1 (s : St) : AV → Option D
  | .d .nil => some (.sl [])
  | .d x => some x
  | .ref o off n => match s.H o with | some (.ds _ _ els) => some (.sl ((els.drop off).take n)) | _ => none
  | _ => none
def fz1s (s : St) : List AV → Option (List D)
  | [] => some []
  | v :: vs => match fz1 s v with | some x => (match fz1s s vs with | some xs => some (x :: xs) | none => none) | none => none
def fzp (s : St) : AV → Option AV
  | .fp cs => some (.fp cs)
  | .ptr o off => match s.H o with
    | some (.vs _ cs) => (match fz1s s (cs.drop off) with | some xs => some (.fp xs) | none => none)
    | _ => none
  | .eptr o j off => match s.H o with
    | some (.ds _ _ els) => (match els[j]? with | some c => some (.fp (c.drop off)) | none => none)
    | _ => none
  | v => match fz1 s v with | some x => some (.d x) | none => none
def fzps (s : St) : List AV → Option (List AV)
  | [] => some []
  | v :: vs => match fzp s v with | some x => (match fzps s vs with | some xs => some (x :: xs) | none => none) | none => none
def fz (s : St) : AV → Option AV
  | .agg cs => (match fz1s s cs with | some xs => some (.agg (xs.map .d)) | none => none)
  | .fn f caps => (match fzps s caps with | some xs => some (.fn f xs) | none => none)
  | v => fzp s v
def fzs (s : St) : List AV → Option (List AV)
  | [] => some []
  | v :: vs => match fz s v with | some x => (match fzs s vs with | some xs => some (x :: xs) | none => none) | none => none

/-! ### floats -/
def fcmp (op : BinOp) (x y : Nat) : Bool :=
  let c := Ieee.double.order x y
  match op with
  | .eql => c == some .eq
  | .neq => c != some .eq
  | .lss => c == some .lt
  | .leq => c == some .lt || c == some .eq
  | .gtr => c == some .gt
  | _ => c == some .gt || c == some .eq
def fop (op : BinOp) (x y : Nat) : Nat := (floatBits op .f64 x y).getD nanC
def fneg (x : Nat) : Nat := bif isNan x then nanC else Op.negFloat .f64 x

def icmp (op : BinOp) (x y : Int) : Option Bool :=
  match op with
  | .eql => some (x == y)
  | .neq => some (x != y)
  | .lss => some (decide (x < y))
  | .leq => some (decide (x ≤ y))
  | .gtr => some (decide (x > y))
  | .geq => some (decide (x ≥ y))
  | _ => none
def scmp (op : BinOp) (x y : List UInt8) : Option Bool :=
  match op with
  | .eql => some (x == y)
  | .neq => some (!(x == y))
  | .lss => some (Op.bytesLess x y)
  | .leq => some (Op.bytesLess x y || x == y)
  | .gtr => some (!(Op.bytesLess x y || x == y))
  | .geq => some (!Op.bytesLess x y)
  | _ => none

end Ai
