import Derived.Test.YtmcammamjbfkfaaGreatDoorAiRep
import Derived.Still
set_option maxHeartbeats 1000000
set_option linter.unusedVariables false
namespace Ai
open Go Go.RowKit

/-! ### The abstract run: what has to hold ahead of an operation, a piece of code -/
section
variable (E : Env) (N : Nat)

/-- The value is known by its form. -/
def kv (v : AV) (k : AV → Prop) : Prop :=
  match v with
  | .junk => k .junk
  | .d x => k (.d x)
  | .fp cs => k (.fp cs)
  | .ref o off n => k (.ref o off n)
  | .ptr o off => k (.ptr o off)
  | .eptr o j off => k (.eptr o j off)
  | .agg cs => k (.agg cs)
  | .tup vs => k (.tup vs)
  | .fn f cs => k (.fn f cs)
  | .uq e sz els => k (.uq e sz els)
theorem kv_eq (v : AV) (k : AV → Prop) : kv v k = k v := by cases v <;> rfl

def kb (dst : Option Tmp) (s : St) (k : St → Prop) (c : Bool) : Prop :=
  (c = true → k (put dst (.d (.bool true)) s)) ∧ (c = false → k (put dst (.d (.bool false)) s))

def ibits (op : BinOp) (k : IntKind) (x y : Int) : Option Int :=
  let a := BitVec.ofInt k.bits x
  let b := BitVec.ofInt k.bits y
  match op with
  | .and => some (k.wrap (a &&& b).toNat)
  | .or => some (k.wrap (a ||| b).toNat)
  | .xor => some (k.wrap (a ^^^ b).toNat)
  | .andNot => some (k.wrap (a &&& ~~~b).toNat)
  | _ => none

def aInt (op : BinOp) (kx : IntKind) (a b : Int) (dst : Option Tmp) (s : St) (k : St → Prop) : Prop :=
  match op with
  | .add => k (put dst (.d (.int kx (kx.wrap (a + b)))) s)
  | .sub => k (put dst (.d (.int kx (kx.wrap (a - b)))) s)
  | .mul => k (put dst (.d (.int kx (kx.wrap (a * b)))) s)
  | .quo => b ≠ 0 ∧ k (put dst (.d (.int kx (kx.wrap (a.tdiv b)))) s)
  | .rem => b ≠ 0 ∧ k (put dst (.d (.int kx (a.tmod b))) s)
  | .and | .or | .xor | .andNot => match ibits op kx a b with | some n => k (put dst (.d (.int kx n)) s) | none => False
  | .shl | .shr => False
  | op => match icmp op a b with | some c => kb dst s k c | none => False
def aFlt (op : BinOp) (x y : Nat) (dst : Option Tmp) (s : St) (k : St → Prop) : Prop :=
  match op with
  | .add | .sub | .mul | .quo => k (put dst (.d (.flt (fop op x y))) s)
  | .eql | .neq | .lss | .leq | .gtr | .geq => kb dst s k (fcmp op x y)
  | _ => False
def aStr (op : BinOp) (x y : List UInt8) (dst : Option Tmp) (s : St) (k : St → Prop) : Prop :=
  match op with
  | .add => x.length + y.length ≤ 9223372036854775807 ∧ k (put dst (.d (.str (x ++ y))) s)
  | op => match scmp op x y with | some c => kb dst s k c | none => False
def aBool (T : TypeId) (op : BinOp) (x y : Bool) (dst : Option Tmp) (s : St) (k : St → Prop) : Prop :=
  match E.Θ T with
  | some ti => (match ti.desc with
    | .bool => (match op with
      | .eql => kb dst s k (x == y)
      | .neq => kb dst s k (!(x == y))
      | _ => False)
    | _ => False)
  | none => False
def aBin (T : TypeId) (op : BinOp) (x y : AV) (dst : Option Tmp) (s : St) (k : St → Prop) : Prop :=
  match x, y with
  | .d (.int kx a), .d (.int ky b) => bif decide (kx = ky) then aInt op kx a b dst s k else False
  | .d (.flt a), .d (.flt b) => aFlt op a b dst s k
  | .d (.str a), .d (.str b) => aStr op a b dst s k
  | .d (.bool a), .d (.bool b) => aBool E T op a b dst s k
  | _, _ => False

def aUn (op : UnOp) (x : AV) (dst : Option Tmp) (s : St) (k : St → Prop) : Prop :=
  match op, x with
  | .not, .d (.bool b) => k (put dst (.d (.bool (!b))) s)
  | .neg, .d (.int kx n) => k (put dst (.d (.int kx (kx.wrap (0 - n)))) s)
  | .neg, .d (.flt x) => k (put dst (.d (.flt (fneg x))) s)
  | _, _ => False

/-- What an append puts behind. -/
def newsOf (s : St) : AV → Option (List (List D))
  | .d .nil => some []
  | .d (.sl els) => some els
  | .ref o off n => match s.H o with | some (.ds _ _ els) => some ((els.drop off).take n) | _ => none
  | _ => none
def aConv (S T : TypeId) (x : AV) (dst : Option Tmp) (s : St) (k : St → Prop) : Prop :=
  match E.Θ S, E.Θ T with
  | some si, some ti => (match ti.desc, x with
    | .int kx, .d (.int _ n) => k (put dst (.d (.int kx (kx.wrap n))) s)
    | .flt, .d (.int _ n) => k (put dst (.d (.flt (FloatKind.f64.nearest n))) s)
    | .int kx, .d (.flt x) => ∃ n, floatToIntVal .f64 x kx = some n ∧ k (put dst (.d (.int kx n)) s)
    | .str, x => (match si.desc with
      | .slice e => (match E.Θ e with
        | some ei => (match ei.desc, newsOf s x with
          | .int .u8, some els => ∃ ns : List Int, els = (ns.map fun n => [D.int .u8 n]) ∧ k (put dst (.d (.str (ns.map fun n => UInt8.ofNat n.toNat))) s)
          | _, _ => False)
        | none => False)
      | _ => False)
    | _, _ => False)
  | _, _ => False

def ldCells (s : St) (a : AV) (n : Nat) : Option (List AV) :=
  match a with
  | .fp cs => bif Nat.ble n cs.length then some ((cs.take n).map .d) else none
  | .ptr o off => match s.H o with
    | some (.vs _ cs) => bif Nat.ble (off + n) cs.length then some ((cs.drop off).take n) else none
    | _ => none
  | _ => none
def aLoad (T : TypeId) (a : AV) (dst : Option Tmp) (s : St) (k : St → Prop) : Prop :=
  match E.Θ T with
  | some ti => (match a with
    | .eptr o j off => (match s.H o with
      | some (.ds _ sz els) => ∃ c, (els[j]? = some c ∧ off + ti.sz ≤ c.length) ∧ (match mkVal ti (((c.drop off).take ti.sz).map .d) with | some v => k (put dst v s) | none => False)
      | _ => False)
    | a => match ldCells s a ti.sz with
      | some cs => (match mkVal ti cs with | some v => kv v fun v => k (put dst v s) | none => False)
      | none => False)
  | none => False

def setEl (els : List (List D)) (sz j off : Nat) (xs : List D) : List (List D) :=
  bif Nat.beq off 0 && Nat.beq xs.length sz then els.set j xs else els.modify j fun c => splice c off xs
def aStore (T : TypeId) (a x : AV) (dst : Option Tmp) (s : St) (k : St → Prop) : Prop :=
  match E.Θ T, cellsOf x with
  | some ti, some cs => bif Nat.beq cs.length ti.sz then (match a with
    | .ptr o off => (match s.H o with
      | some (.vs e cs0) => bif Nat.ble (off + cs.length) cs0.length then k (put dst undefA (s.setH o (.vs e (splice cs0 off cs)))) else False
      | _ => False)
    | .eptr o j off => (match s.H o, toDs cs with
      | some (.ds e sz els), some xs => bif Nat.ble (off + xs.length) sz then k (put dst undefA (s.setH o (.ds e sz (setEl els sz j off xs)))) else False
      | _, _ => False)
    | _ => False) else False
  | _, _ => False

def aField (T : TypeId) (f : Nat) (x : AV) (dst : Option Tmp) (s : St) (k : St → Prop) : Prop :=
  match E.Θ T with
  | some ti => (match ti.desc with
    | .struct fs => (match fs[f]? with
      | some (off, ft) => (match E.Θ ft with
        | some fi => bif Nat.beq fi.sz 0 then False else (match x with
          | .fp cs => k (put dst (.fp (cs.drop off)) s)
          | .ptr o i => k (put dst (.ptr o (i + off)) s)
          | .eptr o j i => k (put dst (.eptr o j (i + off)) s)
          | _ => False)
        | none => False)
      | none => False)
    | _ => False)
  | none => False
def aPart (T : TypeId) (f : Nat) (x : AV) (dst : Option Tmp) (s : St) (k : St → Prop) : Prop :=
  match E.Θ T with
  | some ti => (match ti.desc with
    | .struct fs => (match fs[f]? with
      | some (off, ft) => (match E.Θ ft, x with
        | some fi, .agg cs => bif Nat.ble (off + fi.sz) cs.length then (match mkVal fi ((cs.drop off).take fi.sz) with | some v => kv v fun v => k (put dst v s) | none => False) else False
        | _, _ => False)
      | none => False)
    | _ => False)
  | none => False

def aIdxAddr (T : TypeId) (x i : AV) (dst : Option Tmp) (s : St) (k : St → Prop) : Prop :=
  match E.Θ T, i with
  | some ti, .d (.int _ n) => (match ti.desc with
    | .slice e => (match E.Θ e with
      | some ei => (match x with
        | .d (.sl els) => ∃ c, (0 ≤ n ∧ els[n.toNat]? = some c ∧ c.length = ei.sz) ∧ k (put dst (.fp c) s)
        | .ref o off len => (match s.H o with
          | some (.ds _ sz _) => bif Nat.beq sz ei.sz then ((0 ≤ n ∧ n < len) ∧ k (put dst (.eptr o (off + n.toNat) 0) s)) else False
          | _ => False)
        | _ => False)
      | none => False)
    | .array len e => (match E.Θ e with
      | some ei => bif Nat.ble len 1 then False else (match x with
        | .ptr o off => (0 ≤ n ∧ n < len) ∧ k (put dst (.ptr o (off + n.toNat * ei.sz)) s)
        | .fp cs => (0 ≤ n ∧ n < len) ∧ k (put dst (.fp (cs.drop (n.toNat * ei.sz))) s)
        | _ => False)
      | none => False)
    | _ => False)
  | _, _ => False
def aIdx (T : TypeId) (x i : AV) (dst : Option Tmp) (s : St) (k : St → Prop) : Prop :=
  match E.Θ T, i with
  | some ti, .d (.int _ n) => (match ti.desc, x with
    | .str, .d (.str t) => ∃ c, (0 ≤ n ∧ t[n.toNat]? = some c) ∧ k (put dst (.d (.int .u8 (c.toNat : Int))) s)
    | _, _ => False)
  | _, _ => False

def fillA (fs : List (Nat × TypeId)) : List AV → List (Nat × AV) → Option (List AV)
  | cells, [] => some cells
  | cells, (i, v) :: rest => match fs[i]? with
    | some (off, ft) => (match E.Θ ft, cellsOf v with
      | some fi, some cs => bif Nat.beq cs.length fi.sz && Nat.ble (off + cs.length) cells.length then fillA fs (splice cells off cs) rest else none
      | _, _ => none)
    | none => none
def aBuild (T : TypeId) (parts : List (Nat × AV)) (dst : Option Tmp) (s : St) (k : St → Prop) : Prop :=
  match E.Θ T with
  | some ti => (match ti.desc with
    | .struct fs => bif fs.all (fun p => (E.Θ p.2).isSome) then (match fillA E fs (ti.zero.map .d) parts with
      | some cs => k (put dst (.agg cs) s)
      | none => False) else False
    | _ => False)
  | none => False

/-- What is stored beyond reach is read by value, and is the call's own no more. -/
def fzk (s : St) : List AV → Option (List D × List Nat)
  | [] => some ([], [])
  | v :: vs => match fzk s vs with
    | some (xs, ks) => (match v with
      | .d x => some (x :: xs, ks)
      | .ref o off n => (match fz1 s (.ref o off n) with | some x => some (x :: xs, o :: ks) | none => none)
      | _ => none)
    | none => none
def killAll : List Nat → St → St
  | [], s => s
  | κ :: ks, s => killAll ks (s.kill κ)
def fillE (ei : TI) : List (List AV) → List (Nat × AV) → Option (List (List AV))
  | els, [] => some els
  | els, (i, v) :: rest => match cellsOf v with
    | some cs => bif Nat.beq cs.length ei.sz && Nat.blt i els.length then fillE ei (els.set i cs) rest else none
    | none => none
def fzkE (s : St) : List (List AV) → Option (List (List D) × List Nat)
  | [] => some ([], [])
  | v :: vs => match fzk s v, fzkE s vs with
    | some (x, k1), some (xs, ks) => some (x :: xs, k1 ++ ks)
    | _, _ => none
def aBuildSlice (T : TypeId) (len : Nat) (parts : List (Nat × AV)) (dst : Option Tmp) (s : St) (k : St → Prop) : Prop :=
  match E.Θ T, dst with
  | some ti, some t => (match ti.desc with
    | .slice e => (match E.Θ e with
      | some ei => bif Nat.beq ei.sz 0 || Nat.blt 4096 (len * ei.sz) then False else (match fillE ei (List.replicate len (ei.zero.map .d)) parts with
        | some els => (match fzkE s els with
          | some (xs, ks) => k (put dst (.ref t 0 len) ((killAll ks s).new t (.ds e ei.sz xs)))
          | none => False)
        | none => False)
      | none => False)
    | _ => False)
  | _, _ => False

def aMake (T : TypeId) (l c : AV) (dst : Option Tmp) (s : St) (k : St → Prop) : Prop :=
  match E.Θ T, dst, l, c with
  | some ti, some t, .d (.int _ n), .d (.int _ cap) => (match ti.desc with
    | .slice e => (match E.Θ e with
      | some ei => bif Nat.beq ei.sz 0 then False else ((0 ≤ n ∧ n ≤ cap ∧ ei.bytes * cap ≤ 140737488355328 ∧ cap ≤ 140737488355328) ∧ k (put dst (.ref t 0 n.toNat) (s.new t (.ds e ei.sz (List.replicate n.toNat ei.zero)))))
      | none => False)
    | _ => False)
  | _, _, _, _ => False

def boundOf (d : Int) : Option AV → Option Int
  | none => some d
  | some (.d (.int _ n)) => some n
  | _ => none
def aSlice (T : TypeId) (x : AV) (lo hi mx : Option AV) (dst : Option Tmp) (s : St) (k : St → Prop) : Prop :=
  match E.Θ T, mx, boundOf 0 lo with
  | some ti, none, some l => (match ti.desc, x with
    | .str, .d (.str t) => (match boundOf t.length hi with
      | some h => (0 ≤ l ∧ l ≤ h ∧ h ≤ t.length) ∧ k (put dst (.d (.str ((t.drop l.toNat).take (h.toNat - l.toNat)))) s)
      | none => False)
    | .slice e, .d (.sl els) => (match E.Θ e, boundOf els.length hi with
      | some ei, some h => (0 ≤ l ∧ l ≤ h ∧ h ≤ els.length ∧ ∀ c ∈ els, c.length = ei.sz) ∧ k (put dst (.d (.sl ((els.drop l.toNat).take (h.toNat - l.toNat)))) s)
      | _, _ => False)
    | .slice e, .ref o off len => (match E.Θ e, s.H o, boundOf len hi with
      | some ei, some (.ds _ sz _), some h => bif Nat.beq ei.sz sz then ((0 ≤ l ∧ l ≤ h ∧ h ≤ len ∧ (l = 0 ∨ l < h)) ∧ k (put dst (.ref o (off + l.toNat) (h.toNat - l.toNat)) s)) else False
      | _, _, _ => False)
    | _, _ => False)
  | _, _, _ => False

def aLen (T : TypeId) (x : AV) (dst : Option Tmp) (s : St) (k : St → Prop) : Prop :=
  match E.Θ T with
  | some ti => (match ti.desc, x with
    | .str, .d (.str t) => k (put dst (.d (.int .i64 t.length)) s)
    | .slice _, .d (.sl els) => k (put dst (.d (.int .i64 els.length)) s)
    | .slice _, .d .nil => k (put dst (.d (.int .i64 0)) s)
    | .slice _, .ref _ _ n => k (put dst (.d (.int .i64 n)) s)
    | _, _ => False)
  | none => False

def notRef (κ : Nat) : AV → Bool
  | .ref o _ _ => !Nat.beq o κ
  | _ => true
def aAppend (T : TypeId) (x y : AV) (dst : Option Tmp) (s : St) (k : St → Prop) : Prop :=
  match E.Θ T, dst with
  | some ti, some t => (match ti.desc with
    | .slice e => (match E.Θ e, newsOf s y with
      | some ei, some news => bif Nat.beq ei.sz 0 then False else (match x with
        | .ref o 0 n => bif notRef o y then (match s.H o with
          | some (.ds e' sz els) => bif Nat.beq e e' && Nat.beq sz ei.sz then ((news.all fun c => c.length == ei.sz) = true ∧ (n + news.length) * ei.bytes ≤ 140737488355328 ∧ n + news.length ≤ 140737488355328) ∧
              k (put dst (.ref o 0 (n + news.length)) ((s.kill o).setH o (.ds e sz (els.take n ++ news)))) else False
          | _ => False) else False
        | .d .nil => ((news.all fun c => c.length == ei.sz) = true ∧ news.length * ei.bytes ≤ 140737488355328 ∧ news.length ≤ 140737488355328) ∧ k (put dst (.ref t 0 news.length) ((s.kill t).setH t (.ds e ei.sz news)))
        | _ => False)
      | _, _ => False)
    | _ => False)
  | _, _ => False

def retK (dst : Option Tmp) (s : St) (k : St → Prop) (r : AV) : Prop :=
  match r with
  | .uq e sz els => k (put dst (.d (.sl els)) s) ∨ ∃ t, dst = some t ∧ k (put dst (.ref t 0 els.length) (s.new t (.ds e sz els)))
  | r => k (put dst r s)

def evs (s : St) (xs : Array Operand) : List AV := xs.toList.map (ev N s)

mutual
def hasOwn : AV → Bool
  | .ref .. => true
  | .ptr .. => true
  | .eptr .. => true
  | .agg cs => hasOwnL cs
  | .tup cs => hasOwnL cs
  | .fn _ cs => hasOwnL cs
  | _ => false
def hasOwnL : List AV → Bool
  | [] => false
  | v :: vs => hasOwn v || hasOwnL vs
end
def flatD : D → Bool
  | .sl (_ :: _) => false
  | _ => true
/-- Nothing of memory is behind it. -/
def Flat : AV → Prop
  | .junk => True
  | .d x => flatD x = true
  | .agg cs => ∀ c ∈ cs, ∃ x, c = .d x ∧ flatD x = true
  | .tup cs => ∀ c ∈ cs, (∃ x, c = .d x ∧ flatD x = true) ∨ ∃ ds : List D, c = .agg (ds.map .d) ∧ ds.all flatD = true
  | .uq _ _ els => ∀ c ∈ els, c.all flatD = true
  | _ => False

/-- A call that is given a row of the caller's own for good. -/
def aTake (g : FuncId) (caps args : List AV) (dst : Option Tmp) (s : St) (k : St → Prop) : Prop :=
  ∃ o e sz els R, args = [.ref o 0 els.length] ∧ caps = [] ∧ s.H o = some (.ds e sz els) ∧ TakesTo E g e sz els R ∧ ∀ r, R r → k (put dst r (s.kill o))
def aCall (c : Call) (dst : Option Tmp) (s : St) (k : St → Prop) : Prop :=
  match c.callee with
  | .builtin b => (match b, c.argTypes.toList, evs N s c.args with
    | .len, T :: _, [x] => aLen E T x dst s k
    | .append, [T, T'], [x, y] => bif Nat.beq T T' then aAppend E T x y dst s k else False
    | .min, _, [.d (.int k1 a), .d (.int _ b)] => k (put dst (.d (.int k1 (if b < a then b else a))) s)
    | .max, _, [.d (.int k1 a), .d (.int _ b)] => k (put dst (.d (.int k1 (if b > a then b else a))) s)
    | _, _, _ => False)
  | .value f => (match ev N s f, fzs s (evs N s c.args) with
    | .fn g caps, some as => (match fzps s caps with
      | some cs => bif hasOwnL (evs N s c.args) || hasOwnL caps then (∃ R, CallsTo E g (as ++ cs) R ∧ ∀ r, R r → Flat r ∧ retK dst s k r) ∨ aTake E g caps (evs N s c.args) dst s k
          else ∃ R, CallsTo E g (as ++ cs) R ∧ ∀ r, R r → retK dst s k r
      | none => False)
    | _, _ => False)
  | .invoke .. => False

def AOp (op : Op) (dst : Option Tmp) (s : St) (k : St → Prop) : Prop :=
  match op with
  | .move x => kv (ev N s x) fun v => k (put dst v s)
  | .assign x => kv (ev N s x) fun v => k (put dst v s)
  | .pick c x y => (match ev N s c with
    | .d (.bool b) => (match b with | true => kv (ev N s x) fun v => k (put dst v s) | false => kv (ev N s y) fun v => k (put dst v s))
    | _ => False)
  | .alloc T => (match E.Θ T, dst with
    | some ti, some t => k (put dst (.ptr t 0) (s.new t (.vs T (ti.zero.map .d))))
    | _, _ => False)
  | .box T x => (match cellsOf (ev N s x), dst with
    | some cs, some t => k (put dst (.ptr t 0) (s.new t (.vs T cs)))
    | _, _ => False)
  | .build T parts => aBuild E T (parts.toList.map fun p => (p.1, ev N s p.2)) dst s k
  | .buildSlice T len parts => aBuildSlice E T len (parts.toList.map fun p => (p.1, ev N s p.2)) dst s k
  | .load T a => aLoad E T (ev N s a) dst s k
  | .store T a x => aStore E T (ev N s a) (ev N s x) dst s k
  | .nilCheck x => (match ev N s x with
    | .ptr p q => k (put dst (.ptr p q) s)
    | .eptr p q r => k (put dst (.eptr p q r) s)
    | .fp cs => k (put dst (.fp cs) s)
    | .fn f cs => k (put dst (.fn f cs) s)
    | _ => False)
  | .binOp op T x y _ => aBin E T op (ev N s x) (ev N s y) dst s k
  | .unOp op _ x => aUn op (ev N s x) dst s k
  | .convert S T x => aConv E S T (ev N s x) dst s k
  | .makeFunc fn first caps => (match fn with
    | .func f => bif first.isEmpty then k (put dst (.fn f (evs N s caps)) s) else False
    | _ => False)
  | .makeSlice T l c => aMake E T (ev N s l) (ev N s c) dst s k
  | .slice T x lo hi mx => aSlice E T (ev N s x) (lo.map (ev N s)) (hi.map (ev N s)) (mx.map (ev N s)) dst s k
  | .fieldAddr T x f => aField E T f (ev N s x) dst s k
  | .field T x f => aPart E T f (ev N s x) dst s k
  | .indexAddr T x i => aIdxAddr E T (ev N s x) (ev N s i) dst s k
  | .index T x i => aIdx E T (ev N s x) (ev N s i) dst s k
  | .extract x i => (match ev N s x with
    | .tup vs => (match vs[i]? with | some v => kv v fun v => k (put dst v s) | none => False)
    | _ => False)
  | .call c => aCall E N c dst s k
  | _ => False

/-- Is an operation to be done? -/
def wants (all : Array Oper) (g : Option (Nat × Bool)) (s : St) : Option Bool :=
  match g with
  | none => some true
  | some (j, want) => match all[j]? with
    | some oj => (match oj.dst with
      | some t => (match ev N s (.tmp t) with
        | .d (.bool b) => some (b == want)
        | .tup [] => some false
        | _ => none)
      | none => none)
    | none => none

inductive AX where
  | normal | exit (id : Nat) | ret

def AOps (all : Array Oper) : List Oper → (AX → St → Prop) → St → Prop
  | [], Q, s => Q .normal s
  | ⟨dst, op, _, _, _, g⟩ :: rest, Q, s => match wants N all g s with
    | some true => AOp E N op dst s (AOps all rest Q)
    | some false => AOps all rest Q (put dst undefA s)
    | none => False

/-- What may be taken for what: where the one holds the other does. -/
def Weak (s s' : St) : Prop := ∀ A w0 m a w, SRel E N A w0 m s a w → ∃ m', SRel E N A w0 m' s' a w

def thenQ (K : St → Prop) (Q : AX → St → Prop) : AX → St → Prop
  | .normal, s => K s
  | e, s => Q e s
def inBlockQ (id : Nat) (Q : AX → St → Prop) : AX → St → Prop
  | .exit i, s => bif Nat.beq i id then Q .normal s else Q (.exit i) s
  | e, s => Q e s

/-- A loop, its body's runs being told: the least that is closed. -/
@[irreducible] def ALoop (body : (AX → St → Prop) → St → Prop) (Q : AX → St → Prop) (s : St) : Prop :=
  ∀ R : St → Prop, (∀ s s' K, Weak E N s s' → body (thenQ K Q) s' → (∀ t, K t → R t) → R s) → R s

/-- The value that an operation of a region that draws its order yields. -/
def probe (K : AV → Prop) (s : St) : Prop := kv (s.τ 0) K

def aBS (T : TypeId) (len : Nat) (parts : List (Nat × AV)) (s : St) (K : AV → Prop) : Prop :=
  match E.Θ T with
  | some ti => (match ti.desc with
    | .slice e => (match E.Θ e with
      | some ei => bif Nat.beq ei.sz 0 || Nat.blt 4096 (len * ei.sz) then False else (match fillE ei (List.replicate len (ei.zero.map .d)) parts with
        | some els => (match fzkE s els with
          | some (xs, []) => K (.d (.sl xs))
          | _ => False)
        | none => False)
      | none => False)
    | _ => False)
  | _ => False
def retQK (K : AV → Prop) (r : AV) : Prop :=
  match r with
  | .uq e sz els => K (.d (.sl els))
  | r => kv r K
def aCallV (c : Call) (s : St) (K : AV → Prop) : Prop :=
  match c.callee with
  | .builtin b => (match b, c.argTypes.toList, evs N s c.args with
    | .len, T :: _, [x] => aLen E T x (some 0) s (probe K)
    | .min, _, [.d (.int k1 a), .d (.int _ b)] => K (.d (.int k1 (if b < a then b else a)))
    | .max, _, [.d (.int k1 a), .d (.int _ b)] => K (.d (.int k1 (if b > a then b else a)))
    | _, _, _ => False)
  | .value f => (match ev N s f, fzs s (evs N s c.args) with
    | .fn g caps, some as => (match fzps s caps with
      | some cs => bif hasOwnL (evs N s c.args) || hasOwnL caps then ∃ r, CallsTo E g (as ++ cs) (· = r) ∧ Flat r ∧ retQK K r
          else ∃ r, CallsTo E g (as ++ cs) (· = r) ∧ retQK K r
      | none => False)
    | _, _ => False)
  | .invoke .. => False
def AQv (op : Op) (s : St) (K : AV → Prop) : Prop :=
  match op with
  | .buildSlice T len parts => aBS E T len (parts.toList.map fun p => (p.1, ev N s p.2)) s K
  | .call c => aCallV E N c s K
  | .move x => kv (ev N s x) K
  | .assign x => kv (ev N s x) K
  | .pick c x y => (match ev N s c with
    | .d (.bool b) => (match b with | true => kv (ev N s x) K | false => kv (ev N s y) K)
    | _ => False)
  | .load T a => aLoad E T (ev N s a) (some 0) s (probe K)
  | .binOp op T x y _ => aBin E T op (ev N s x) (ev N s y) (some 0) s (probe K)
  | .unOp op _ x => aUn op (ev N s x) (some 0) s (probe K)
  | .convert S T x => aConv E S T (ev N s x) (some 0) s (probe K)
  | .slice T x lo hi mx => aSlice E T (ev N s x) (lo.map (ev N s)) (hi.map (ev N s)) (mx.map (ev N s)) (some 0) s (probe K)
  | .fieldAddr T x f => aField E T f (ev N s x) (some 0) s (probe K)
  | .field T x f => aPart E T f (ev N s x) (some 0) s (probe K)
  | .indexAddr T x i => aIdxAddr E T (ev N s x) (ev N s i) (some 0) s (probe K)
  | .index T x i => aIdx E T (ev N s x) (ev N s i) (some 0) s (probe K)
  | .build T parts => aBuild E T (parts.toList.map fun p => (p.1, ev N s p.2)) (some 0) s (probe K)
  | _ => False
def AQ (op : Op) (dst : Option Tmp) (s : St) (k : St → Prop) : Prop := AQv E N op s fun v => k (put dst v s)
def AQs (all : Array Oper) : List Oper → (St → Prop) → St → Prop
  | [], Q, s => Q s
  | ⟨dst, op, _, _, _, g⟩ :: rest, Q, s => match wants N all g s with
    | some true => AQ E N op dst s (AQs all rest Q)
    | some false => AQs all rest Q (put dst undefA s)
    | none => False

def ADraw (ops : Array Oper) (Q : AX → St → Prop) (s : St) : Prop := Region.lexB .any ops = true ∧ AQs E N ops ops.toList (Q .normal) s

noncomputable def AW (c : Code) : (AX → St → Prop) → St → Prop :=
  Code.rec (motive := fun _ => (AX → St → Prop) → St → Prop)
    (fun Q s => Q .normal s)
    (fun _ ops draw Q s => match draw with | false => AOps E N ops ops.toList Q s | true => ADraw E N ops Q s)
    (fun _ _ A B Q s => A (thenQ (B Q) Q) s)
    (fun c _ _ A B Q s => match ev N s c with | .d (.bool b) => (match b with | true => A Q s | false => B Q s) | _ => False)
    (fun id _ A Q s => A (inBlockQ id Q) s)
    (fun _ A Q s => ALoop E N A Q s)
    (fun _ _ _ _ _ _ _ _ => False)
    (fun id Q s => Q (.exit id) s)
    (fun _ _ _ _ => False)
    (fun _ _ _ => False)
    (fun _ _ _ => False)
    (fun Q s => Q .ret s)
    (fun _ _ _ => False)
    c
end
end Ai
