/- The abstract machine: a deterministic evaluator over an abstract memory (no capacities, no addresses, no drawn orders). Definitions only. -/
import Derived.Orders
import Derived.Recover
import Derived.Below
namespace Go.Abs

/-- 'ro': it came in, it is read only; 'var': a variable; 'sl': a slice's array. -/
inductive RowKind where
  | ro | var | sl
  deriving DecidableEq, Inhabited

inductive AObj where
  | row (k : RowKind) (elem : TypeId) (cells : List Value)
  | map (es : List MapEntry) (clock : Nat)
  | sIter (s : ByteArray) (pos : Nat)
  | dead
  deriving Inhabited

abbrev AMem := List AObj

/-- Are there no addresses in this constant? -/
def shutV : Value → Bool
  | .bool _ | .int _ _ | .float _ _ | .complex _ _ _ | .string _ | .pointer none | .slice none 0 0 | .map none | .nilFunc | .nilIface => true
  | .tuple vs => vs.isEmpty
  | _ => false

/-- What stands in a slot of which nothing is known. -/
def junk : Value := .chan none

def unjunk : Option Value → Option Value
  | some (.chan _) => none
  | o => o

def aev (P : Program) (a : Act) : Operand → Option Value
  | .tmp t => unjunk a.tmps[t]?
  | .const v => if shutV v then some v else none
  | .func f => some (.func (.func f) #[] #[])
  | .global g => if g < P.globals.size then some (.pointer (some ⟨g, 0, none⟩)) else none

def aevs (P : Program) (a : Act) : List Operand → Option (List Value)
  | [] => some []
  | x :: xs => match aev P a x with
    | some v => match aevs P a xs with
      | some vs => some (v :: vs)
      | none => none
    | none => none

def aevPairs (P : Program) (a : Act) : List (Nat × Operand) → Option (List (Nat × Value))
  | [] => some []
  | (i, x) :: xs => match aev P a x with
    | some v => match aevPairs P a xs with
      | some vs => some ((i, v) :: vs)
      | none => none
    | none => none

def aevO (P : Program) (a : Act) : Option Operand → Option (Option Value)
  | none => some none
  | some x => match aev P a x with
    | some v => some (some v)
    | none => none

/-- A value that fills one cell. -/
def flat : Value → Bool
  | .agg _ | .tuple _ => false
  | _ => true

def isAggT (P : Program) (t : TypeId) : Option Bool :=
  match P.underlying t with
  | some (.struct _) | some (.array _ _) => some true
  | some _ => some false
  | none => none

def tsize (P : Program) (t : TypeId) : Option Nat :=
  match P.info? t with
  | some i => some i.size
  | none => none

/-! ### Memory -/

def loadN (m : AMem) (b off n : Nat) : Option (List Value) :=
  match m[b]? with
  | some (.row _ _ cs) => if off + n ≤ cs.length then some ((cs.drop off).take n) else none
  | _ => none

def load1 (m : AMem) (b off : Nat) : Option Value :=
  match m[b]? with
  | some (.row _ _ cs) => cs[off]?
  | _ => none

def aload (P : Program) (t : TypeId) (v : Value) (m : AMem) : Option Value :=
  match v with
  | .pointer (some ⟨b, off, none⟩) =>
    match isAggT P t with
    | some true =>
      match tsize P t with
      | some n => match loadN m b off n with
        | some cs => some (.agg cs.toArray)
        | none => none
      | none => none
    | some false => load1 m b off
    | none => none
  | _ => none

/-- 'cs' with 'vs' from 'off' on. -/
def put (cs : List Value) (off : Nat) : List Value → List Value
  | [] => cs
  | v :: vs => put (cs.set off v) (off + 1) vs

def storeN (m : AMem) (b off : Nat) (vs : List Value) : Option AMem :=
  match m[b]? with
  | some (.row k e cs) => if k ≠ .ro ∧ off + vs.length ≤ cs.length ∧ vs.all flat = true then some (m.set b (.row k e (put cs off vs))) else none
  | _ => none

def astore (P : Program) (t : TypeId) (v x : Value) (m : AMem) : Option AMem :=
  match v with
  | .pointer (some ⟨b, off, none⟩) =>
    match tsize P t with
    | some n => if x.cells.size = n then storeN m b off x.cells.toList else none
    | none => none
  | _ => none

/-! ### Operators -/

def acmp (op : BinOp) (x y : Int) : Option Bool :=
  match op with
  | .eql => some (x == y)
  | .neq => some (x != y)
  | .lss => some (decide (x < y))
  | .leq => some (decide (x ≤ y))
  | .gtr => some (decide (x > y))
  | .geq => some (decide (x ≥ y))
  | _ => none

def abits (op : BinOp) (k : IntKind) (x y : Int) : Option Int :=
  let a := BitVec.ofInt k.bits x
  let b := BitVec.ofInt k.bits y
  match op with
  | .and => some (k.wrap (a &&& b).toNat)
  | .or => some (k.wrap (a ||| b).toNat)
  | .xor => some (k.wrap (a ^^^ b).toNat)
  | .andNot => some (k.wrap (a &&& ~~~b).toNat)
  | _ => none

def aint (op : BinOp) (k : IntKind) (x y : Int) : Option Value :=
  match op with
  | .add => some (.int k (k.wrap (x + y)))
  | .sub => some (.int k (k.wrap (x - y)))
  | .mul => some (.int k (k.wrap (x * y)))
  | .quo => if y = 0 then none else some (.int k (k.wrap (x.tdiv y)))
  | .rem => if y = 0 then none else some (.int k (x.tmod y))
  | .and | .or | .xor | .andNot => match abits op k x y with
    | some n => some (.int k n)
    | none => none
  | .shl | .shr => none
  | _ => match acmp op x y with
    | some b => some (.bool b)
    | none => none

def ashift (op : BinOp) (k : IntKind) (x y : Int) : Option Value :=
  if y < 0 then none else
  match op with
  | .shl => some (.int k (k.wrap (x * 2 ^ (min y.toNat k.bits))))
  | .shr => some (.int k (x.fdiv (2 ^ (min y.toNat k.bits))))
  | _ => none

def astr (op : BinOp) (x y : ByteArray) : Option Value :=
  match op with
  | .add => if ((x.size + y.size : Nat) : Int) > IntKind.i64.max then none else some (.string (x ++ y))
  | .eql => some (.bool (x.toList == y.toList))
  | .neq => some (.bool !(x.toList == y.toList))
  | _ => none

/-- Equality of the cells of two values of a comparable type without interfaces and pointers. -/
def eqCell : Value → Value → Option Bool
  | .bool a, .bool b => some (a == b)
  | .int k a, .int k' b => if k = k' then some (a == b) else none
  | .string a, .string b => some (a.toList == b.toList)
  | _, _ => none

def apart (P : Program) (t : TypeId) (cs : Array Value) (off : Nat) : Option Value :=
  match isAggT P t with
  | some true => match tsize P t with
    | some n => some (.agg (cs.extract off (off + n)))
    | none => none
  | some false => cs[off]?
  | none => none

def eqFields (P : Program) (eq : TypeId → Value → Value → Option Bool) (xs ys : Array Value) : List Field → Option Bool
  | [] => some true
  | f :: fs =>
    if f.name = "_" then eqFields P eq xs ys fs else
    match apart P f.type xs f.offset, apart P f.type ys f.offset with
    | some u, some v => match eq f.type u v with
      | some true => eqFields P eq xs ys fs
      | some false => some false
      | none => none
    | _, _ => none

def eqElems (P : Program) (eq : TypeId → Value → Value → Option Bool) (elem : TypeId) (n : Nat) (xs ys : Array Value) : Nat → Nat → Option Bool
  | 0, _ => some true
  | k + 1, i =>
    match apart P elem xs (i * n), apart P elem ys (i * n) with
    | some u, some v => match eq elem u v with
      | some true => eqElems P eq elem n xs ys k (i + 1)
      | some false => some false
      | none => none
    | _, _ => none

/-- As 'Op.equalIn', of values without addresses. -/
def eqAt (P : Program) : Nat → TypeId → Value → Value → Option Bool
  | 0, _, _, _ => none
  | d + 1, t, x, y =>
    match P.underlying t, x, y with
    | some .bool, .bool a, .bool b => some (a == b)
    | some (.int _), .int k a, .int k' b => if k = k' then some (a == b) else none
    | some .string, .string a, .string b => some (a == b)
    | some (.struct fields), .agg xs, .agg ys =>
      if P.stoodInHeld t then none else eqFields P (eqAt P d) xs ys fields.toList
    | some (.array len elem), .agg xs, .agg ys =>
      match tsize P elem with
      | some n => eqElems P (eqAt P d) elem n xs ys len 0
      | none => none
    | _, _, _ => none

end Go.Abs
