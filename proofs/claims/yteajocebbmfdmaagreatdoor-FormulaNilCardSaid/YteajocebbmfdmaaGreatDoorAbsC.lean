/- The abstract machine, 3: code, regions that draw their order, calls, deferred calls. Definitions only. -/
import Derived.Test.YteajocebbmfdmaaGreatDoorAbsB
namespace Go.Abs

mutual
def sameV : Value → Value → Bool
  | .bool a, .bool b => a == b
  | .int j a, .int k b => decide (j = k) && a == b
  | .float j a, .float k b => decide (j = k) && a == b
  | .complex j a c, .complex k b d => decide (j = k) && a == b && c == d
  | .string a, .string b => decide (a = b)
  | .pointer a, .pointer b => decide (a = b)
  | .slice a n c, .slice b n' c' => decide (a = b) && n == n' && c == c'
  | .map a, .map b => decide (a = b)
  | .chan a, .chan b => decide (a = b)
  | .func fn xs ys, .func fn' xs' ys' => decide (fn = fn') && sameA xs xs' && sameA ys ys'
  | .nilFunc, .nilFunc => true
  | .iface t v, .iface t' v' => t == t' && sameV v v'
  | .nilIface, .nilIface => true
  | .agg xs, .agg ys => sameA xs ys
  | .tuple xs, .tuple ys => sameA xs ys
  | _, _ => false
def sameA : Array Value → Array Value → Bool
  | ⟨xs⟩, ⟨ys⟩ => sameL xs ys
def sameL : List Value → List Value → Bool
  | [], [] => true
  | x :: xs, y :: ys => sameV x y && sameL xs ys
  | _, _ => false
end

inductive AExit where
  | normal
  | exit (id : Nat)
  | ret
  | panic (v : Value)
  deriving Inhabited

inductive AEnd where
  | ret (v : Value)
  | panic (v : Value)
  deriving Inhabited

inductive AMode where
  | ret
  | pan (v : Value) (rec : Bool)
  deriving Inhabited

abbrev CallF := FuncId → Array Value → AMem → Option (AEnd × AMem)

def awanted (ops : Array Oper) (o : Oper) (a : Act) : Option Bool :=
  match o.guard with
  | none => some true
  | some (j, want) => match ((ops[j]?).bind (·.dst)) with
    | some t => match a.tmps[t]? with
      | some (.bool b) => some (b == want)
      | some (.tuple _) => some false
      | _ => none
    | none => none

/-- One operation of a region, with the call that it makes. -/
def astep (P : Program) (call : CallF) (ops : Array Oper) (o : Oper) (a : Act) (m : AMem) : Option (AExit × Act × AMem) :=
  match awanted ops o a with
  | some false => some (.normal, a.put o.dst undef, m)
  | some true =>
    match aop P a o m with
    | some (.val v, m') => some (.normal, a.put o.dst v, m')
    | some (.skip, m') => some (.normal, a.put o.dst undef, m')
    | some (.defer d, m') => some (.normal, ({ a with defers := d :: a.defers } : Act).put o.dst undef, m')
    | some (.enter f args, m') => match call f args m' with
      | some (.ret v, m'') => some (.normal, a.put o.dst v, m'')
      | some (.panic v, m'') => some (.panic v, a, m'')
      | none => none
    | some (.panic v, m') => some (.panic v, a, m')
    | some (.recover, _) => none
    | none => none
  | none => none

def alist (P : Program) (call : CallF) (ops : Array Oper) : List Oper → Act → AMem → Option (AExit × Act × AMem)
  | [], a, m => some (.normal, a, m)
  | o :: rest, a, m => match astep P call ops o a m with
    | some (.normal, a', m') => alist P call ops rest a' m'
    | r => r

/-! ### A region that draws its order -/

/-- 0: it makes nothing and changes nothing; 1: it makes something new out of its operands; 2: anything else. -/
def okind : Op → Nat
  | .move _ | .assign _ | .pick .. | .build .. | .load .. | .nilCheck _ | .binOp .. | .unOp .. | .convert .. | .makeInterface .. | .makeFunc .. | .slice ..
  | .fieldAddr .. | .field .. | .indexAddr .. | .index .. | .lookup .. | .typeAssert .. | .extract .. => 0
  | .call { callee := .builtin .len, .. } | .call { callee := .builtin .min, .. } | .call { callee := .builtin .max, .. } => 0
  | .alloc _ | .box .. | .buildSlice .. | .makeMap .. | .makeSlice .. => 1
  | _ => 2

/-- Does it look into memory? -/
def needs : Op → Bool
  | .load .. | .binOp .. | .convert .. | .lookup .. | .call _ => true
  | _ => false

def mask (acc : List Nat) : List Edge → Nat
  | [] => 0
  | e :: es => if Region.binds .any e then (2 ^ e.on ||| acc.getD e.on 0 ||| mask acc es) else mask acc es

def befGo (acc : List Nat) : List Oper → List Nat
  | [] => acc
  | o :: os => befGo (acc ++ [mask acc o.after.toList]) os

/-- Which operations come ahead of each: by a number's bits. -/
def bef (ops : Array Oper) : List Nat := befGo [] ops.toList

def bit (bs : List Nat) (i j : Nat) : Bool := (bs.getD i 0).testBit j

def effects (ops : Array Oper) : List Nat := (List.range ops.size).filter fun i => match ops[i]? with | some o => okind o.op == 2 | none => false

/-- How many of the effects surely came ahead. -/
def lowest (bs : List Nat) (es : List Nat) (i : Nat) : Nat := (es.filter fun e => bit bs i e).length

/-- What belongs between two effects. -/
def segment (ops : Array Oper) (bs es : List Nat) (j : Nat) : List Nat := (List.range ops.size).filter fun i => match ops[i]? with | some o => okind o.op != 2 && lowest bs es i == j | none => false

/-- What is asked of a region that draws. -/
def okDraw (ops : Array Oper) (bs : List Nat) : Bool :=
  (List.range ops.size).all fun i => match ops[i]? with
    | none => false
    | some o =>
      (match o.op with | .select .. | .defer _ => false | _ => true) &&
      (List.range ops.size).all fun j => match ops[j]? with
        | none => false
        | some o' => match o'.dst with
          | none => true
          | some t => (decide (i = j) || o.dst != some t) && (!(o.looksAt ops).contains t || (decide (i ≠ j) && (bit bs i j || bit bs j i)))

structure Obl where
  i : Nat
  a : Act
  v : Option Value

structure Fre where
  i : Nat
  id : Nat
  o : AObj

def sameObj : AObj → AObj → Bool
  | .row k e cs, .row k' e' cs' => decide (k = k') && e == e' && sameL cs cs'
  | .map [] c, .map [] c' => c == c'
  | _, _ => false

def oblOk (P : Program) (ops : Array Oper) (m : AMem) (q : Obl) : Bool :=
  match q.v, ops[q.i]? with
  | none, _ => true
  | some v, some o => !needs o.op || (match aop P q.a o m with
    | some (.val u, _) => sameV v u
    | _ => false)
  | _, _ => false

def freOk (m : AMem) (f : Fre) : Bool :=
  match m[f.id]? with
  | some o => sameObj f.o o
  | none => false

def predsIn (o : Oper) (done : List Nat) : Bool := o.after.toList.all fun e => !Region.binds .any e || done.contains e.on

/-- The operations between two effects, one by one. -/
def aseg (P : Program) (ops : Array Oper) : List Nat → List Nat → Act → AMem → Option (List Nat × Act × AMem × List Obl × List Fre)
  | [], done, a, m => some (done, a, m, [], [])
  | i :: is, done, a, m => match ops[i]? with
    | none => none
    | some o =>
      if predsIn o done && !done.contains i then
        match awanted ops o a with
        | none => none
        | some false => if okind o.op == 0 then match aseg P ops is (i :: done) (a.put o.dst undef) m with
            | some (d, a1, m1, q, f) => some (d, a1, m1, ⟨i, a, none⟩ :: q, f)
            | none => none
          else none
        | some true => match aop P a o m with
          | some (.val v, m') =>
            if okind o.op == 0 then match aseg P ops is (i :: done) (a.put o.dst v) m with
              | some (d, a1, m1, q, f) => some (d, a1, m1, ⟨i, a, some v⟩ :: q, f)
              | none => none
            else if okind o.op == 1 then match m'[m.length]?, aseg P ops is (i :: done) (a.put o.dst v) m' with
              | some x, some (d, a1, m1, q, f) => some (d, a1, m1, q, ⟨i, m.length, x⟩ :: f)
              | _, _ => none
            else none
          | _ => none
      else none

/-- The slots that a region writes: nothing is known of them. -/
def junkAll (ops : List Oper) (a : Act) : Act := ops.foldl (fun a o => a.put o.dst junk) a

/-- Effect by effect: what can come at more than one place must come to the same there. -/
def astages (P : Program) (call : CallF) (ops : Array Oper) (bs all : List Nat) : Nat → List Nat → List Nat → Act → AMem → List Obl → List Fre → Option (AExit × Act × AMem)
  | j, [], done, a, m, q, f =>
    match aseg P ops (segment ops bs all j) done a m with
    | some (d1, a1, m1, q1, f1) =>
      if (q1 ++ q).all (oblOk P ops m1) && (f1 ++ f).all (freOk m1) && (List.range ops.size).all (d1.contains ·) then some (.normal, a1, m1) else none
    | none => none
  | j, e :: es, done, a, m, q, f =>
    match aseg P ops (segment ops bs all j) done a m with
    | some (d1, a1, m1, q1, f1) =>
      if (q1 ++ q).all (oblOk P ops m1) && (f1 ++ f).all (freOk m1) && (List.range ops.size).all (fun i => d1.contains i || i == e || bit bs i e) then
        match ops[e]? with
        | some o => if predsIn o d1 && !d1.contains e then
          match astep P call ops o a1 m1 with
          | some (.normal, a2, m2) => astages P call ops bs all (j + 1) es (e :: d1) a2 m2 ((q1 ++ q).filter fun x => !bit bs e x.i) ((f1 ++ f).filter fun x => !bit bs e x.i)
          | some (.panic v, a2, m2) => some (.panic v, junkAll ops.toList a2, m2)
          | _ => none
          else none
        | none => none
      else none
    | none => none

def aregion (P : Program) (call : CallF) (ops : Array Oper) (draw : Bool) (a : Act) (m : AMem) : Option (AExit × Act × AMem) :=
  if draw then (if okDraw ops (bef ops) then astages P call ops (bef ops) (effects ops) 0 (effects ops) [] a m [] [] else none)
  else alist P call ops ops.toList a m

/-! ### Code -/

def loopN (body : Act → AMem → Option (AExit × Act × AMem)) : Nat → Act → AMem → Option (AExit × Act × AMem)
  | 0, _, _ => none
  | n + 1, a, m => match body a m with
    | some (.normal, a', m') => loopN body n a' m'
    | r => r

def acode (P : Program) (L : Nat) (call : CallF) : Code → Act → AMem → Option (AExit × Act × AMem)
  | .skip, a, m => some (.normal, a, m)
  | .region _ ops draw, a, m => aregion P call ops draw a m
  | .seq x y, a, m => match acode P L call x a m with
    | some (.normal, a', m') => acode P L call y a' m'
    | r => r
  | .cond c x y, a, m => match aev P a c with
    | some (.bool true) => acode P L call x a m
    | some (.bool false) => acode P L call y a m
    | _ => none
  | .block id b, a, m => match acode P L call b a m with
    | some (.exit i, a', m') => if i = id then some (.normal, a', m') else some (.exit i, a', m')
    | r => r
  | .loop b, a, m => loopN (acode P L call b) L a m
  | .exit id, a, m => some (.exit id, a, m)
  | .ret, a, m => some (.ret, a, m)
  | _, _, _ => none

/-! ### Deferred calls that recover -/

def alistS (P : Program) (call : CallF) (ops : Array Oper) : List Oper → Act → AMode → AMem → Option (AExit × Act × AMode × AMem)
  | [], a, u, m => some (.normal, a, u, m)
  | o :: rest, a, u, m =>
    match o.op with
    | .call { callee := .builtin .recover, args, .. } =>
      if args.isEmpty then
      match awanted ops o a with
      | some false => alistS P call ops rest (a.put o.dst undef) u m
      | some true => match u with
        | .pan v false => alistS P call ops rest (a.put o.dst v) (.pan v true) m
        | _ => alistS P call ops rest (a.put o.dst .nilIface) u m
      | none => none
      else none
    | _ => match astep P call ops o a m with
      | some (.normal, a', m') => alistS P call ops rest a' u m'
      | some (e, a', m') => some (e, a', u, m')
      | none => none

def acodeS (P : Program) (L : Nat) (call : CallF) : Code → Act → AMode → AMem → Option (AExit × Act × AMode × AMem)
  | .seq x y, a, u, m => match acodeS P L call x a u m with
    | some (.normal, a', u', m') => acodeS P L call y a' u' m'
    | r => r
  | .cond c x y, a, u, m => match aev P a c with
    | some (.bool true) => acodeS P L call x a u m
    | some (.bool false) => acodeS P L call y a u m
    | _ => none
  | .region _ ops false, a, u, m => alistS P call ops ops.toList a u m
  | c, a, u, m => match acode P L call c a m with
    | some (e, a', m') => some (e, a', u, m')
    | none => none

/-! ### Calls -/

def aresult (P : Program) (tmps : Array Value) (m : AMem) : ResultVar → Option Value
  | .tmp t => unjunk tmps[t]?
  | .cell a t => match tmps[a]? with
    | some v => aload P t v m
    | none => none

def aresults (P : Program) (tmps : Array Value) (m : AMem) : List ResultVar → Option (List Value)
  | [] => some []
  | r :: rs => match aresult P tmps m r with
    | some v => match aresults P tmps m rs with
      | some vs => some (v :: vs)
      | none => none
    | none => none

def asOne : List Value → Value
  | [v] => v
  | vs => .tuple vs.toArray

def asettle : AMode → AMode
  | .pan _ true => .ret
  | u => u

def aenter (fn : Func) (args : Array Value) : Act := { tmps := args ++ Array.replicate (fn.ntmps - args.size) undef, defers := [] }

def acallD (P : Program) (L : Nat) (call : CallF) (f : FuncId) (args : Array Value) (u : AMode) (m : AMem) : Option (AEnd × AMode × AMem) :=
  match P.funcs[f]? with
  | some fn => match fn.body with
    | some c => match acodeS P L call c (aenter fn args) u m with
      | some (e, a, u', m') =>
        if a.defers.isEmpty then
          match e with
          | .normal | .ret => match aresults P a.tmps m' fn.results.toList with
            | some vs => some (.ret (asOne vs), u', m')
            | none => none
          | .panic v => some (.panic v, u', m')
          | .exit _ => none
        else none
      | none => none
    | none => none
  | none => none

def aleave (P : Program) (L : Nat) (call : CallF) (fn : Func) (tmps : Array Value) : List Deferred → AMode → AMem → Option (AEnd × AMem)
  | [], .ret, m => match aresults P tmps m fn.results.toList with
    | some vs => some (.ret (asOne vs), m)
    | none => none
  | [], .pan v false, m => some (.panic v, m)
  | [], .pan _ true, _ => none
  | d :: ds, u, m => match d.target with
    | .fn (.func f) captured =>
      match P.funcs[f]? with
      | some g => if g.body.isSome && g.name != "runtime.NumGoroutine" then
        match acallD P L call f (d.args ++ captured) u m with
        | some (.ret _, u', m') => aleave P L call fn tmps ds (asettle u') m'
        | some (.panic v, .ret, m') => aleave P L call fn tmps ds (.pan v false) m'
        | _ => none
        else none
      | none => none
    | _ => none

/-- Functions whose contracts are given by themselves. -/
abbrev OvF := FuncId → Option (Array Value → AMem → Option (AEnd × AMem))

def acall (P : Program) (ov : OvF) : Nat → CallF
  | 0, _, _, _ => none
  | n + 1, f, args, m =>
    match ov f with
    | some g => g args m
    | none =>
      match P.funcs[f]? with
      | some fn => match fn.body with
        | some c => match acode P n (acall P ov n) c (aenter fn args) m with
          | some (.normal, a, m') | some (.ret, a, m') => aleave P n (acall P ov n) fn a.tmps a.defers .ret m'
          | some (.panic v, a, m') => aleave P n (acall P ov n) fn a.tmps a.defers (.pan v false) m'
          | _ => none
        | none => none
      | none => none

end Go.Abs
