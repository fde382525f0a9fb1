/- The quick machine, 2: regions, code, calls. Definitions. -/
import Derived.Test.YteajocebbmfdmaaGreatDoorFastA
namespace Go.Abs

abbrev FCallF := FuncId → Array Value → FMem → Option (AEnd × FMem)

noncomputable def fwanted (ops : Array Oper) (o : Oper) (a : FAct) : Option Bool :=
  match o.guard with
  | none => some true
  | some (j, want) => match ((ops[j]?).bind (·.dst)) with
    | some t => match a.get t with
      | some (.bool b) => some (b == want)
      | some (.tuple _) => some false
      | _ => none
    | none => none

noncomputable def fcalled (call : FCallF) (o : Oper) (a : FAct) : FOut → Option (AExit × FAct × FMem)
  | some (.val v, m') => some (.normal, a.put o.dst v, m')
  | some (.skip, m') => some (.normal, a.put o.dst undef, m')
  | some (.defer d, m') => some (.normal, ({ a with defers := d :: a.defers } : FAct).put o.dst undef, m')
  | some (.enter f args, m') => match call f args m' with
    | some (.ret v, m'') => some (.normal, a.put o.dst v, m'')
    | some (.panic v, m'') => some (.panic v, a, m'')
    | none => none
  | some (.panic v, m') => some (.panic v, a, m')
  | some (.recover, _) => none
  | none => none

noncomputable def fstep (P : Program) (call : FCallF) (ops : Array Oper) (o : Oper) (a : FAct) (m : FMem) : Option (AExit × FAct × FMem) :=
  match fwanted ops o a with
  | some false => some (.normal, a.put o.dst undef, m)
  | some true => fcalled call o a (fop P a o m)
  | none => none

noncomputable def flist (P : Program) (call : FCallF) (ops : Array Oper) : List Oper → FAct → FMem → Option (AExit × FAct × FMem)
  | [], a, m => some (.normal, a, m)
  | o :: rest, a, m => match fstep P call ops o a m with
    | some (.normal, a', m') => flist P call ops rest a' m'
    | r => r

/-! ### Regions that draw -/

def planSeg (ops : Array Oper) : List Nat → List Nat → Option (List Nat)
  | [], done => some done
  | i :: is, done => match ops[i]? with
    | some o => if predsIn o done && !done.contains i then planSeg ops is (i :: done) else none
    | none => none

def planOk (ops : Array Oper) (bs all : List Nat) : Nat → List Nat → List Nat → Bool
  | j, [], done => match planSeg ops (segment ops bs all j) done with
    | some d1 => (List.range ops.size).all (d1.contains ·)
    | none => false
  | j, e :: es, done => match planSeg ops (segment ops bs all j) done with
    | some d1 => (List.range ops.size).all (fun i => d1.contains i || i == e || bit bs i e) &&
      (match ops[e]? with
      | some o => predsIn o d1 && !d1.contains e
      | none => false) && planOk ops bs all (j + 1) es (e :: d1)
    | none => false

def okRegion (ops : Array Oper) : Bool := okDraw ops (bef ops) && planOk ops (bef ops) (effects ops) 0 (effects ops) []

def pairs (ops : Array Oper) : List Nat → List (Nat × Oper)
  | [] => []
  | i :: is => match ops[i]? with
    | some o => (i, o) :: pairs ops is
    | none => []

inductive Plan where
  | last (seg : List (Nat × Oper))
  | more (seg : List (Nat × Oper)) (e : Nat) (o : Oper) (b : Nat) (rest : Plan)

def planOf (ops : Array Oper) (bs all : List Nat) : Nat → List Nat → Plan
  | j, [] => .last (pairs ops (segment ops bs all j))
  | j, e :: es => match ops[e]? with
    | some o => .more (pairs ops (segment ops bs all j)) e o (bs.getD e 0) (planOf ops bs all (j + 1) es)
    | none => .last []

structure FObl where
  i : Nat
  o : Oper
  a : FAct
  v : Option Value

noncomputable def fobl1 (v : Value) : FOut → Bool
  | some (.val u, _) => sameV v u
  | _ => false

noncomputable def foblOk (P : Program) (m : FMem) (q : FObl) : Bool :=
  match q.v with
  | none => true
  | some v => !needs q.o.op || fobl1 v (fop P q.a q.o m)

noncomputable def ffreOk (m : FMem) (f : Fre) : Bool :=
  match m.get f.id with
  | some o => sameObj f.o o
  | none => false

noncomputable def fseg (P : Program) (ops : Array Oper) : List (Nat × Oper) → FAct → FMem → Option (FAct × FMem × List FObl × List Fre)
  | [], a, m => some (a, m, [], [])
  | (i, o) :: is, a, m => match fwanted ops o a with
    | none => none
    | some false => if okind o.op == 0 then match fseg P ops is (a.put o.dst undef) m with
        | some (a1, m1, q, f) => some (a1, m1, ⟨i, o, a, none⟩ :: q, f)
        | none => none
      else none
    | some true => match fop P a o m with
      | some (.val v, m') =>
        if okind o.op == 0 then match fseg P ops is (a.put o.dst v) m with
          | some (a1, m1, q, f) => some (a1, m1, ⟨i, o, a, some v⟩ :: q, f)
          | none => none
        else if okind o.op == 1 then match m'.get m.n, fseg P ops is (a.put o.dst v) m' with
          | some x, some (a1, m1, q, f) => some (a1, m1, q, ⟨i, m.n, x⟩ :: f)
          | _, _ => none
        else none
      | _ => none

noncomputable def fjunkAll (ops : List Oper) (a : FAct) : FAct := ops.foldl (fun a o => a.put o.dst junk) a

noncomputable def fstages (P : Program) (call : FCallF) (ops : Array Oper) : Plan → FAct → FMem → List FObl → List Fre → Option (AExit × FAct × FMem)
  | .last seg, a, m, q, f =>
    match fseg P ops seg a m with
    | some (a1, m1, q1, f1) => if (q1 ++ q).all (foblOk P m1) && (f1 ++ f).all (ffreOk m1) then some (.normal, a1, m1) else none
    | none => none
  | .more seg _ o b rest, a, m, q, f =>
    match fseg P ops seg a m with
    | some (a1, m1, q1, f1) =>
      if (q1 ++ q).all (foblOk P m1) && (f1 ++ f).all (ffreOk m1) then
        match fstep P call ops o a1 m1 with
        | some (.normal, a2, m2) => fstages P call ops rest a2 m2 ((q1 ++ q).filter fun x => !b.testBit x.i) ((f1 ++ f).filter fun x => !b.testBit x.i)
        | some (.panic v, a2, m2) => some (.panic v, fjunkAll ops.toList a2, m2)
        | _ => none
      else none
    | none => none

noncomputable def fregion (P : Program) (call : FCallF) (ops : Array Oper) (draw : Bool) (a : FAct) (m : FMem) : Option (AExit × FAct × FMem) :=
  if draw then (if okRegion ops then fstages P call ops (planOf ops (bef ops) (effects ops) 0 (effects ops)) a m [] [] else none)
  else flist P call ops ops.toList a m

/-! ### Code -/

noncomputable def floopN (body : FAct → FMem → Option (AExit × FAct × FMem)) : Nat → FAct → FMem → Option (AExit × FAct × FMem)
  | 0, _, _ => none
  | n + 1, a, m => match body a m with
    | some (.normal, a', m') => floopN body n a' m'
    | r => r

noncomputable def fcode (P : Program) (L : Nat) (call : FCallF) : Code → FAct → FMem → Option (AExit × FAct × FMem)
  | .skip, a, m => some (.normal, a, m)
  | .region _ ops draw, a, m => fregion P call ops draw a m
  | .seq x y, a, m => match fcode P L call x a m with
    | some (.normal, a', m') => fcode P L call y a' m'
    | r => r
  | .cond c x y, a, m => match fev P a c with
    | some (.bool true) => fcode P L call x a m
    | some (.bool false) => fcode P L call y a m
    | _ => none
  | .block id b, a, m => match fcode P L call b a m with
    | some (.exit i, a', m') => if i = id then some (.normal, a', m') else some (.exit i, a', m')
    | r => r
  | .loop b, a, m => floopN (fcode P L call b) L a m
  | .exit id, a, m => some (.exit id, a, m)
  | .ret, a, m => some (.ret, a, m)
  | _, _, _ => none

noncomputable def flistS (P : Program) (call : FCallF) (ops : Array Oper) : List Oper → FAct → AMode → FMem → Option (AExit × FAct × AMode × FMem)
  | [], a, u, m => some (.normal, a, u, m)
  | o :: rest, a, u, m =>
    match o.op with
    | .call { callee := .builtin .recover, args, .. } =>
      if args.isEmpty then
      match fwanted ops o a with
      | some false => flistS P call ops rest (a.put o.dst undef) u m
      | some true => match u with
        | .pan v false => flistS P call ops rest (a.put o.dst v) (.pan v true) m
        | _ => flistS P call ops rest (a.put o.dst .nilIface) u m
      | none => none
      else none
    | _ => match fstep P call ops o a m with
      | some (.normal, a', m') => flistS P call ops rest a' u m'
      | some (e, a', m') => some (e, a', u, m')
      | none => none

noncomputable def fcodeS (P : Program) (L : Nat) (call : FCallF) : Code → FAct → AMode → FMem → Option (AExit × FAct × AMode × FMem)
  | .seq x y, a, u, m => match fcodeS P L call x a u m with
    | some (.normal, a', u', m') => fcodeS P L call y a' u' m'
    | r => r
  | .cond c x y, a, u, m => match fev P a c with
    | some (.bool true) => fcodeS P L call x a u m
    | some (.bool false) => fcodeS P L call y a u m
    | _ => none
  | .region _ ops false, a, u, m => flistS P call ops ops.toList a u m
  | c, a, u, m => match fcode P L call c a m with
    | some (e, a', m') => some (e, a', u, m')
    | none => none

/-! ### Calls -/

noncomputable def fresult (P : Program) (a : FAct) (m : FMem) : ResultVar → Option Value
  | .tmp t => unjunk (a.get t)
  | .cell b t => match a.get b with
    | some v => fload P t v m
    | none => none

noncomputable def fresults (P : Program) (a : FAct) (m : FMem) : List ResultVar → Option (List Value)
  | [] => some []
  | r :: rs => match fresult P a m r with
    | some v => match fresults P a m rs with
      | some vs => some (v :: vs)
      | none => none
    | none => none

noncomputable def fillT (t : T Value) (i : Nat) : List Value → T Value
  | [] => t
  | v :: vs => fillT (t.set 10 i v) (i + 1) vs

noncomputable def fenter (fn : Func) (args : Array Value) : Option FAct :=
  if h : Nat.max fn.ntmps args.toList.length ≤ 1022 then some ⟨Nat.max fn.ntmps args.toList.length, fillT .nil 0 args.toList, [], h⟩ else none

noncomputable def fcallD (P : Program) (L : Nat) (call : FCallF) (f : FuncId) (args : Array Value) (u : AMode) (m : FMem) : Option (AEnd × AMode × FMem) :=
  match P.funcs[f]? with
  | some fn => match fn.body, fenter fn args with
    | some c, some a0 => match fcodeS P L call c a0 u m with
      | some (e, a, u', m') =>
        if a.defers.isEmpty then
          match e with
          | .normal | .ret => match fresults P a m' fn.results.toList with
            | some vs => some (.ret (asOne vs), u', m')
            | none => none
          | .panic v => some (.panic v, u', m')
          | .exit _ => none
        else none
      | none => none
    | _, _ => none
  | none => none

noncomputable def fleave (P : Program) (L : Nat) (call : FCallF) (fn : Func) (a : FAct) : List Deferred → AMode → FMem → Option (AEnd × FMem)
  | [], .ret, m => match fresults P a m fn.results.toList with
    | some vs => some (.ret (asOne vs), m)
    | none => none
  | [], .pan v false, m => some (.panic v, m)
  | [], .pan _ true, _ => none
  | d :: ds, u, m => match d.target with
    | .fn (.func f) captured =>
      match P.funcs[f]? with
      | some g => if g.body.isSome && g.name != "runtime.NumGoroutine" then
        match fcallD P L call f (d.args ++ captured) u m with
        | some (.ret _, u', m') => fleave P L call fn a ds (asettle u') m'
        | some (.panic v, .ret, m') => fleave P L call fn a ds (.pan v false) m'
        | _ => none
        else none
      | none => none
    | _ => none

abbrev FOvF := FuncId → Option (Array Value → FMem → Option (AEnd × FMem))

noncomputable def fbody (P : Program) (n : Nat) (call : FCallF) (fn : Func) (a0 : FAct) (m : FMem) : Option Code → Option (AEnd × FMem)
  | some c => match fcode P n call c a0 m with
    | some (.normal, a, m') => fleave P n call fn a a.defers .ret m'
    | some (.ret, a, m') => fleave P n call fn a a.defers .ret m'
    | some (.panic v, a, m') => fleave P n call fn a a.defers (.pan v false) m'
    | _ => none
  | none => none

noncomputable def fcall (P : Program) (ov : FOvF) : Nat → FCallF
  | 0, _, _, _ => none
  | n + 1, f, args, m =>
    match ov f with
    | some g => g args m
    | none =>
      match P.funcs[f]? with
      | some fn => match fenter fn args with
        | some a0 => fbody P n (fcall P ov n) fn a0 m fn.body
        | none => none
      | none => none

end Go.Abs
