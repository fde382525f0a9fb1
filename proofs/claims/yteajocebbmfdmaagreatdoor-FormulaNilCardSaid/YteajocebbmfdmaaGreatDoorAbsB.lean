/- The abstract machine, 2: the operations. Definitions only. -/
import Derived.Test.YteajocebbmfdmaaGreatDoorAbsA
namespace Go.Abs

inductive ARes where
  | val (v : Value)
  | skip
  | defer (d : Deferred)
  | enter (f : FuncId) (args : Array Value)
  | panic (v : Value)
  | recover
  deriving Inhabited

abbrev AOut := Option (ARes × AMem)

def asN : Value → Option Nat
  | .int _ n => if 0 ≤ n then some n.toNat else none
  | _ => none

/-- A new row. -/
def anew (k : RowKind) (e : TypeId) (cells : List Value) (m : AMem) : Option (Nat × AMem) :=
  if cells.all flat then some (m.length, m ++ [.row k e cells]) else none

/-- '==' on two values. -/
def aeql (P : Program) (t : TypeId) (m : AMem) (x y : Value) : Option Bool :=
  match P.underlying t, x, y with
  | some .bool, .bool a, .bool b => some (a == b)
  | some (.pointer _), .pointer none, .pointer b => some b.isNone
  | some (.pointer _), .pointer (some _), .pointer none => some false
  | some (.pointer e), .pointer (some ⟨a, i, none⟩), .pointer (some ⟨b, j, none⟩) =>
    match tsize P e, m[a]?, m[b]? with
    | some n, some (.row k _ _), some (.row l _ _) =>
      if n = 0 ∨ k = .ro ∨ l = .ro then none else some (a == b && i == j)
    | _, _, _ => none
  | some (.slice _), .slice none _ _, .slice b _ _ => some b.isNone
  | some (.slice _), .slice (some _) _ _, .slice none _ _ => some false
  | some (.map _ _), .map none, .map b => some b.isNone
  | some (.map _ _), .map (some _), .map none => some false
  | some (.func _ _ _), .nilFunc, .nilFunc => some true
  | some (.func _ _ _), .nilFunc, .func _ _ _ => some false
  | some (.func _ _ _), .func _ _ _, .nilFunc => some false
  | some (.interface _), .nilIface, .iface _ _ => some false
  | some (.interface _), .iface _ _, .nilIface => some false
  | _, .agg xs, .agg ys => if P.eqGuardType P.depth t then none else eqAt P 10000 t (.agg xs) (.agg ys)
  | _, _, _ => none

def isC : Operand → Bool
  | .const _ => true
  | _ => false

def abin (P : Program) (op : BinOp) (t : TypeId) (x y : Operand) (m : AMem) (a b : Value) : Option Value :=
  match op, a, b with
  | .shl, .int k i, .int _ j => ashift .shl k i j
  | .shr, .int k i, .int _ j => ashift .shr k i j
  | op, .int k i, .int l j => if k = l then aint op k i j else none
  | op, .string s, .string r => astr op s r
  | .eql, .nilIface, .nilIface =>
    match P.underlying t with
    | some (.interface _) => if isC x || isC y then some (.bool true) else none
    | _ => none
  | .neq, .nilIface, .nilIface =>
    match P.underlying t with
    | some (.interface _) => if isC x || isC y then some (.bool false) else none
    | _ => none
  | .eql, a, b => match aeql P t m a b with
    | some r => some (.bool r)
    | none => none
  | .neq, a, b => match aeql P t m a b with
    | some r => some (.bool !r)
    | none => none
  | _, _, _ => none

def aun (op : UnOp) (x : Value) : Option Value :=
  match op, x with
  | .neg, .int k n => some (.int k (k.wrap (0 - n)))
  | .xor, .int k n => match abits .xor k (if k.signed then -1 else k.max) n with
    | some r => some (.int k r)
    | none => none
  | .not, .bool b => some (.bool !b)
  | _, _ => none

def bytesOf : List Value → Option (List UInt8)
  | [] => some []
  | .int .u8 n :: r => match bytesOf r with
    | some bs => some (UInt8.ofNat n.toNat :: bs)
    | none => none
  | _ => none

def aconv (P : Program) (src dst : TypeId) (x : Value) (m : AMem) : Option Value :=
  match P.underlying src, P.underlying dst, x with
  | some _, some (.int k), .int _ n => some (.int k (k.wrap n))
  | some _, some .string, .string s => some (.string s)
  | some (.slice e), some .string, .slice none _ _ =>
    match P.underlying e with
    | some (.int .u8) => some (.string .empty)
    | _ => none
  | some (.slice e), some .string, .slice (some ⟨b, off, none⟩) n _ =>
    match P.underlying e with
    | some (.int .u8) => match loadN m b off n with
      | some cs => match bytesOf cs with
        | some bs => some (.string ⟨bs.toArray⟩)
        | none => none
      | none => none
    | _ => none
  | some (.pointer t), some .unsafePointer, .pointer (some ⟨b, off, none⟩) =>
    match tsize P t, m[b]? with
    | some n, some (.row .var _ cs) => if n ≠ 0 ∧ off < cs.length then some (.pointer (some ⟨b, off, none⟩)) else none
    | _, _ => none
  | some .unsafePointer, some (.pointer u), .pointer (some ⟨b, off, none⟩) =>
    match tsize P u, m[b]? with
    | some _, some (.row .var e cs) => if liesAt P P.depth e (cs.length / P.cellsOf e) off u 1 then some (.pointer (some ⟨b, off, none⟩)) else none
    | _, _ => none
  | _, _, _ => none

def fieldPlaces (P : Program) : List Field → Option (List (Nat × Nat))
  | [] => some []
  | f :: fs => match tsize P f.type with
    | some n => match fieldPlaces P fs with
      | some ps => some ((f.offset, n) :: ps)
      | none => none
    | none => none

def abuild (P : Program) (t : TypeId) (parts : List (Nat × Value)) : Option Value :=
  match P.info? t with
  | some i => match i.zero with
    | some z => if z.cells.toList.all shutV = false then none else
      match P.underlying t with
      | some (.struct fields) => match fieldPlaces P fields.toList with
        | some ps => match Instr.fill (ps[·]?) z.cells parts with
          | some cs => if cs.toList.all flat then some (.agg cs) else none
          | none => none
        | none => none
      | some (.array _ elem) => match tsize P elem with
        | some n => match Instr.fill (fun i => some (i * n, n)) z.cells parts with
          | some cs => if cs.toList.all flat then some (.agg cs) else none
          | none => none
        | none => none
      | _ => none
    | none => none
  | none => none

/-- 'n' zero elements. -/
def zeros (P : Program) (e : TypeId) (n : Nat) : Option (List Value) :=
  match P.info? e with
  | some i => match i.zero with
    | some z => if z.cells.toList.all shutV = false then none else if z.cells.size = i.size ∧ 0 < i.size then some (List.replicate n z.cells.toList).flatten else none
    | none => none
  | none => none

def abuildSlice (P : Program) (t : TypeId) (len : Nat) (parts : List (Nat × Value)) (m : AMem) : AOut :=
  match P.underlying t with
  | some (.slice e) => match tsize P e, zeros P e len with
    | some n, some zs => if len * n > 2 ^ 24 then none else
      match Instr.fill (fun i => some (i * n, n)) zs.toArray parts with
      | some cs => match anew .sl e cs.toList m with
        | some (b, m') => some (.val (.slice (some ⟨b, 0, none⟩) len len), m')
        | none => none
      | none => none
    | _, _ => none
  | _ => none

def fieldOff (P : Program) (s : TypeId) (f : Nat) : Option Nat :=
  match P.underlying s with
  | some (.struct fields) => match fields[f]? with
    | some f => match tsize P f.type with
      | some 0 => none
      | some _ => some f.offset
      | none => none
    | none => none
  | _ => none

def afieldAddr (P : Program) (s : TypeId) (v : Value) (f : Nat) : Option Value :=
  match v, fieldOff P s f with
  | .pointer (some ⟨b, off, none⟩), some o => some (.pointer (some ⟨b, off + o, none⟩))
  | _, _ => none

def afield (P : Program) (t : TypeId) (v : Value) (f : Nat) : Option Value :=
  match P.underlying t, v with
  | some (.struct fields), .agg cs => match fields[f]? with
    | some f => apart P f.type cs f.offset
    | none => none
  | _, _ => none

def aindexAddr (P : Program) (t : TypeId) (x i : Value) : Option Value :=
  match P.underlying t, x, i with
  | some (.slice e), .slice (some ⟨b, off, none⟩) len _, .int _ n =>
    match tsize P e with
    | some k => if 0 ≤ n ∧ n < len then some (.pointer (some ⟨b, off + n.toNat * k, none⟩)) else none
    | none => none
  | some (.array len e), .pointer (some ⟨b, off, none⟩), .int _ n =>
    match tsize P e with
    | some k => if 0 ≤ n ∧ n < len then some (.pointer (some ⟨b, off + n.toNat * k, none⟩)) else none
    | none => none
  | _, _, _ => none

def aindex (P : Program) (t : TypeId) (x i : Value) : Option Value :=
  match P.underlying t, x, i with
  | some (.array len e), .agg cs, .int _ n =>
    match tsize P e with
    | some k => if 0 ≤ n ∧ n < len then apart P e cs (n.toNat * k) else none
    | none => none
  | some .string, .string s, .int _ n =>
    if 0 ≤ n then match s[n.toNat]? with
      | some b => some (.int .u8 b.toNat)
      | none => none
    else none
  | _, _, _ => none

/-- A value without addresses that can be a map's key. -/
def plainKey : Value → Bool
  | .bool _ | .int _ _ | .string _ => true
  | .agg cs => cs.toList.all fun | .bool _ | .int _ _ | .string _ => true | _ => false
  | _ => false

def keyFields (P : Program) (ok : TypeId → Value → Bool) (cs : Array Value) : List Field → Bool
  | [] => true
  | f :: fs => (f.name == "_" || match apart P f.type cs f.offset with | some v => ok f.type v | none => false) && keyFields P ok cs fs

def keyElems (P : Program) (ok : TypeId → Value → Bool) (e : TypeId) (n : Nat) (cs : Array Value) : Nat → Nat → Bool
  | 0, _ => true
  | k + 1, i => (match apart P e cs (i * n) with | some v => ok e v | none => false) && keyElems P ok e n cs k (i + 1)

/-- As 'Instr.checkKey' at a type without interfaces. -/
def keyOk (P : Program) : Nat → TypeId → Value → Bool
  | 0, _, _ => false
  | d + 1, t, v =>
    match P.underlying t, v with
    | some (.interface _), _ => false
    | some (.array len e), .agg cs => match tsize P e with
      | some n => keyElems P (keyOk P d) e n cs len 0
      | none => false
    | some (.struct fs), .agg cs => keyFields P (keyOk P d) cs fs.toList
    | some (.array _ _), _ | some (.struct _), _ => false
    | some _, _ => true
    | none, _ => false

def afind (P : Program) (t : TypeId) (k : Value) : List MapEntry → Nat → Option (Option (Nat × Value))
  | [], _ => some none
  | e :: es, i => match eqAt P 10000 t k e.key with
    | some true => some (some (i, e.val))
    | some false => afind P t k es (i + 1)
    | none => none

def azero (P : Program) (t : TypeId) : Option Value :=
  match P.info? t with
  | some i => i.zero
  | none => none

def zeroShut : Value → Bool
  | .agg cs => cs.toList.all shutV && cs.toList.all flat
  | z => shutV z

def alookup (P : Program) (t : TypeId) (x k : Value) (ok : Bool) (m : AMem) : Option Value :=
  match P.underlying t with
  | some (.map key elem) =>
    if keyOk P 10000 key k && plainKey k then
      let es : Option (List MapEntry) := match x with
        | .map none => some []
        | .map (some r) => match m[r]? with
          | some (.map es _) => some es
          | _ => none
        | _ => none
      match es with
      | some es => match afind P key k es 0 with
        | some (some (_, v)) => some (if ok then .tuple #[v, .bool true] else v)
        | some none => match azero P elem with
          | some z => if zeroShut z then some (if ok then .tuple #[z, .bool false] else z) else none
          | none => none
        | none => none
      | none => none
    else none
  | _ => none

def amapUpdate (P : Program) (t : TypeId) (x k v : Value) (m : AMem) : Option AMem :=
  match P.underlying t, x with
  | some (.map key _), .map (some r) =>
    if keyOk P 10000 key k && plainKey k then
      match m[r]? with
      | some (.map es clock) => match afind P key k es 0 with
        | some (some (i, _)) =>
          match es[i]? with
          | some e => if Instr.sameBits 10000 e.key k then some (m.set r (.map (es.modify i fun e => { e with key := k, val := v }) clock)) else none
          | none => none
        | some none => some (m.set r (.map (es ++ [{ key := k, val := v, born := clock }]) (clock + 1)))
        | none => none
      | _ => none
    else none
  | _, _ => none

def adelete (P : Program) (t : TypeId) (x k : Value) (m : AMem) : Option AMem :=
  match P.underlying t, x with
  | some (.map key _), .map (some r) =>
    if keyOk P 10000 key k && plainKey k then
      match m[r]? with
      | some (.map es clock) => match afind P key k es 0 with
        | some (some (i, _)) => some (m.set r (.map (es.eraseIdx i) clock))
        | some none => some (m.set r (.map es clock))
        | none => none
      | _ => none
    else none
  | _, _ => none

def amapEntry (P : Program) (t : TypeId) (x k : Value) (m : AMem) : AOut :=
  match P.underlying t, x with
  | some (.map key elem), .map (some r) =>
    if keyOk P 10000 key k && plainKey k then
      match m[r]? with
      | some (.map es clock) => match afind P key k es 0 with
        | some (some (i, v)) =>
          match es[i]? with
          | some e => if Instr.sameBits 10000 e.key k then some (.val (.tuple #[v, goInt e.born]), m.set r (.map (es.modify i fun e => { e with key := k }) clock)) else none
          | none => none
        | some none => match azero P elem with
          | some z => if shutV z then some (.val (.tuple #[z, goInt clock]), m.set r (.map (es ++ [{ key := k, val := z, born := clock }]) (clock + 1))) else none
          | none => none
        | none => none
      | _ => none
    else none
  | _, _ => none

def aentryStore (x s v : Value) (m : AMem) : Option AMem :=
  match x, s with
  | .map (some r), .int _ born => match m[r]? with
    | some (.map es clock) => match es.findIdx? (fun e => (e.born : Int) == born) with
      | some i => some (m.set r (.map (es.modify i fun e => { e with val := v }) clock))
      | none => none
    | _ => none
  | _, _ => none

def boundOf (o : Option Value) (d : Nat) : Option Nat :=
  match o with
  | some v => asN v
  | none => some d

/-- The third number of an abstract slice: its length: the capacity is the length; one more: the capacity is not known; 2 at a slice of length 0: nor is the place. -/
def aslice (P : Program) (t : TypeId) (x : Value) (lo hi mx : Option Value) : Option Value :=
  match P.underlying t, x with
  | some .string, .string s =>
    match mx with
    | some _ => none
    | none =>
      match boundOf hi s.size, boundOf lo 0 with
      | some h, some l => if h ≤ s.size ∧ l ≤ h then some (.string (s.extract l h)) else none
      | _, _ => none
  | some (.slice e), .slice a len c =>
    match tsize P e with
    | some n => if n = 0 then none else
      match mx, boundOf hi len, boundOf lo 0 with
      | some v, some h, some l =>
        match asN v, hi with
        | some mm, some _ =>
          if mm ≤ len ∧ h ≤ mm ∧ l ≤ h then
            match a with
            | none => some (.slice none 0 0)
            | some ⟨b, off, none⟩ => if len = 0 ∧ c = 2 then none else some (.slice (some ⟨b, if mm = l then off else off + l * n, none⟩) (h - l) (if mm = h then h - l else h - l + 1))
            | _ => none
          else none
        | _, _ => none
      | none, some h, some l =>
        if h ≤ len ∧ l ≤ h then
          match a with
          | none => some (.slice none 0 0)
          | some ⟨b, off, none⟩ =>
            if len = 0 ∧ c = 2 then some (.slice (some ⟨b, off, none⟩) 0 2)
            else if c = len then some (.slice (some ⟨b, if len = l then off else off + l * n, none⟩) (h - l) (if h = len then h - l else h - l + 1))
            else if l = 0 then some (.slice (some ⟨b, off, none⟩) h (h + 1))
            else if l < len then some (.slice (some ⟨b, off + l * n, none⟩) (h - l) (h - l + 1))
            else some (.slice (some ⟨b, 0, none⟩) 0 2)
          | _ => none
        else none
      | _, _, _ => none
    | none => none
  | _, _ => none

/-- The first n elements (size cells each) of a slice or a string. -/
def afirst (size n : Nat) (v : Value) (m : AMem) : Option (List Value) :=
  match v with
  | .slice none _ _ => if n = 0 then some [] else none
  | .slice (some ⟨b, off, none⟩) len _ => if n ≤ len then (if n = 0 then some [] else loadN m b off (n * size)) else none
  | .string s => if n ≤ s.size ∧ size = 1 then some ((s.extract 0 n).data.toList.map fun b => .int .u8 b.toNat) else none
  | _ => none

def alen1 : Value → Option Nat
  | .slice _ n _ => some n
  | .string s => some s.size
  | _ => none

def aappend (P : Program) (ts : List TypeId) (s x : Value) (m : AMem) : AOut :=
  match ts with
  | t :: u :: _ =>
    match P.underlying t, P.underlying u with
    | _, some (.int _) => none
    | some (.slice e), some _ =>
      match P.info? e, zeros P e 0, alen1 x with
      | some i, some _, some n =>
        match s with
        | .slice base len c =>
          if i.bytes = 0 then none else
          if n = 0 then some (.val s, m) else
          if (len + n) * i.bytes > 2 ^ 47 then none else
          match afirst i.size n x m, afirst i.size len s m with
          | some new, some old =>
            if !new.all flat then none else
            match base with
            | none => some (.val (.slice (some ⟨m.length, 0, none⟩) (len + n) (len + n + 1)), m ++ [.row .sl e (old ++ new)])
            | some ⟨b, off, none⟩ =>
              if c = len then some (.val (.slice (some ⟨m.length, 0, none⟩) (len + n) (len + n + 1)), m ++ [.row .sl e (old ++ new)])
              else if c = len + 1 ∧ off = 0 then
                match m[b]? with
                | some (.row .sl e' _) => if e' = e then some (.val (.slice (some ⟨m.length, 0, none⟩) (len + n) (len + n + 1)), m.set b .dead ++ [.row .sl e (old ++ new)]) else none
                | _ => none
              else none
            | _ => none
          | _, _ => none
        | _ => none
      | _, _, _ => none
    | _, _ => none
  | _ => none

def acopy (P : Program) (ts : List TypeId) (d s : Value) (m : AMem) : AOut :=
  match ts with
  | t :: _ => match P.underlying t with
    | some (.slice e) => match tsize P e, alen1 s, d with
      | some size, some sn, .slice base dn _ =>
        let n := Nat.min sn dn
        match afirst size n s m with
        | some cs => match base with
          | some ⟨b, off, none⟩ => if n = 0 then some (.val (goInt n), m) else
            match storeN m b off cs with
            | some m' => some (.val (goInt n), m')
            | none => none
          | none => some (.val (goInt n), m)
          | _ => none
        | none => none
      | _, _, _ => none
    | _ => none
  | _ => none

def alenOf (P : Program) (t : TypeId) (v : Value) (m : AMem) : Option Value :=
  match P.underlying t, v with
  | some .string, .string s => some (goInt s.size)
  | some (.array n _), _ => some (goInt n)
  | some (.slice _), .slice _ n _ => some (goInt n)
  | some (.map _ _), .map none => some (goInt 0)
  | some (.map _ _), .map (some r) => match m[r]? with
    | some (.map es _) => some (goInt es.length)
    | _ => none
  | _, _ => none

def amakeSlice (P : Program) (t : TypeId) (l c : Value) (m : AMem) : AOut :=
  match P.underlying t, l, c with
  | some (.slice e), .int _ l, .int _ c =>
    match P.info? e with
    | some i =>
      if 0 ≤ l ∧ l ≤ c ∧ c * i.bytes ≤ 2 ^ 47 ∧ c < 2 ^ 62 then
        match zeros P e c.toNat with
        | some zs => match anew .sl e zs m with
          | some (b, m') => some (.val (.slice (some ⟨b, 0, none⟩) l.toNat (if l = c then l.toNat else l.toNat + 1)), m')
          | none => none
        | none => none
      else none
    | none => none
  | _, _, _ => none

def atypeAssert (P : Program) (x : Value) (t : TypeId) (ok : Bool) : Option Value :=
  match P.underlying t, x with
  | some (.interface _), _ => none
  | some _, .iface u v => if u = t then some (if ok then .tuple #[v, .bool true] else v) else none
  | _, _ => none

def aminmax (isMax : Bool) : List Value → Option Value
  | [] => none
  | .int k x :: r => go k x r
  | _ => none
  where go (k : IntKind) (x : Int) : List Value → Option Value
  | [] => some (.int k x)
  | .int _ y :: r => go k (if isMax then (if x < y then y else x) else (if y < x then y else x)) r
  | _ => none

/-- The bytes at a place: an array of bytes becomes a string; it must not be looked at again. -/
def aunsafeString (P : Program) (pt : TypeId) (p n : Value) (m : AMem) : AOut :=
  match P.underlying pt, p, n with
  | some (.pointer u), .pointer (some ⟨b, off, none⟩), .int _ n =>
    match P.underlying u, m[b]? with
    | some (.int .u8), some (.row .sl e _) =>
      if 0 < n ∧ n ≤ IntKind.i64.max ∧ e = u ∧ P.cellsOf e = 1 ∧ off = 0 then
        match loadN m b off n.toNat with
        | some cs => match bytesOf cs with
          | some bs => some (.val (.string ⟨bs.toArray⟩), m.set b .dead)
          | none => none
        | none => none
      else none
    | _, _ => none
  | _, _, _ => none

def abuiltin (P : Program) (b : Builtin) (ts : List TypeId) (args : List Value) (m : AMem) : AOut :=
  match b, args with
  | .append, [s, x] => aappend P ts s x m
  | .copy, [d, s] => acopy P ts d s m
  | .delete, [x, k] => match ts with
    | t :: _ => match adelete P t x k m with
      | some m' => some (.val (.tuple #[]), m')
      | none => none
    | _ => none
  | .len, [v] => match ts with
    | t :: _ => match alenOf P t v m with
      | some r => some (.val r, m)
      | none => none
    | _ => none
  | .min, vs => match aminmax false vs with
    | some r => some (.val r, m)
    | none => none
  | .max, vs => match aminmax true vs with
    | some r => some (.val r, m)
    | none => none
  | .recover, [] => some (.recover, m)
  | .unsafeSliceData, [.slice (some ⟨b, off, none⟩) len _] => if 0 < len then some (.val (.pointer (some ⟨b, off, none⟩)), m) else none
  | .unsafeString, [p, n] => match ts with
    | t :: _ => aunsafeString P t p n m
    | _ => none
  | _, _ => none

def acallee (P : Program) (f : FuncId) (args : List Value) (m : AMem) : AOut :=
  match P.funcs[f]? with
  | some fn =>
    match fn.body with
    | some _ => if fn.name == "runtime.NumGoroutine" then none else some (.enter f args.toArray, m)
    | none => if fn.name == "internal/abi.NoEscape" then (match args with | [x] => some (.val x, m) | _ => none) else none
  | none => none

def some1 (m : AMem) : Option Value → AOut
  | some v => some (.val v, m)
  | none => none

def skip1 : Option AMem → AOut
  | some m => some (.skip, m)
  | none => none

/-- One operation. -/
def aop (P : Program) (a : Act) (o : Oper) (m : AMem) : AOut :=
  match o.op with
  | .move x | .assign x => some1 m (aev P a x)
  | .pick c x y => match aev P a c with
    | some (.bool t) => some1 m (if t then aev P a x else aev P a y)
    | _ => none
  | .alloc e => match azero P e with
    | some z => match anew .var e z.cells.toList m with
      | some (b, m') => if z.cells.toList.all shutV then some (.val (.pointer (some ⟨b, 0, none⟩)), m') else none
      | none => none
    | none => none
  | .box e x => match aev P a x with
    | some v => match anew .var e v.cells.toList m with
      | some (b, m') => some (.val (.pointer (some ⟨b, 0, none⟩)), m')
      | none => none
    | none => none
  | .build t parts => match aevPairs P a parts.toList with
    | some ps => some1 m (abuild P t ps)
    | none => none
  | .buildSlice t len parts => match aevPairs P a parts.toList with
    | some ps => abuildSlice P t len ps m
    | none => none
  | .load t x => match aev P a x with
    | some v => some1 m (aload P t v m)
    | none => none
  | .store t x y => match aev P a x, aev P a y with
    | some v, some u => skip1 (astore P t v u m)
    | _, _ => none
  | .nilCheck x => match aev P a x with
    | some (.pointer (some p)) => some (.val (.pointer (some p)), m)
    | some (.func (.func f) u v) => some (.val (.func (.func f) u v), m)
    | _ => none
  | .binOp op t x y _ => match aev P a x, aev P a y with
    | some u, some v => some1 m (abin P op t x y m u v)
    | _, _ => none
  | .unOp op _ x => match aev P a x with
    | some v => some1 m (aun op v)
    | none => none
  | .convert s d x => match aev P a x with
    | some v => some1 m (aconv P s d v m)
    | none => none
  | .makeInterface t x => match P.underlying t, aev P a x with
    | some (.interface _), _ => none
    | some _, some v => some (.val (.iface t v), m)
    | _, _ => none
  | .makeFunc fn first captured => match aevs P a first.toList, aevs P a captured.toList with
    | some u, some v => some (.val (.func fn u.toArray v.toArray), m)
    | _, _ => none
  | .makeMap t r => match r with
    | none => some (.val (.map (some m.length)), m ++ [.map [] 0])
    | some x => match P.underlying t, aev P a x with
      | some (.map _ _), some (.int _ _) => some (.val (.map (some m.length)), m ++ [.map [] 0])
      | _, _ => none
  | .makeSlice t l c => match aev P a l, aev P a c with
    | some u, some v => amakeSlice P t u v m
    | _, _ => none
  | .slice t x lo hi mx => match aev P a x, aevO P a lo, aevO P a hi, aevO P a mx with
    | some v, some l, some h, some k => some1 m (aslice P t v l h k)
    | _, _, _, _ => none
  | .fieldAddr s x f => match aev P a x with
    | some v => some1 m (afieldAddr P s v f)
    | none => none
  | .field t x f => match aev P a x with
    | some v => some1 m (afield P t v f)
    | none => none
  | .indexAddr t x i => match aev P a x, aev P a i with
    | some u, some v => some1 m (aindexAddr P t u v)
    | _, _ => none
  | .index t x i => match aev P a x, aev P a i with
    | some u, some v => some1 m (aindex P t u v)
    | _, _ => none
  | .lookup t x k ok => match aev P a x, aev P a k with
    | some u, some v => some1 m (alookup P t u v ok m)
    | _, _ => none
  | .mapUpdate t x k v | .insert t x k v => match aev P a x, aev P a k, aev P a v with
    | some x, some k, some v => skip1 (amapUpdate P t x k v m)
    | _, _, _ => none
  | .mapEntry t x k => match aev P a x, aev P a k with
    | some x, some k => amapEntry P t x k m
    | _, _ => none
  | .entryStore _ x s v => match aev P a x, aev P a s, aev P a v with
    | some x, some s, some v => skip1 (aentryStore x s v m)
    | _, _, _ => none
  | .range t x => match P.underlying t, aev P a x with
    | some .string, some (.string s) => some (.val (.pointer (some ⟨m.length, 0, none⟩)), m ++ [.sIter s 0])
    | _, _ => none
  | .next it true => match aev P a it with
    | some (.pointer (some ⟨r, 0, _⟩)) => match m[r]? with
      | some (.sIter s pos) =>
        if pos < s.size then
          match Utf8.decode s pos with
          | (c, width) => some (.val (.tuple #[.bool true, goInt pos, .int .i32 c]), m.set r (.sIter s (pos + width)))
        else some (.val (.tuple #[.bool false]), m)
      | _ => none
    | _ => none
  | .typeAssert x _ t ok => match aev P a x with
    | some v => some1 m (atypeAssert P v t ok)
    | none => none
  | .extract x i => match aev P a x with
    | some (.tuple vs) => some1 m vs[i]?
    | _ => none
  | .call c => match c.callee, aevs P a c.args.toList with
    | .builtin b, some args => abuiltin P b c.argTypes.toList args m
    | .value f, some args => match aev P a f with
      | some (.func (.func f) first captured) => acallee P f (first.toList ++ args ++ captured.toList) m
      | _ => none
    | _, _ => none
  | .defer c => match c.callee, aevs P a c.args.toList with
    | .value f, some args => match aev P a f with
      | some (.func (.func f) first captured) => some (.defer { target := .fn (.func f) captured, args := (first.toList ++ args).toArray }, m)
      | _ => none
    | _, _ => none
  | .panic x => match aev P a x with
    | some (.iface t v) => some (.panic (.iface t v), m)
    | _ => none
  | _ => none

end Go.Abs
