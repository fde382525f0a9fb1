/- The quick machine, 1: the abstract machine over trees in place of lists. What it answers the abstract machine answers. Definitions. -/
import Derived.Test.YteajocebbmfdmaaGreatDoorAbsC
namespace Go.Abs

inductive T (α : Type) where
  | nil
  | node (v : Option α) (l r : T α)

noncomputable def T.get {α : Type} (d : Nat) : T α → Nat → Option α :=
  Nat.rec (motive := fun _ => T α → Nat → Option α) (fun _ _ => none)
    (fun _ ih t n => T.rec (motive := fun _ => Option α) none
      (fun v l r _ _ => Bool.rec (motive := fun _ => Option α) (Bool.rec (motive := fun _ => Option α) (ih r (Nat.pred (Nat.div n 2))) (ih l (Nat.div n 2)) (Nat.beq (Nat.mod n 2) 1)) v (Nat.beq n 0)) t) d

noncomputable def T.set {α : Type} (d : Nat) : T α → Nat → α → T α :=
  Nat.rec (motive := fun _ => T α → Nat → α → T α) (fun t _ _ => t)
    (fun _ ih t n x => T.rec (motive := fun _ => T α)
      (Bool.rec (motive := fun _ => T α) (Bool.rec (motive := fun _ => T α) (.node none .nil (ih .nil (Nat.pred (Nat.div n 2)) x)) (.node none (ih .nil (Nat.div n 2) x) .nil) (Nat.beq (Nat.mod n 2) 1)) (.node (some x) .nil .nil) (Nat.beq n 0))
      (fun v l r _ _ => Bool.rec (motive := fun _ => T α) (Bool.rec (motive := fun _ => T α) (.node v l (ih r (Nat.pred (Nat.div n 2)) x)) (.node v (ih l (Nat.div n 2) x) r) (Nat.beq (Nat.mod n 2) 1)) (.node (some x) l r) (Nat.beq n 0)) t) d

/-- Memory. -/
structure FMem where
  n : Nat
  t : T AObj
  le : n ≤ 8190

noncomputable def FMem.get (m : FMem) (i : Nat) : Option AObj := bif Nat.blt i m.n then some ((m.t.get 13 i).getD .dead) else none
noncomputable def FMem.put (m : FMem) (i : Nat) (o : AObj) : FMem := ⟨m.n, m.t.set 13 i o, m.le⟩
noncomputable def FMem.push (m : FMem) (o : AObj) : Option FMem := if h : m.n < 8190 then some ⟨m.n + 1, m.t.set 13 m.n o, h⟩ else none

/-- A function's slots. -/
structure FAct where
  n : Nat
  t : T Value
  defers : List Deferred
  le : n ≤ 1022

noncomputable def FAct.get (a : FAct) (i : Nat) : Option Value := bif Nat.blt i a.n then some ((a.t.get 10 i).getD undef) else none
noncomputable def FAct.put (a : FAct) (dst : Option Tmp) (v : Value) : FAct := match dst with
  | some d => bif Nat.blt d a.n then ⟨a.n, a.t.set 10 d v, a.defers, a.le⟩ else a
  | none => a

noncomputable def fev (P : Program) (a : FAct) : Operand → Option Value
  | .tmp t => unjunk (a.get t)
  | .const v => if shutV v then some v else none
  | .func f => some (.func (.func f) #[] #[])
  | .global g => if g < P.globals.size then some (.pointer (some ⟨g, 0, none⟩)) else none

noncomputable def fevs (P : Program) (a : FAct) : List Operand → Option (List Value)
  | [] => some []
  | x :: xs => match fev P a x with
    | some v => match fevs P a xs with
      | some vs => some (v :: vs)
      | none => none
    | none => none

noncomputable def fevPairs (P : Program) (a : FAct) : List (Nat × Operand) → Option (List (Nat × Value))
  | [] => some []
  | (i, x) :: xs => match fev P a x with
    | some v => match fevPairs P a xs with
      | some vs => some ((i, v) :: vs)
      | none => none
    | none => none

noncomputable def fevO (P : Program) (a : FAct) : Option Operand → Option (Option Value)
  | none => some none
  | some x => match fev P a x with
    | some v => some (some v)
    | none => none

noncomputable def floadN (m : FMem) (b off n : Nat) : Option (List Value) :=
  match m.get b with
  | some (.row _ _ cs) => if off + n ≤ cs.length then some ((cs.drop off).take n) else none
  | _ => none

noncomputable def fload1 (m : FMem) (b off : Nat) : Option Value :=
  match m.get b with
  | some (.row _ _ cs) => cs[off]?
  | _ => none

noncomputable def fload (P : Program) (t : TypeId) (v : Value) (m : FMem) : Option Value :=
  match v with
  | .pointer (some ⟨b, off, none⟩) =>
    match isAggT P t with
    | some true =>
      match tsize P t with
      | some n => match floadN m b off n with
        | some cs => some (.agg cs.toArray)
        | none => none
      | none => none
    | some false => fload1 m b off
    | none => none
  | _ => none

noncomputable def fstoreN (m : FMem) (b off : Nat) (vs : List Value) : Option FMem :=
  match m.get b with
  | some (.row k e cs) => if k ≠ .ro ∧ off + vs.length ≤ cs.length ∧ vs.all flat = true then some (m.put b (.row k e (put cs off vs))) else none
  | _ => none

noncomputable def fstore (P : Program) (t : TypeId) (v x : Value) (m : FMem) : Option FMem :=
  match v with
  | .pointer (some ⟨b, off, none⟩) =>
    match tsize P t with
    | some n => if x.cells.size = n then fstoreN m b off x.cells.toList else none
    | none => none
  | _ => none

abbrev FOut := Option (ARes × FMem)

noncomputable def fnew (k : RowKind) (e : TypeId) (cells : List Value) (m : FMem) : Option (Nat × FMem) :=
  if cells.all flat then match m.push (.row k e cells) with
    | some m' => some (m.n, m')
    | none => none
  else none

noncomputable def feql (P : Program) (t : TypeId) (m : FMem) (x y : Value) : Option Bool :=
  match P.underlying t, x, y with
  | some (.pointer e), .pointer (some ⟨a, i, none⟩), .pointer (some ⟨b, j, none⟩) =>
    match tsize P e, m.get a, m.get b with
    | some n, some (.row k _ _), some (.row l _ _) =>
      if n = 0 ∨ k = .ro ∨ l = .ro then none else some (a == b && i == j)
    | _, _, _ => none
  | _, x, y => aeql P t [] x y

noncomputable def fbin (P : Program) (op : BinOp) (t : TypeId) (x y : Operand) (m : FMem) (a b : Value) : Option Value :=
  match op, a, b with
  | .eql, .pointer p, .pointer q => match feql P t m (.pointer p) (.pointer q) with
    | some r => some (.bool r)
    | none => none
  | .neq, .pointer p, .pointer q => match feql P t m (.pointer p) (.pointer q) with
    | some r => some (.bool !r)
    | none => none
  | op, a, b => abin P op t x y [] a b

noncomputable def fconv (P : Program) (src dst : TypeId) (x : Value) (m : FMem) : Option Value :=
  match x with
  | .slice (some ⟨b, off, none⟩) n _ => match P.underlying src, P.underlying dst with
    | some (.slice e), some .string => match P.underlying e with
      | some (.int .u8) => match floadN m b off n with
        | some cs => match bytesOf cs with
          | some bs => some (.string ⟨bs.toArray⟩)
          | none => none
        | none => none
      | _ => none
    | _, _ => none
  | .pointer (some ⟨b, off, none⟩) => match P.underlying src, P.underlying dst with
    | some (.pointer t), some .unsafePointer => match tsize P t, m.get b with
      | some n, some (.row .var _ cs) => if n ≠ 0 ∧ off < cs.length then some (.pointer (some ⟨b, off, none⟩)) else none
      | _, _ => none
    | some .unsafePointer, some (.pointer u) => match tsize P u, m.get b with
      | some _, some (.row .var e cs) => if liesAt P P.depth e (cs.length / P.cellsOf e) off u 1 then some (.pointer (some ⟨b, off, none⟩)) else none
      | _, _ => none
    | _, _ => none
  | x => aconv P src dst x []

noncomputable def fbuildSlice (P : Program) (t : TypeId) (len : Nat) (parts : List (Nat × Value)) (m : FMem) : FOut :=
  match P.underlying t with
  | some (.slice e) => match tsize P e, zeros P e len with
    | some n, some zs => if len * n > 2 ^ 24 then none else
      match Instr.fill (fun i => some (i * n, n)) zs.toArray parts with
      | some cs => match fnew .sl e cs.toList m with
        | some (b, m') => some (.val (.slice (some ⟨b, 0, none⟩) len len), m')
        | none => none
      | none => none
    | _, _ => none
  | _ => none

noncomputable def ffirst (size n : Nat) (v : Value) (m : FMem) : Option (List Value) :=
  match v with
  | .slice none _ _ => if n = 0 then some [] else none
  | .slice (some ⟨b, off, none⟩) len _ => if n ≤ len then (if n = 0 then some [] else floadN m b off (n * size)) else none
  | .string s => if n ≤ s.size ∧ size = 1 then some ((s.extract 0 n).data.toList.map fun b => .int .u8 b.toNat) else none
  | _ => none

noncomputable def fpushed (m : FMem) (o : AObj) (v : Value) : FOut := match m.push o with
  | some m' => some (.val v, m')
  | none => none

noncomputable def fappend (P : Program) (ts : List TypeId) (s x : Value) (m : FMem) : FOut :=
  match ts with
  | t :: u :: _ =>
    match P.underlying t, P.underlying u with
    | _, some (.int _) => none
    | some (.slice e), some _ =>
      match P.info? e, zeros P e 0, alen1 x with
      | some i, some _, some n =>
        match s with
        | .slice base len c =>
          if i.bytes = 0 then none else
          if n = 0 then some (.val s, m) else
          if (len + n) * i.bytes > 2 ^ 47 then none else
          match ffirst i.size n x m, ffirst i.size len s m with
          | some new, some old =>
            if !new.all flat then none else
            match base with
            | none => fpushed m (.row .sl e (old ++ new)) (.slice (some ⟨m.n, 0, none⟩) (len + n) (len + n + 1))
            | some ⟨b, off, none⟩ =>
              if c = len then fpushed m (.row .sl e (old ++ new)) (.slice (some ⟨m.n, 0, none⟩) (len + n) (len + n + 1))
              else if c = len + 1 ∧ off = 0 then
                match m.get b with
                | some (.row .sl e' _) => if e' = e then fpushed (m.put b .dead) (.row .sl e (old ++ new)) (.slice (some ⟨m.n, 0, none⟩) (len + n) (len + n + 1)) else none
                | _ => none
              else none
            | _ => none
          | _, _ => none
        | _ => none
      | _, _, _ => none
    | _, _ => none
  | _ => none

noncomputable def fcopy (P : Program) (ts : List TypeId) (d s : Value) (m : FMem) : FOut :=
  match ts with
  | t :: _ => match P.underlying t with
    | some (.slice e) => match tsize P e, alen1 s, d with
      | some size, some sn, .slice base dn _ =>
        match ffirst size (Nat.min sn dn) s m with
        | some cs => match base with
          | some ⟨b, off, none⟩ => if Nat.min sn dn = 0 then some (.val (goInt (Nat.min sn dn)), m) else
            match fstoreN m b off cs with
            | some m' => some (.val (goInt (Nat.min sn dn)), m')
            | none => none
          | none => some (.val (goInt (Nat.min sn dn)), m)
          | _ => none
        | none => none
      | _, _, _ => none
    | _ => none
  | _ => none

noncomputable def flenOf (P : Program) (t : TypeId) (v : Value) (m : FMem) : Option Value :=
  match v with
  | .map (some r) => match P.underlying t with
    | some (.map _ _) => match m.get r with
      | some (.map es _) => some (goInt es.length)
      | _ => none
    | _ => none
  | v => alenOf P t v []

noncomputable def fmakeSlice (P : Program) (t : TypeId) (l c : Value) (m : FMem) : FOut :=
  match P.underlying t, l, c with
  | some (.slice e), .int _ l, .int _ c =>
    match P.info? e with
    | some i =>
      if 0 ≤ l ∧ l ≤ c ∧ c * i.bytes ≤ 2 ^ 47 ∧ c < 2 ^ 62 then
        match zeros P e c.toNat with
        | some zs => match fnew .sl e zs m with
          | some (b, m') => some (.val (.slice (some ⟨b, 0, none⟩) l.toNat (if l = c then l.toNat else l.toNat + 1)), m')
          | none => none
        | none => none
      else none
    | none => none
  | _, _, _ => none

noncomputable def funsafeString (P : Program) (pt : TypeId) (p n : Value) (m : FMem) : FOut :=
  match P.underlying pt, p, n with
  | some (.pointer u), .pointer (some ⟨b, off, none⟩), .int _ n =>
    match P.underlying u, m.get b with
    | some (.int .u8), some (.row .sl e _) =>
      if 0 < n ∧ n ≤ IntKind.i64.max ∧ e = u ∧ P.cellsOf e = 1 ∧ off = 0 then
        match floadN m b off n.toNat with
        | some cs => match bytesOf cs with
          | some bs => some (.val (.string ⟨bs.toArray⟩), m.put b .dead)
          | none => none
        | none => none
      else none
    | _, _ => none
  | _, _, _ => none

noncomputable def fdelete (P : Program) (t : TypeId) (x k : Value) (m : FMem) : Option FMem :=
  match P.underlying t, x with
  | some (.map key _), .map (some r) =>
    if keyOk P 10000 key k && plainKey k then
      match m.get r with
      | some (.map es clock) => match afind P key k es 0 with
        | some (some (i, _)) => some (m.put r (.map (es.eraseIdx i) clock))
        | some none => some (m.put r (.map es clock))
        | none => none
      | _ => none
    else none
  | _, _ => none

noncomputable def flookup (P : Program) (t : TypeId) (x k : Value) (ok : Bool) (m : FMem) : Option Value :=
  match P.underlying t with
  | some (.map key elem) =>
    if keyOk P 10000 key k && plainKey k then
      match (match x with
        | .map none => some []
        | .map (some r) => match m.get r with
          | some (.map es _) => some es
          | _ => none
        | _ => none : Option (List MapEntry)) with
      | some es => match afind P key k es 0 with
        | some (some (_, v)) => some (if ok then .tuple #[v, .bool true] else v)
        | some none => match azero P elem with
          | some z => if zeroShut z then some (if ok then .tuple #[z, .bool false] else z) else none
          | none => none
        | none => none
      | none => none
    else none
  | _ => none

noncomputable def fmapUpdate (P : Program) (t : TypeId) (x k v : Value) (m : FMem) : Option FMem :=
  match P.underlying t, x with
  | some (.map key _), .map (some r) =>
    if keyOk P 10000 key k && plainKey k then
      match m.get r with
      | some (.map es clock) => match afind P key k es 0 with
        | some (some (i, _)) =>
          match es[i]? with
          | some e => if Instr.sameBits 10000 e.key k then some (m.put r (.map (es.modify i fun e => { e with key := k, val := v }) clock)) else none
          | none => none
        | some none => some (m.put r (.map (es ++ [{ key := k, val := v, born := clock }]) (clock + 1)))
        | none => none
      | _ => none
    else none
  | _, _ => none

noncomputable def fbuiltin (P : Program) (b : Builtin) (ts : List TypeId) (args : List Value) (m : FMem) : FOut :=
  match b, args with
  | .append, [s, x] => fappend P ts s x m
  | .copy, [d, s] => fcopy P ts d s m
  | .delete, [x, k] => match ts with
    | t :: _ => match fdelete P t x k m with
      | some m' => some (.val (.tuple #[]), m')
      | none => none
    | _ => none
  | .len, [v] => match ts with
    | t :: _ => match flenOf P t v m with
      | some r => some (.val r, m)
      | none => none
    | _ => none
  | .min, vs => match aminmax false vs with
    | some r => some (.val r, m)
    | none => none
  | .max, vs => match aminmax true vs with
    | some r => some (.val r, m)
    | none => none
  | .recover, [] => some (.recover, m)
  | .unsafeSliceData, [.slice (some ⟨b, off, none⟩) len _] => if 0 < len then some (.val (.pointer (some ⟨b, off, none⟩)), m) else none
  | .unsafeString, [p, n] => match ts with
    | t :: _ => funsafeString P t p n m
    | _ => none
  | _, _ => none

noncomputable def fcallee (P : Program) (f : FuncId) (args : List Value) (m : FMem) : FOut :=
  match P.funcs[f]? with
  | some fn =>
    match fn.body with
    | some _ => if fn.name == "runtime.NumGoroutine" then none else some (.enter f args.toArray, m)
    | none => if fn.name == "internal/abi.NoEscape" then (match args with | [x] => some (.val x, m) | _ => none) else none
  | none => none

noncomputable def fsome1 (m : FMem) : Option Value → FOut
  | some v => some (.val v, m)
  | none => none

noncomputable def fskip1 : Option FMem → FOut
  | some m => some (.skip, m)
  | none => none

noncomputable def fbind1 (x : Option Value) (k : Value → FOut) : FOut := match x with
  | some v => k v
  | none => none

noncomputable def fpick (P : Program) (a : FAct) (x y : Operand) (m : FMem) : Value → FOut
  | .bool t => fsome1 m (if t then fev P a x else fev P a y)
  | _ => none

noncomputable def falloc (P : Program) (e : TypeId) (m : FMem) : FOut := match azero P e with
  | some z => match fnew .var e z.cells.toList m with
    | some (b, m') => if z.cells.toList.all shutV then some (.val (.pointer (some ⟨b, 0, none⟩)), m') else none
    | none => none
  | none => none

noncomputable def fbox (e : TypeId) (m : FMem) (v : Value) : FOut := match fnew .var e v.cells.toList m with
  | some (b, m') => some (.val (.pointer (some ⟨b, 0, none⟩)), m')
  | none => none

noncomputable def fnil (m : FMem) : Value → FOut
  | .pointer (some p) => some (.val (.pointer (some p)), m)
  | .func (.func f) u v => some (.val (.func (.func f) u v), m)
  | _ => none

noncomputable def fmakeMap (P : Program) (a : FAct) (t : TypeId) (r : Option Operand) (m : FMem) : FOut := match r with
  | none => fpushed m (.map [] 0) (.map (some m.n))
  | some x => match P.underlying t, fev P a x with
    | some (.map _ _), some (.int _ _) => fpushed m (.map [] 0) (.map (some m.n))
    | _, _ => none

noncomputable def frange (P : Program) (a : FAct) (t : TypeId) (x : Operand) (m : FMem) : FOut := match P.underlying t, fev P a x with
  | some .string, some (.string s) => fpushed m (.sIter s 0) (.pointer (some ⟨m.n, 0, none⟩))
  | _, _ => none

noncomputable def fnext (m : FMem) : Value → FOut
  | .pointer (some ⟨r, 0, _⟩) => match m.get r with
    | some (.sIter s pos) =>
      if pos < s.size then
        match Utf8.decode s pos with
        | (c, width) => some (.val (.tuple #[.bool true, goInt pos, .int .i32 c]), m.put r (.sIter s (pos + width)))
      else some (.val (.tuple #[.bool false]), m)
    | _ => none
  | _ => none

noncomputable def fiface (P : Program) (a : FAct) (t : TypeId) (x : Operand) (m : FMem) : FOut := match P.underlying t, fev P a x with
  | some (.interface _), _ => none
  | some _, some v => some (.val (.iface t v), m)
  | _, _ => none

noncomputable def fslice (P : Program) (a : FAct) (t : TypeId) (x : Operand) (lo hi mx : Option Operand) (m : FMem) : FOut := match fev P a x, fevO P a lo, fevO P a hi, fevO P a mx with
  | some v, some l, some h, some k => fsome1 m (aslice P t v l h k)
  | _, _, _, _ => none

noncomputable def fcallOp (P : Program) (a : FAct) (c : Call) (m : FMem) : FOut := match c.callee, fevs P a c.args.toList with
  | .builtin b, some args => fbuiltin P b c.argTypes.toList args m
  | .value f, some args => match fev P a f with
    | some (.func (.func f) first captured) => fcallee P f (first.toList ++ args ++ captured.toList) m
    | _ => none
  | _, _ => none

noncomputable def fdefer (P : Program) (a : FAct) (c : Call) (m : FMem) : FOut := match c.callee, fevs P a c.args.toList with
  | .value f, some args => match fev P a f with
    | some (.func (.func f) first captured) => some (.defer { target := .fn (.func f) captured, args := (first.toList ++ args).toArray }, m)
    | _ => none
  | _, _ => none

noncomputable def fpanic (m : FMem) : Value → FOut
  | .iface t v => some (.panic (.iface t v), m)
  | _ => none

noncomputable def fextract (i : Nat) (m : FMem) : Value → FOut
  | .tuple vs => fsome1 m vs[i]?
  | _ => none

noncomputable def ffunc (P : Program) (a : FAct) (fn : Fn) (first captured : List Operand) (m : FMem) : FOut := match fevs P a first, fevs P a captured with
  | some u, some v => some (.val (.func fn u.toArray v.toArray), m)
  | _, _ => none

noncomputable def fbuild (P : Program) (a : FAct) (t : TypeId) (parts : List (Nat × Operand)) (m : FMem) : FOut := match fevPairs P a parts with
  | some ps => fsome1 m (abuild P t ps)
  | none => none

noncomputable def fbuildS (P : Program) (a : FAct) (t : TypeId) (len : Nat) (parts : List (Nat × Operand)) (m : FMem) : FOut := match fevPairs P a parts with
  | some ps => fbuildSlice P t len ps m
  | none => none

noncomputable def fop (P : Program) (a : FAct) (o : Oper) (m : FMem) : FOut :=
  match o.op with
  | .move x => fsome1 m (fev P a x)
  | .assign x => fsome1 m (fev P a x)
  | .pick c x y => fbind1 (fev P a c) (fpick P a x y m)
  | .alloc e => falloc P e m
  | .box e x => fbind1 (fev P a x) (fbox e m)
  | .build t parts => fbuild P a t parts.toList m
  | .buildSlice t len parts => fbuildS P a t len parts.toList m
  | .load t x => fbind1 (fev P a x) fun v => fsome1 m (fload P t v m)
  | .store t x y => fbind1 (fev P a x) fun v => fbind1 (fev P a y) fun u => fskip1 (fstore P t v u m)
  | .nilCheck x => fbind1 (fev P a x) (fnil m)
  | .binOp op t x y _ => fbind1 (fev P a x) fun u => fbind1 (fev P a y) fun v => fsome1 m (fbin P op t x y m u v)
  | .unOp op _ x => fbind1 (fev P a x) fun v => fsome1 m (aun op v)
  | .convert s d x => fbind1 (fev P a x) fun v => fsome1 m (fconv P s d v m)
  | .makeInterface t x => fiface P a t x m
  | .makeFunc fn first captured => ffunc P a fn first.toList captured.toList m
  | .makeMap t r => fmakeMap P a t r m
  | .makeSlice t l c => fbind1 (fev P a l) fun u => fbind1 (fev P a c) fun v => fmakeSlice P t u v m
  | .slice t x lo hi mx => fslice P a t x lo hi mx m
  | .fieldAddr s x f => fbind1 (fev P a x) fun v => fsome1 m (afieldAddr P s v f)
  | .field t x f => fbind1 (fev P a x) fun v => fsome1 m (afield P t v f)
  | .indexAddr t x i => fbind1 (fev P a x) fun u => fbind1 (fev P a i) fun v => fsome1 m (aindexAddr P t u v)
  | .index t x i => fbind1 (fev P a x) fun u => fbind1 (fev P a i) fun v => fsome1 m (aindex P t u v)
  | .lookup t x k ok => fbind1 (fev P a x) fun u => fbind1 (fev P a k) fun v => fsome1 m (flookup P t u v ok m)
  | .mapUpdate t x k v => fbind1 (fev P a x) fun x => fbind1 (fev P a k) fun k => fbind1 (fev P a v) fun v => fskip1 (fmapUpdate P t x k v m)
  | .range t x => frange P a t x m
  | .next it true => fbind1 (fev P a it) (fnext m)
  | .typeAssert x _ t ok => fbind1 (fev P a x) fun v => fsome1 m (atypeAssert P v t ok)
  | .extract x i => fbind1 (fev P a x) (fextract i m)
  | .call c => fcallOp P a c m
  | .defer c => fdefer P a c m
  | .panic x => fbind1 (fev P a x) (fpanic m)
  | _ => none

end Go.Abs
