/- The abstract machine, 4: how an abstract memory stands to a world; memory's laws. -/
import Derived.Test.YteajocebbmfdmaaGreatDoorAbsC
namespace Go.Abs

/-- Where an abstract place lies: block, shift, room (in elements). -/
abbrev Iota := Nat → Option (Nat × Nat × Nat)

inductive VRel (ι : Iota) : Value → Value → Prop
  | bool (b : Bool) : VRel ι (.bool b) (.bool b)
  | int (k : IntKind) (n : Int) : VRel ι (.int k n) (.int k n)
  | float (k : FloatKind) (n : Nat) : VRel ι (.float k n) (.float k n)
  | complex (k : FloatKind) (n m : Nat) : VRel ι (.complex k n m) (.complex k n m)
  | string (s : ByteArray) : VRel ι (.string s) (.string s)
  | pnil : VRel ι (.pointer none) (.pointer none)
  | ptr {i off c sh cp : Nat} (h : ι i = some (c, sh, cp)) : VRel ι (.pointer (some ⟨i, off, none⟩)) (.pointer (some ⟨c, sh + off, none⟩))
  | snil : VRel ι (.slice none 0 0) (.slice none 0 0)
  | sl {i off c sh cp len k cap : Nat} (h : ι i = some (c, sh, cp)) (hle : len ≤ cap) (hcp : off = 0 → cap ≤ cp) (hk : (k = len ∧ cap = len) ∨ k = len + 1) :
      VRel ι (.slice (some ⟨i, off, none⟩) len k) (.slice (some ⟨c, sh + off, none⟩) len cap)
  | slq {i c sh cp off cap : Nat} (h : ι i = some (c, sh, cp)) : VRel ι (.slice (some ⟨i, 0, none⟩) 0 2) (.slice (some ⟨c, off, none⟩) 0 cap)
  | mnil : VRel ι (.map none) (.map none)
  | map {i c sh cp : Nat} (h : ι i = some (c, sh, cp)) : VRel ι (.map (some i)) (.map (some c))
  | func (fn : Fn) {xs ys xs' ys' : Array Value} (h1 : xs.toList.length = xs'.toList.length)
      (h2 : ∀ (i : Nat) (v v' : Value), xs.toList[i]? = some v → xs'.toList[i]? = some v' → VRel ι v v') (h3 : ys.toList.length = ys'.toList.length)
      (h4 : ∀ (i : Nat) (v v' : Value), ys.toList[i]? = some v → ys'.toList[i]? = some v' → VRel ι v v') : VRel ι (.func fn xs ys) (.func fn xs' ys')
  | nilFunc : VRel ι .nilFunc .nilFunc
  | iface (t : TypeId) {v v' : Value} (h : VRel ι v v') : VRel ι (.iface t v) (.iface t v')
  | nilIface : VRel ι .nilIface .nilIface
  | agg {xs xs' : Array Value} (h1 : xs.toList.length = xs'.toList.length)
      (h2 : ∀ (i : Nat) (v v' : Value), xs.toList[i]? = some v → xs'.toList[i]? = some v' → VRel ι v v') (hf : xs.toList.all flat = true) : VRel ι (.agg xs) (.agg xs')
  | tuple {xs xs' : Array Value} (h1 : xs.toList.length = xs'.toList.length)
      (h2 : ∀ (i : Nat) (v v' : Value), xs.toList[i]? = some v → xs'.toList[i]? = some v' → VRel ι v v') : VRel ι (.tuple xs) (.tuple xs')

/-- Lists, one by one. -/
def LRel (ι : Iota) (l l' : List Value) : Prop := l.length = l'.length ∧ ∀ (i : Nat) (v v' : Value), l[i]? = some v → l'[i]? = some v' → VRel ι v v'

def Le (ι κ : Iota) : Prop := ∀ i x, ι i = some x → κ i = some x

theorem Le.refl (ι : Iota) : Le ι ι := fun _ _ h => h
theorem Le.trans {a b c : Iota} (h : Le a b) (k : Le b c) : Le a c := fun i x e => k i x (h i x e)

theorem VRel.mono {ι κ : Iota} (hl : Le ι κ) {v v' : Value} (h : VRel ι v v') : VRel κ v v' := by
  induction h with
  | bool b => exact .bool b
  | int k n => exact .int k n
  | float k n => exact .float k n
  | complex k n m => exact .complex k n m
  | string s => exact .string s
  | pnil => exact .pnil
  | ptr h => exact .ptr (hl _ _ h)
  | snil => exact .snil
  | sl h a b hk => exact .sl (hl _ _ h) a b hk
  | slq h => exact .slq (hl _ _ h)
  | mnil => exact .mnil
  | map h => exact .map (hl _ _ h)
  | func fn h1 _ h3 _ ih2 ih4 => exact .func fn h1 ih2 h3 ih4
  | nilFunc => exact .nilFunc
  | iface t _ ih => exact .iface t ih
  | nilIface => exact .nilIface
  | agg h1 _ hf ih => exact .agg h1 ih hf
  | tuple h1 _ ih => exact .tuple h1 ih

theorem LRel.mono {ι κ : Iota} (hl : Le ι κ) {l l' : List Value} (h : LRel ι l l') : LRel κ l l' := ⟨h.1, fun i v v' a b => (h.2 i v v' a b).mono hl⟩

theorem LRel.nil (ι : Iota) : LRel ι [] [] := ⟨rfl, fun i v v' h => by simp at h⟩

theorem LRel.cons {ι : Iota} {v v' : Value} {l l' : List Value} (h : VRel ι v v') (hl : LRel ι l l') : LRel ι (v :: l) (v' :: l') := by
  refine ⟨by simp [hl.1], fun i u u' a b => ?_⟩
  cases i with
  | zero => simp at a b; subst a; subst b; exact h
  | succ i => simp at a b; exact hl.2 i u u' a b

theorem LRel.head {ι : Iota} {v v' : Value} {l l' : List Value} (h : LRel ι (v :: l) (v' :: l')) : VRel ι v v' := h.2 0 v v' rfl rfl
theorem LRel.tail {ι : Iota} {v v' : Value} {l l' : List Value} (h : LRel ι (v :: l) (v' :: l')) : LRel ι l l' :=
  ⟨by simpa using h.1, fun i u u' a b => h.2 (i + 1) u u' (by simpa using a) (by simpa using b)⟩

theorem LRel.uncons {ι : Iota} {v : Value} {l l' : List Value} (h : LRel ι (v :: l) l') : ∃ v' r', l' = v' :: r' ∧ VRel ι v v' ∧ LRel ι l r' := by
  cases l' with
  | nil => simp [LRel] at h
  | cons v' r' => exact ⟨v', r', rfl, h.head, h.tail⟩

theorem LRel.unnil {ι : Iota} {l' : List Value} (h : LRel ι [] l') : l' = [] := by
  have := h.1; simp at this; simpa using this.symm

theorem LRel.get {ι : Iota} {l l' : List Value} (h : LRel ι l l') {i : Nat} {v : Value} (hv : l[i]? = some v) : ∃ v', l'[i]? = some v' ∧ VRel ι v v' := by
  obtain ⟨hi, _⟩ := List.getElem?_eq_some_iff.1 hv
  have hi' : i < l'.length := h.1 ▸ hi
  exact ⟨l'[i], List.getElem?_eq_getElem hi', h.2 i v _ hv (List.getElem?_eq_getElem hi')⟩

theorem LRel.append {ι : Iota} {l l' r r' : List Value} (h : LRel ι l l') (k : LRel ι r r') : LRel ι (l ++ r) (l' ++ r') := by
  refine ⟨by simp [h.1, k.1], fun i v v' a b => ?_⟩
  by_cases hi : i < l.length
  · rw [List.getElem?_append_left hi] at a
    rw [List.getElem?_append_left (h.1 ▸ hi)] at b
    exact h.2 i v v' a b
  · rw [List.getElem?_append_right (by omega)] at a
    rw [List.getElem?_append_right (by have := h.1; omega)] at b
    rw [← h.1] at b
    exact k.2 _ v v' a b

theorem LRel.take {ι : Iota} {l l' : List Value} (h : LRel ι l l') (n : Nat) : LRel ι (l.take n) (l'.take n) := by
  refine ⟨by simp [h.1], fun i v v' a b => ?_⟩
  rw [List.getElem?_take] at a b
  split at a
  · rename_i hi; rw [if_pos hi] at b; exact h.2 i v v' a b
  · simp at a

theorem LRel.drop {ι : Iota} {l l' : List Value} (h : LRel ι l l') (n : Nat) : LRel ι (l.drop n) (l'.drop n) := by
  refine ⟨by simp [h.1], fun i v v' a b => ?_⟩
  rw [List.getElem?_drop] at a b
  exact h.2 _ v v' a b

theorem LRel.set {ι : Iota} {l l' : List Value} (h : LRel ι l l') (n : Nat) {u u' : Value} (hu : VRel ι u u') : LRel ι (l.set n u) (l'.set n u') := by
  refine ⟨by simp [h.1], fun i v v' a b => ?_⟩
  rw [List.getElem?_set] at a b
  split at a
  · rename_i e
    rw [if_pos e] at b
    split at a
    · rename_i hi; rw [if_pos (h.1 ▸ hi)] at b; simp at a b; subst a; subst b; exact hu
    · simp at a
  · rename_i e; rw [if_neg e] at b; exact h.2 i v v' a b

theorem LRel.replicate {ι : Iota} {v v' : Value} (h : VRel ι v v') (n : Nat) : LRel ι (List.replicate n v) (List.replicate n v') := by
  refine ⟨by simp, fun i u u' a b => ?_⟩
  rw [List.getElem?_replicate] at a b
  split at a
  · rename_i hi; rw [if_pos hi] at b; simp at a b; subst a; subst b; exact h
  · simp at a

theorem VRel.flat_eq {ι : Iota} {v v' : Value} (h : VRel ι v v') : flat v = flat v' := by cases h <;> rfl

theorem LRel.all_flat {ι : Iota} : ∀ {l l' : List Value}, LRel ι l l' → l.all flat = l'.all flat
  | [], l', h => by rw [h.unnil]
  | v :: l, l', h => by
    obtain ⟨v', r', rfl, hv, hr⟩ := h.uncons
    simp [hv.flat_eq, hr.all_flat]

/-- A value without addresses stands to itself. -/
theorem VRel.of_shut {ι : Iota} {v : Value} (h : shutV v = true) : VRel ι v v := by
  unfold shutV at h
  split at h <;> first
    | exact .bool _ | exact .int _ _ | exact .float _ _ | exact .complex _ _ _ | exact .string _ | exact .pnil | exact .snil | exact .mnil | exact .nilFunc | exact .nilIface
    | (rename_i vs; have : vs = #[] := by simpa using h
       subst this; exact .tuple rfl (fun i v v' a => by simp at a))
    | simp at h

theorem LRel.of_shut {ι : Iota} : ∀ {l : List Value}, l.all shutV = true → LRel ι l l
  | [], _ => LRel.nil ι
  | v :: l, h => by
    simp at h
    exact .cons (.of_shut h.1) (LRel.of_shut (by simpa using h.2))

theorem plainKey_eq {ι : Iota} {v v' : Value} (h : VRel ι v v') (hp : plainKey v = true) : v' = v := by
  cases h <;> simp [plainKey] at hp <;> try rfl
  rename_i xs xs' h1 h2 hf
  congr 1
  apply Array.ext'
  apply List.ext_getElem h1.symm
  intro i hi hi'
  have := h2 i xs.toList[i] xs'.toList[i] (List.getElem?_eq_getElem _) (List.getElem?_eq_getElem _)
  have hpi := hp i (by simpa using hi')
  generalize hx : xs.toList[i] = x at *
  generalize xs'.toList[i] = x' at *
  have hx' : xs[i]'(by simpa using hi') = x := by rw [← hx]; simp
  rw [hx'] at hpi
  cases this <;> simp at hpi <;> rfl

/-! ### Memory -/

def AObj.own : AObj → Bool
  | .row .ro _ _ | .dead => false
  | _ => true

def AObj.alive : AObj → Bool
  | .dead => false
  | _ => true

def ERel (ι : Iota) (es : List MapEntry) (es' : Array MapEntry) : Prop :=
  es.length = es'.toList.length ∧ ∀ (i : Nat) (e e' : MapEntry), es[i]? = some e → es'.toList[i]? = some e' → e'.key = e.key ∧ plainKey e.key = true ∧ e'.born = e.born ∧ VRel ι e.val e'.val

def ORel (P : Program) (ι : Iota) (w : World) (c sh cp : Nat) : AObj → Prop
  | .dead => True
  | .row .ro _ cs => c < w.heap.size ∧ cs.all flat = true ∧ ∀ (k : Nat) (v : Value), cs[k]? = some v → ∃ v', w.cell? ⟨c, sh + k, none⟩ = some v' ∧ VRel ι v v'
  | .row .var e cs => sh = 0 ∧ cs.all flat = true ∧ ∃ cells, w.heap[c]? = some (.cells cells e (0, 0)) ∧ LRel ι cs cells.toList
  | .row .sl e cs => sh = 0 ∧ cs.all flat = true ∧ ∃ cells, w.heap[c]? = some (.cells cells e (0, 0)) ∧ cells.size = cp * P.cellsOf e ∧ cs.length ≤ cells.size ∧
      LRel ι cs (cells.toList.take cs.length)
  | .map es clock => sh = 0 ∧ ∃ es', w.heap[c]? = some (.map es' clock) ∧ ERel ι es es'
  | .sIter s pos => sh = 0 ∧ w.heap[c]? = some (.stringIter s pos)

structure MRel (P : Program) (ι : Iota) (m : AMem) (w : World) : Prop where
  dom : ∀ i x, ι i = some x → i < m.length
  obj : ∀ i c sh cp o, ι i = some (c, sh, cp) → m[i]? = some o → ORel P ι w c sh cp o
  inj : ∀ i j c sh cp sh' cp' o o', ι i = some (c, sh, cp) → ι j = some (c, sh', cp') → m[i]? = some o → m[j]? = some o' → o.own = true → o'.alive = true → i = j
  glob : ∀ g, g < P.globals.size → ι g = some (g, 0, 0)

/-- A block that the machine may write. -/
def Owned (m : AMem) (ι : Iota) (b : Nat) : Prop := ∃ i sh cp o, ι i = some (b, sh, cp) ∧ m[i]? = some o ∧ o.own = true

structure Step (m : AMem) (ι : Iota) (w : World) (m' : AMem) (ι' : Iota) (w' : World) : Prop where
  le : Le ι ι'
  os : w'.os = w.os
  tape : w'.tape = w.tape
  output : w'.output = w.output
  size : w.heap.size ≤ w'.heap.size
  len : m.length ≤ m'.length
  frame : ∀ b, b < w.heap.size → ¬ Owned m ι b → w'.heap[b]? = w.heap[b]?
  own : ∀ b, b < w.heap.size → Owned m' ι' b → Owned m ι b
  old : ∀ i, i < m.length → ι' i = ι i

theorem Step.refl (m : AMem) (ι : Iota) (w : World) : Step m ι w m ι w := ⟨Le.refl _, rfl, rfl, rfl, Nat.le_refl _, Nat.le_refl _, fun _ _ _ => rfl, fun _ _ h => h, fun _ _ => rfl⟩

theorem Step.trans {m m1 m2 : AMem} {ι ι1 ι2 : Iota} {w w1 w2 : World} (h : Step m ι w m1 ι1 w1) (k : Step m1 ι1 w1 m2 ι2 w2) : Step m ι w m2 ι2 w2 where
  le := h.le.trans k.le
  os := k.os.trans h.os
  tape := k.tape.trans h.tape
  output := k.output.trans h.output
  size := Nat.le_trans h.size k.size
  len := Nat.le_trans h.len k.len
  frame b hb hn := (k.frame b (Nat.lt_of_lt_of_le hb h.size) (fun ho => hn (h.own b hb ho))).trans (h.frame b hb hn)
  own b hb ho := h.own b hb (k.own b (Nat.lt_of_lt_of_le hb h.size) ho)
  old i hi := (k.old i (Nat.lt_of_lt_of_le hi h.len)).trans (h.old i hi)

/-- A draw turns nothing. -/
theorem Step.drew {m : AMem} {ι : Iota} {w : World} (n : Nat) : Step m ι w m ι { w with drawn := n } := ⟨Le.refl _, rfl, rfl, rfl, Nat.le_refl _, Nat.le_refl _, fun _ _ _ => rfl, fun _ _ h => h, fun _ _ => rfl⟩

theorem cell_congr {w w' : World} {c : Nat} (h : w'.heap[c]? = w.heap[c]?) (off : Nat) (s : Option Nat) : w'.cell? ⟨c, off, s⟩ = w.cell? ⟨c, off, s⟩ := by
  simp only [World.cell?, h]

theorem ORel.congr {P : Program} {ι : Iota} {w w' : World} {c sh cp : Nat} {o : AObj} (h : w'.heap[c]? = w.heap[c]?) (ho : ORel P ι w c sh cp o) : ORel P ι w' c sh cp o := by
  unfold ORel at *
  split
  · trivial
  · refine ⟨?_, ho.2.1, fun k v hv => by rw [cell_congr h]; exact ho.2.2 k v hv⟩
    have h1 := ho.1
    rcases Nat.lt_or_ge c w'.heap.size with hl | hg
    · exact hl
    · rw [Array.getElem?_eq_none hg, Array.getElem?_eq_getElem h1] at h; cases h
  all_goals (simp only [h]; exact ho)

theorem ERel.mono {ι κ : Iota} (hl : Le ι κ) {es : List MapEntry} {es' : Array MapEntry} (h : ERel ι es es') : ERel κ es es' :=
  ⟨h.1, fun i e e' a b => let ⟨x, y, b, z⟩ := h.2 i e e' a b; ⟨x, y, b, z.mono hl⟩⟩

theorem ORel.mono {P : Program} {ι κ : Iota} (hl : Le ι κ) {w : World} {c sh cp : Nat} {o : AObj} (ho : ORel P ι w c sh cp o) : ORel P κ w c sh cp o := by
  unfold ORel at *
  split
  · trivial
  · exact ⟨ho.1, ho.2.1, fun k v hv => let ⟨v', a, b⟩ := ho.2.2 k v hv; ⟨v', a, b.mono hl⟩⟩
  · obtain ⟨a, b, cells, hc, hl'⟩ := ho; exact ⟨a, b, cells, hc, hl'.mono hl⟩
  · obtain ⟨a, b, cells, hc, h1, h2, hl'⟩ := ho; exact ⟨a, b, cells, hc, h1, h2, hl'.mono hl⟩
  · obtain ⟨a, es', hc, he⟩ := ho; exact ⟨a, es', hc, he.mono hl⟩
  · exact ho

theorem MRel.drew {P : Program} {ι : Iota} {m : AMem} {w : World} (h : MRel P ι m w) (n : Nat) : MRel P ι m { w with drawn := n } :=
  ⟨h.dom, fun i c sh cp o a b => (h.obj i c sh cp o a b).congr rfl, h.inj, h.glob⟩

/-- An owned block lies in the heap. -/
theorem MRel.lt {P : Program} {ι : Iota} {m : AMem} {w : World} (h : MRel P ι m w) {i c sh cp : Nat} {o : AObj} (hi : ι i = some (c, sh, cp)) (ho : m[i]? = some o) (hown : o.own = true) : c < w.heap.size := by
  have := h.obj i c sh cp o hi ho
  rcases Nat.lt_or_ge c w.heap.size with hlt | hge
  · exact hlt
  · exfalso
    have hn : w.heap[c]? = none := Array.getElem?_eq_none hge
    cases o with
    | dead => simp [AObj.own] at hown
    | row k e cs => cases k with
      | ro => simp [AObj.own] at hown
      | var => obtain ⟨_, _, cells, hc, _⟩ := this; simp [hn] at hc
      | sl => obtain ⟨_, _, cells, hc, _⟩ := this; simp [hn] at hc
    | map es clock => obtain ⟨_, es', hc, _⟩ := this; simp [hn] at hc
    | sIter s pos => obtain ⟨_, hc⟩ := this; simp [hn] at hc

/-- A world that differs at one owned block. -/
theorem MRel.update {P : Program} {ι : Iota} {m : AMem} {w w' : World} (h : MRel P ι m w) {i c sh cp : Nat} {o o' : AObj} (hi : ι i = some (c, sh, cp)) (ho : m[i]? = some o) (hown : o.own = true)
    (hown' : o'.own = true ∨ o' = .dead) (hw : ∀ b, b ≠ c → w'.heap[b]? = w.heap[b]?) (hr : ORel P ι w' c sh cp o') (hos : w'.os = w.os) (htape : w'.tape = w.tape) (hout : w'.output = w.output) (hsz : w'.heap.size = w.heap.size) :
    MRel P ι (m.set i o') w' ∧ Step m ι w (m.set i o') ι w' := by
  have hlt : i < m.length := (List.getElem?_eq_some_iff.1 ho).1
  have hget : ∀ (j : Nat) (x : AObj), (m.set i o')[j]? = some x → (j = i ∧ x = o') ∨ (j ≠ i ∧ m[j]? = some x) := by
    intro j x hx
    rw [List.getElem?_set] at hx
    split at hx
    · rename_i e; subst e; first | (rw [if_pos hlt] at hx; simp at hx; exact .inl ⟨rfl, hx.symm⟩) | (simp at hx; exact .inl ⟨rfl, hx.symm⟩)
    · rename_i e; exact .inr ⟨fun e' => e e'.symm, hx⟩
  refine ⟨⟨fun j x hj => by simpa using h.dom j x hj, ?_, ?_, h.glob⟩, ⟨Le.refl _, hos, htape, hout, by omega, by simp, ?_, ?_, fun _ _ => rfl⟩⟩
  · intro j d sh' cp' x hj hx
    rcases hget j x hx with ⟨rfl, rfl⟩ | ⟨hne, hx⟩
    · rw [hi] at hj; simp at hj; obtain ⟨rfl, rfl, rfl⟩ := hj; exact hr
    · by_cases hd : d = c
      · subst hd
        cases hal : x.alive with
        | true => exact absurd (h.inj i j d sh cp sh' cp' o x hi hj ho hx hown hal).symm hne
        | false =>
          cases x with
          | dead => trivial
          | _ => simp [AObj.alive] at hal
      · exact (h.obj j d sh' cp' x hj hx).congr (hw d hd)
  · intro j k d sh1 cp1 sh2 cp2 x y hj hk hx hy hox hay
    rcases hget j x hx with ⟨rfl, rfl⟩ | ⟨hne, hx2⟩
    · rcases hget k y hy with ⟨rfl, rfl⟩ | ⟨hne', hy⟩
      · rfl
      · rw [hi] at hj; simp at hj; obtain ⟨rfl, rfl, rfl⟩ := hj
        exact h.inj j k c sh cp sh2 cp2 o y hi hk ho hy hown hay
    · rcases hget k y hy with ⟨rfl, rfl⟩ | ⟨hne', hy⟩
      · have halive : o.alive = true := by cases o <;> simp_all [AObj.own, AObj.alive]
        exact h.inj j k d sh1 cp1 sh2 cp2 x o hj hk hx2 ho hox halive
      · exact h.inj j k d sh1 cp1 sh2 cp2 x y hj hk hx2 hy hox hay
  · intro b hb hn
    by_cases hbc : b = c
    · subst hbc; exact absurd ⟨i, sh, cp, o, hi, ho, hown⟩ hn
    · exact hw b hbc
  · rintro b hb ⟨j, sh', cp', x, hj, hx, hox⟩
    rcases hget j x hx with ⟨rfl, rfl⟩ | ⟨hne, hx⟩
    · rw [hi] at hj; simp at hj; obtain ⟨rfl, rfl, rfl⟩ := hj
      exact ⟨j, sh, cp, o, hi, ho, hown⟩
    · exact ⟨j, sh', cp', x, hj, hx, hox⟩

def Iota.add (ι : Iota) (n : Nat) (x : Nat × Nat × Nat) : Iota := fun i => if i = n then some x else ι i

theorem Iota.add_le {P : Program} {ι : Iota} {m : AMem} {w : World} (h : MRel P ι m w) (x : Nat × Nat × Nat) : Le ι (ι.add m.length x) := by
  intro i y hy
  have := h.dom i y hy
  simp only [Iota.add]
  rw [if_neg (by omega)]
  exact hy

theorem Iota.add_self (ι : Iota) (n : Nat) (x : Nat × Nat × Nat) : ι.add n x n = some x := by simp [Iota.add]

/-- A new block. -/
theorem MRel.alloc {P : Program} {ι : Iota} {m : AMem} {w w' : World} (h : MRel P ι m w) {o' : AObj} {X : Obj} (cp : Nat) (hw : w'.heap = w.heap.push X) (hos : w'.os = w.os) (htape : w'.tape = w.tape) (hout : w'.output = w.output)
    (hr : ORel P (ι.add m.length (w.heap.size, 0, cp)) w' w.heap.size 0 cp o') :
    MRel P (ι.add m.length (w.heap.size, 0, cp)) (m ++ [o']) w' ∧ Step m ι w (m ++ [o']) (ι.add m.length (w.heap.size, 0, cp)) w' := by
  have hle := Iota.add_le h (w.heap.size, 0, cp)
  have hold : ∀ b, b < w.heap.size → w'.heap[b]? = w.heap[b]? := by
    intro b hb
    rw [hw, Array.getElem?_push, if_neg (by omega)]
  have hcase : ∀ (j : Nat) (x : AObj) (y : Nat × Nat × Nat), (ι.add m.length (w.heap.size, 0, cp)) j = some y → (m ++ [o'])[j]? = some x → (j = m.length ∧ x = o' ∧ y = (w.heap.size, 0, cp)) ∨ (j < m.length ∧ m[j]? = some x ∧ ι j = some y) := by
    intro j x y hj hx
    by_cases e : j = m.length
    · subst e
      simp at hx
      simp [Iota.add] at hj
      exact .inl ⟨rfl, hx.symm, hj.symm⟩
    · simp only [Iota.add, if_neg e] at hj
      have := h.dom j y hj
      rw [List.getElem?_append_left this] at hx
      exact .inr ⟨this, hx, hj⟩
  have hblock : ∀ (j c sh cp' : Nat) (x : AObj), ι j = some (c, sh, cp') → m[j]? = some x → x.own = true → c < w.heap.size := fun j c sh cp' x a b e => h.lt a b e
  have hro : ∀ (j c sh cp' : Nat) (x : AObj), ι j = some (c, sh, cp') → m[j]? = some x → ORel P ι w c sh cp' x → ORel P (ι.add m.length (w.heap.size, 0, cp)) w' c sh cp' x := by
    intro j c sh cp' x hj hx ho
    by_cases hc : c < w.heap.size
    · exact (ho.congr (hold c hc)).mono hle
    · have hn : w.heap[c]? = none := Array.getElem?_eq_none (by omega)
      cases hox : x.own with
      | true => exact absurd (hblock j c sh cp' x hj hx hox) hc
      | false =>
        cases x with
        | dead => trivial
        | row k e cs => cases k with
          | ro =>
            exact absurd ho.1 hc
          | _ => simp [AObj.own] at hox
        | _ => simp [AObj.own] at hox
  refine ⟨⟨?_, ?_, ?_, ?_⟩, ⟨hle, hos, htape, hout, by rw [hw]; simp, by simp, fun b hb _ => hold b hb, ?_, fun i hi => by simp only [Iota.add]; rw [if_neg (by omega)]⟩⟩
  · intro j x hj
    by_cases e : j = m.length
    · simp [e]
    · simp only [Iota.add, if_neg e] at hj
      have := h.dom j x hj
      simp; omega
  · intro j c sh cp' x hj hx
    rcases hcase j x _ hj hx with ⟨rfl, rfl, e⟩ | ⟨hlt, hx, hj⟩
    · simp at e; obtain ⟨rfl, rfl, rfl⟩ := e; exact hr
    · exact hro j c sh cp' x hj hx (h.obj j c sh cp' x hj hx)
  · intro j k c sh1 cp1 sh2 cp2 x y hj hk hx hy hox hay
    rcases hcase j x _ hj hx with ⟨rfl, rfl, e⟩ | ⟨hlt, hx2, hj2⟩
    · simp at e; obtain ⟨rfl, rfl, rfl⟩ := e
      rcases hcase k y _ hk hy with ⟨rfl, rfl, e⟩ | ⟨hlt', hy, hk⟩
      · rfl
      · exfalso
        cases hoy : y.own with
        | true => have := hblock k _ _ _ y hk hy hoy; omega
        | false =>
          have := h.obj k _ _ _ y hk hy
          cases y with
          | dead => simp [AObj.alive] at hay
          | row kk e cs => cases kk with
            | ro => have := this.1; omega
            | _ => simp [AObj.own] at hoy
          | _ => simp [AObj.own] at hoy
    · rcases hcase k y _ hk hy with ⟨rfl, rfl, e⟩ | ⟨hlt', hy, hk⟩
      · simp at e; obtain ⟨rfl, rfl, rfl⟩ := e
        have := hblock j _ _ _ x hj2 hx2 hox; omega
      · exact h.inj j k c sh1 cp1 sh2 cp2 x y hj2 hk hx2 hy hox hay
  · intro g hg; exact hle _ _ (h.glob g hg)
  · rintro b hb ⟨j, sh, cp', x, hj, hx, hox⟩
    rcases hcase j x _ hj hx with ⟨rfl, rfl, e⟩ | ⟨hlt, hx, hj⟩
    · simp at e; omega
    · exact ⟨j, sh, cp', x, hj, hx, hox⟩

end Go.Abs
