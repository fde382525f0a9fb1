/- The abstract machine, 15: regions that draw their order. -/
import Derived.Test.YteajocebbmfdmaaGreatDoorAbsN
namespace Go.Abs
section
variable {P : Program}

/-! ### Which operations come ahead -/

theorem mask_spec {acc : List Nat} : ∀ {es : List Edge} {j : Nat}, (mask acc es).testBit j = true → ∃ e ∈ es, Region.binds .any e = true ∧ (e.on = j ∨ (acc.getD e.on 0).testBit j = true)
  | [], j, h => by simp [mask] at h
  | e :: es, j, h => by
    unfold mask at h
    split at h
    · rename_i hb
      rw [Nat.testBit_or, Nat.testBit_or, Bool.or_eq_true, Bool.or_eq_true] at h
      rcases h with (h | h) | h
      · rw [Nat.testBit_two_pow] at h
        exact ⟨e, by simp, hb, .inl (by simpa using h)⟩
      · exact ⟨e, by simp, hb, .inr h⟩
      · obtain ⟨e', h1, h2⟩ := mask_spec h
        exact ⟨e', by simp [h1], h2⟩
    · obtain ⟨e', h1, h2⟩ := mask_spec h
      exact ⟨e', by simp [h1], h2⟩

theorem befGo_old : ∀ (os : List Oper) (acc : List Nat) (i : Nat), i < acc.length → (befGo acc os)[i]? = acc[i]?
  | [], acc, i, h => rfl
  | o :: os, acc, i, h => by
    unfold befGo
    rw [befGo_old os _ i (by simp; omega), List.getElem?_append_left h]

theorem befGo_length : ∀ (os : List Oper) (acc : List Nat), (befGo acc os).length = acc.length + os.length
  | [], acc => rfl
  | o :: os, acc => by unfold befGo; rw [befGo_length os]; simp; omega

theorem befGo_spec : ∀ (os : List Oper) (acc : List Nat) (i j : Nat) (o : Oper), os[i]? = some o → ((befGo acc os).getD (acc.length + i) 0).testBit j = true →
    ∃ e ∈ o.after.toList, Region.binds .any e = true ∧ (e.on = j ∨ (e.on < acc.length + i ∧ ((befGo acc os).getD e.on 0).testBit j = true))
  | [], acc, i, j, o, ho, h => by simp at ho
  | o' :: os, acc, 0, j, o, ho, h => by
    simp at ho; subst ho
    unfold befGo at h ⊢
    have hi : acc.length < (acc ++ [mask acc o'.after.toList]).length := by simp
    rw [Nat.add_zero, List.getD_eq_getElem?_getD, befGo_old os _ _ hi] at h
    simp at h
    obtain ⟨e, h1, h2, h3⟩ := mask_spec h
    refine ⟨e, h1, h2, ?_⟩
    rcases h3 with h3 | h3
    · exact .inl h3
    · right
      have hlt : e.on < acc.length := by
        rcases Nat.lt_or_ge e.on acc.length with hl | hg
        · exact hl
        · rw [List.getD_eq_getElem?_getD, List.getElem?_eq_none hg] at h3; simp at h3
      refine ⟨by omega, ?_⟩
      rw [List.getD_eq_getElem?_getD, befGo_old os _ _ (by simp; omega), List.getElem?_append_left hlt, ← List.getD_eq_getElem?_getD]
      exact h3
  | o' :: os, acc, i + 1, j, o, ho, h => by
    unfold befGo at h ⊢
    have e1 : acc.length + (i + 1) = (acc ++ [mask acc o'.after.toList]).length + i := by simp; omega
    rw [e1] at h ⊢
    exact befGo_spec os _ i j o (by simpa using ho) h

def Preds (ops : Array Oper) (i : Nat) (S : Nat → Prop) : Prop := ∀ o, ops[i]? = some o → ∀ e ∈ o.after, Region.binds .any e = true → S e.on

def Closed (ops : Array Oper) (S : Nat → Prop) : Prop := ∀ i, S i → Preds ops i S

theorem preds_bit {ops : Array Oper} {S : Nat → Prop} (hS : Closed ops S) : ∀ (i j : Nat), i < ops.size → Preds ops i S → bit (bef ops) i j = true → S j := by
  intro i
  induction i using Nat.strongRecOn with
  | _ i ih =>
    intro j hi hp hb
    obtain ⟨o, ho⟩ : ∃ o, ops[i]? = some o := ⟨ops[i], Array.getElem?_eq_getElem hi⟩
    have := befGo_spec ops.toList [] i j o (by simpa using ho) (by simpa [bit, bef] using hb)
    obtain ⟨e, h1, h2, h3⟩ := this
    have hon := hp o ho e (by simpa using h1) h2
    rcases h3 with rfl | ⟨hlt, h3⟩
    · exact hon
    · simp at hlt
      exact ih e.on hlt j (by omega) (hS _ hon) (by simpa [bit, bef] using h3)

theorem closed_bit {ops : Array Oper} {S : Nat → Prop} (hS : Closed ops S) {i j : Nat} (hi : i < ops.size) (h : S i) (hb : bit (bef ops) i j = true) : S j := preds_bit hS i j hi (hS i h) hb

/-! ### Slots -/

/-- 'T' is 'a0' with the slots of the operations in S as in 'ac'. -/
structure JA (ops : Array Oper) (a0 ac : Act) (S : Nat → Prop) (T : Act) : Prop where
  size : T.tmps.size = a0.tmps.size
  ins : ∀ i o t, S i → ops[i]? = some o → o.dst = some t → T.tmps[t]? = ac.tmps[t]?
  outs : ∀ t, (∀ i o, S i → ops[i]? = some o → o.dst ≠ some t) → T.tmps[t]? = a0.tmps[t]?
  defs : T.defers = a0.defers

/-- No two operations write one slot; who reads a slot stands in order with who writes it. -/
structure Slots (ops : Array Oper) : Prop where
  one : ∀ (i j : Nat) (o o' : Oper) (t : Tmp), ops[i]? = some o → ops[j]? = some o' → o.dst = some t → o'.dst = some t → i = j
  order : ∀ (i j : Nat) (o o' : Oper) (t : Tmp), ops[i]? = some o → ops[j]? = some o' → o'.dst = some t → t ∈ o.looksAt ops → i ≠ j ∧ (bit (bef ops) i j = true ∨ bit (bef ops) j i = true)
  sel : ∀ (i : Nat) (o : Oper) cs b, ops[i]? = some o → o.op ≠ .select cs b
  def_ : ∀ (i : Nat) (o : Oper) c, ops[i]? = some o → o.op ≠ .defer c

theorem slots_of {ops : Array Oper} (h : okDraw ops (bef ops) = true) : Slots ops := by
  unfold okDraw at h
  rw [List.all_eq_true] at h
  have key : ∀ (i : Nat) (o : Oper), ops[i]? = some o → ((match o.op with | .select .. | .defer _ => false | _ => true) = true ∧ ∀ (j : Nat) (o' : Oper) (t : Tmp), ops[j]? = some o' → o'.dst = some t → (i = j ∨ o.dst ≠ some t) ∧ (t ∈ o.looksAt ops → i ≠ j ∧ (bit (bef ops) i j = true ∨ bit (bef ops) j i = true))) := by
    intro i o ho
    have hi : i < ops.size := (Array.getElem?_eq_some_iff.1 ho).1
    have h1 := h i (by simpa using hi)
    simp only [ho, Bool.and_eq_true, List.all_eq_true] at h1
    refine ⟨h1.1, fun j o' t hj hd => ?_⟩
    have hjlt : j < ops.size := (Array.getElem?_eq_some_iff.1 hj).1
    have h2 := h1.2 j (by simpa using hjlt)
    simp only [hj, hd, Bool.and_eq_true, Bool.or_eq_true, decide_eq_true_eq, bne_iff_ne, ne_eq, Bool.not_eq_true', List.contains_eq_mem] at h2
    refine ⟨h2.1, fun ht => ?_⟩
    rcases h2.2 with h3 | h3
    · simp [ht] at h3
    · simpa using h3
  refine ⟨?_, ?_, ?_, ?_⟩
  · intro i j o o' t hi hj hd hd'
    exact ((key i o hi).2 j o' t hj hd').1.resolve_right (fun q => q hd)
  · intro i j o o' t hi hj hd ht
    exact ((key i o hi).2 j o' t hj hd).2 ht
  · intro i o cs b hi e
    have := (key i o hi).1
    rw [e] at this; cases this
  · intro i o c hi e
    have := (key i o hi).1
    rw [e] at this; cases this

/-- What two states agree on. -/
def Agree (ops : Array Oper) (o : Oper) (a b : Act) : Prop := ∀ t ∈ o.looksAt ops, a.tmps[t]? = b.tmps[t]?

theorem agree_of {ops : Array Oper} (hs : Slots ops) {a0 ac a T : Act} {C S : Nat → Prop} {i : Nat} {o : Oper} (ho : ops[i]? = some o) (hC : Closed ops C) (hS : Closed ops S) (hiC : ¬ C i) (hiS : ¬ S i) (hpC : Preds ops i C) (hpS : Preds ops i S)
    (ha : JA ops a0 ac C a) (hT : JA ops a0 ac S T) : Agree ops o a T := by
  have hi : i < ops.size := (Array.getElem?_eq_some_iff.1 ho).1
  intro t ht
  by_cases hw : ∃ (j : Nat) (o' : Oper), ops[j]? = some o' ∧ o'.dst = some t
  · obtain ⟨j, o', hj, hd⟩ := hw
    have hjlt : j < ops.size := (Array.getElem?_eq_some_iff.1 hj).1
    obtain ⟨hne, hor⟩ := hs.order i j o o' t ho hj hd ht
    rcases hor with hb | hb
    · rw [ha.ins j o' t (preds_bit hC i j hi hpC hb) hj hd, hT.ins j o' t (preds_bit hS i j hi hpS hb) hj hd]
    · have h1 : ∀ (X : Nat → Prop), Closed ops X → ¬ X i → ∀ k o2, X k → ops[k]? = some o2 → o2.dst ≠ some t := by
        intro X hX hxi k o2 hk ho2 hd2
        have : k = j := hs.one k j o2 o' t ho2 hj hd2 hd
        subst this
        exact hxi (closed_bit hX hjlt hk hb)
      rw [ha.outs t (h1 C hC hiC), hT.outs t (h1 S hS hiS)]
  · have h1 : ∀ (X : Nat → Prop) k o2, X k → ops[k]? = some o2 → o2.dst ≠ some t := fun X k o2 _ ho2 hd2 => hw ⟨k, o2, ho2, hd2⟩
    rw [ha.outs t (h1 C), hT.outs t (h1 S)]

theorem JA.put {ops : Array Oper} {a0 ac T : Act} {S : Nat → Prop} (h : JA ops a0 ac S T) {i : Nat} {o : Oper} (ho : ops[i]? = some o) {v : Value} (hv : ∀ t, o.dst = some t → t < a0.tmps.size → ac.tmps[t]? = some v)
    (hac : ac.tmps.size = a0.tmps.size) : JA ops a0 ac (fun j => S j ∨ j = i) (T.put o.dst v) := by
  refine ⟨by cases hd : o.dst <;> simp [Act.put, h.size], ?_, ?_, by cases hd : o.dst <;> simp [Act.put, h.defs]⟩
  · intro j o' t hj ho' hd
    rw [put_get]
    split
    · rename_i e
      split
      · rename_i hlt; rw [h.size] at hlt; exact (hv t e hlt).symm
      · rename_i hge; rw [Array.getElem?_eq_none (by rw [hac, ← h.size]; omega)]
    · rename_i e
      rcases hj with hj | rfl
      · exact h.ins j o' t hj ho' hd
      · rw [ho] at ho'; simp at ho'; subst ho'; exact absurd hd e
  · intro t ht
    rw [put_get, if_neg (ht i o (.inr rfl) ho)]
    exact h.outs t (fun j o' hj => ht j o' (.inl hj))

/-- The state behind one more operation, for the canonical run. -/
theorem JA.self {ops : Array Oper} {a0 a : Act} {S : Nat → Prop} (h : JA ops a0 a S a) {i : Nat} {o : Oper} (ho : ops[i]? = some o) (v : Value) : JA ops a0 (a.put o.dst v) (fun j => S j ∨ j = i) (a.put o.dst v) := by
  refine ⟨by cases hd : o.dst <;> simp [Act.put, h.size], fun _ _ _ _ _ _ => rfl, ?_, by cases hd : o.dst <;> simp [Act.put, h.defs]⟩
  intro t ht
  rw [put_get, if_neg (ht i o (.inr rfl) ho)]
  exact h.outs t (fun j o' hj => ht j o' (.inl hj))

/-- A later canonical state has the slots of the earlier one. -/
def Keeps (ops : Array Oper) (C : Nat → Prop) (a b : Act) : Prop := ∀ i o t, C i → ops[i]? = some o → o.dst = some t → b.tmps[t]? = a.tmps[t]?

theorem JA.later {ops : Array Oper} {a0 a b T : Act} {C S : Nat → Prop} (h : JA ops a0 a S T) (hsub : ∀ i, S i → C i) (hk : Keeps ops C a b) : JA ops a0 b S T :=
  ⟨h.size, fun i o t hi ho hd => (h.ins i o t hi ho hd).trans (hk i o t (hsub i hi) ho hd).symm, h.outs, h.defs⟩

theorem Keeps.put {ops : Array Oper} (hs : Slots ops) {C : Nat → Prop} {a : Act} {i : Nat} {o : Oper} (ho : ops[i]? = some o) (hi : ¬ C i) (v : Value) : Keeps ops C a (a.put o.dst v) := by
  intro j o' t hj ho' hd
  rw [put_get]
  split
  · rename_i e
    have := hs.one i j o o' t ho ho' e hd
    subst this
    exact absurd hj hi
  · rfl

theorem Keeps.trans {ops : Array Oper} {C D : Nat → Prop} {a b c : Act} (h : Keeps ops C a b) (hsub : ∀ i, C i → D i) (k : Keeps ops D b c) : Keeps ops C a c :=
  fun i o t hi ho hd => (k i o t (hsub i hi) ho hd).trans (h i o t hi ho hd)

theorem Keeps.refl (ops : Array Oper) (C : Nat → Prop) (a : Act) : Keeps ops C a a := fun _ _ _ _ _ _ => rfl

/-! ### An operation sees its operands alone -/

theorem looks_tmp {ops : Array Oper} {o : Oper} {t : Tmp} (h : .tmp t ∈ o.op.operands) : t ∈ o.looksAt ops :=
  List.mem_append_left _ (List.mem_filterMap.2 ⟨.tmp t, by simpa using h, rfl⟩)

theorem aev_agree {ops : Array Oper} {o : Oper} {a b : Act} (h : Agree ops o a b) {x : Operand} (hx : x ∈ o.op.operands) : aev P a x = aev P b x := by
  cases x with
  | tmp t => simp only [aev, h t (looks_tmp hx)]
  | const v => rfl
  | func f => rfl
  | global g => rfl

theorem aevs_agree {ops : Array Oper} {o : Oper} {a b : Act} (h : Agree ops o a b) : ∀ {xs : List Operand}, (∀ x ∈ xs, x ∈ o.op.operands) → aevs P a xs = aevs P b xs
  | [], _ => rfl
  | x :: xs, hx => by
    unfold aevs
    rw [aev_agree h (hx x (by simp)), aevs_agree h (fun y hy => hx y (by simp [hy]))]

theorem aevPairs_agree {ops : Array Oper} {o : Oper} {a b : Act} (h : Agree ops o a b) : ∀ {xs : List (Nat × Operand)}, (∀ x ∈ xs, x.2 ∈ o.op.operands) → aevPairs P a xs = aevPairs P b xs
  | [], _ => rfl
  | (i, x) :: xs, hx => by
    unfold aevPairs
    rw [aev_agree h (hx (i, x) (by simp)), aevPairs_agree h (fun y hy => hx y (by simp [hy]))]

theorem aevO_agree {ops : Array Oper} {o : Oper} {a b : Act} (h : Agree ops o a b) {x : Option Operand} (hx : ∀ y, x = some y → y ∈ o.op.operands) : aevO P a x = aevO P b x := by
  cases x with
  | none => rfl
  | some y => simp only [aevO, aev_agree h (hx y rfl)]

theorem aop_agree {ops : Array Oper} {o : Oper} {a b : Act} (h : Agree ops o a b) (m : AMem) : aop P a o m = aop P b o m := by
  have ev : ∀ {x : Operand}, x ∈ o.op.operands → aev P a x = aev P b x := fun hx => aev_agree h hx
  have evs : ∀ {xs : List Operand}, (∀ x ∈ xs, x ∈ o.op.operands) → aevs P a xs = aevs P b xs := fun hx => aevs_agree h hx
  have evp : ∀ {xs : List (Nat × Operand)}, (∀ x ∈ xs, x.2 ∈ o.op.operands) → aevPairs P a xs = aevPairs P b xs := fun hx => aevPairs_agree h hx
  have evo : ∀ {x : Option Operand}, (∀ y, x = some y → y ∈ o.op.operands) → aevO P a x = aevO P b x := fun hx => aevO_agree h hx
  unfold aop
  obtain ⟨dst, op, type, pos, after, guard⟩ := o
  simp only at ev evs evp evo ⊢
  cases op <;> simp only [Op.operands] at ev evs evp evo ⊢
  case move x => rw [ev (by simp)]
  case assign x => rw [ev (by simp)]
  case pick c x y => rw [ev (x := c) (by simp), ev (x := x) (by simp), ev (x := y) (by simp)]
  case box t x => rw [ev (by simp)]
  case build t ps => rw [evp (fun x hx => by simp; exact ⟨x.1, by simpa using hx⟩)]
  case buildSlice t n ps => rw [evp (fun x hx => by simp; exact ⟨x.1, by simpa using hx⟩)]
  case load t x => rw [ev (by simp)]
  case store t x y => rw [ev (x := x) (by simp), ev (x := y) (by simp)]
  case nilCheck x => rw [ev (by simp)]
  case binOp op t x y yt => rw [ev (x := x) (by simp), ev (x := y) (by simp)]
  case unOp op t x => rw [ev (by simp)]
  case convert s d x => rw [ev (by simp)]
  case makeInterface t x => rw [ev (by simp)]
  case makeFunc fn first captured => rw [evs (fun x hx => by simp; left; simpa using hx), evs (fun x hx => by simp; right; simpa using hx)]
  case makeMap t r => cases r with
    | none => rfl
    | some x => simp only; rw [ev (by simp)]
  case makeSlice t l c => rw [ev (x := l) (by simp), ev (x := c) (by simp)]
  case slice t x lo hi mx => rw [ev (x := x) (by simp), evo (x := lo) (fun y hy => by subst hy; simp), evo (x := hi) (fun y hy => by subst hy; simp), evo (x := mx) (fun y hy => by subst hy; simp)]
  case fieldAddr s x f => rw [ev (by simp)]
  case field t x f => rw [ev (by simp)]
  case indexAddr t x i => rw [ev (x := x) (by simp), ev (x := i) (by simp)]
  case index t x i => rw [ev (x := x) (by simp), ev (x := i) (by simp)]
  case lookup t x k ok => rw [ev (x := x) (by simp), ev (x := k) (by simp)]
  case mapUpdate t x k v => rw [ev (x := x) (by simp), ev (x := k) (by simp), ev (x := v) (by simp)]
  case insert t x k v => rw [ev (x := x) (by simp), ev (x := k) (by simp), ev (x := v) (by simp)]
  case mapEntry t x k => rw [ev (x := x) (by simp), ev (x := k) (by simp)]
  case entryStore t x s v => rw [ev (x := x) (by simp), ev (x := s) (by simp), ev (x := v) (by simp)]
  case range t x => rw [ev (by simp)]
  case next it s => cases s with
    | true => simp only; rw [ev (by simp)]
    | false => rfl
  case typeAssert x xt t ok => rw [ev (by simp)]
  case extract x i => rw [ev (by simp)]
  case call c =>
    have h1 : aevs P a c.args.toList = aevs P b c.args.toList := evs (fun x hx => by simp only [Call.operands, Array.mem_append]; right; simpa using hx)
    rw [h1]
    cases hc : c.callee with
    | value f =>
      cases aevs P b c.args.toList with
      | none => rfl
      | some args => simp only []; rw [ev (x := f) (by simp [Call.operands, hc])]
    | builtin bb => cases aevs P b c.args.toList <;> rfl
    | invoke r n => cases aevs P b c.args.toList <;> rfl
  case defer c =>
    have h1 : aevs P a c.args.toList = aevs P b c.args.toList := evs (fun x hx => by simp only [Call.operands, Array.mem_append]; right; simpa using hx)
    rw [h1]
    cases hc : c.callee with
    | value f =>
      cases aevs P b c.args.toList with
      | none => rfl
      | some args => simp only []; rw [ev (x := f) (by simp [Call.operands, hc])]
    | builtin bb => cases aevs P b c.args.toList <;> rfl
    | invoke r n => cases aevs P b c.args.toList <;> rfl
  case panic x => rw [ev (by simp)]

theorem awanted_agree {ops : Array Oper} {o : Oper} {a b : Act} (h : Agree ops o a b) : awanted ops o a = awanted ops o b := by
  unfold awanted
  cases hg : o.guard with
  | none => rfl
  | some gw =>
    obtain ⟨j, want⟩ := gw
    simp only
    cases ht : (ops[j]?).bind (·.dst) with
    | none => rfl
    | some t =>
      simp only
      rw [h t (List.mem_append_right _ (by simp [hg, ht]))]

def Plain : ARes → Prop
  | .defer _ => False
  | _ => True

theorem some1_plain {m m' : AMem} {o : Option Value} {r : ARes} (h : some1 m o = some (r, m')) : Plain r := by
  unfold some1 at h; split at h
  · simp at h; obtain ⟨rfl, _⟩ := h; trivial
  · cases h

theorem skip1_plain {m' : AMem} {o : Option AMem} {r : ARes} (h : skip1 o = some (r, m')) : Plain r := by
  unfold skip1 at h; split at h
  · simp at h; obtain ⟨rfl, _⟩ := h; trivial
  · cases h

theorem abuildSlice_plain {m m' : AMem} {t : TypeId} {n : Nat} {ps : List (Nat × Value)} {r : ARes} (h : abuildSlice P t n ps m = some (r, m')) : Plain r := by
  unfold abuildSlice at h
  repeat' split at h
  all_goals first | (cases h; done) | (simp only [Option.some.injEq, Prod.mk.injEq] at h; obtain ⟨rfl, _⟩ := h; trivial)

theorem amakeSlice_plain {m m' : AMem} {t : TypeId} {l c : Value} {r : ARes} (h : amakeSlice P t l c m = some (r, m')) : Plain r := by
  unfold amakeSlice at h
  repeat' split at h
  all_goals first | (cases h; done) | (simp only [Option.some.injEq, Prod.mk.injEq] at h; obtain ⟨rfl, _⟩ := h; trivial)

theorem amapEntry_plain {m m' : AMem} {t : TypeId} {x k : Value} {r : ARes} (h : amapEntry P t x k m = some (r, m')) : Plain r := by
  unfold amapEntry at h
  repeat' split at h
  all_goals first | (cases h; done) | (simp only [Option.some.injEq, Prod.mk.injEq] at h; obtain ⟨rfl, _⟩ := h; trivial)

theorem aappend_plain {m m' : AMem} {ts : List TypeId} {x k : Value} {r : ARes} (h : aappend P ts x k m = some (r, m')) : Plain r := by
  unfold aappend at h
  repeat' split at h
  all_goals first | (cases h; done) | (simp only [Option.some.injEq, Prod.mk.injEq] at h; obtain ⟨rfl, _⟩ := h; trivial)

theorem acopy_plain {m m' : AMem} {ts : List TypeId} {x k : Value} {r : ARes} (h : acopy P ts x k m = some (r, m')) : Plain r := by
  unfold acopy at h
  simp only at h
  repeat' split at h
  all_goals first | (cases h; done) | (simp only [Option.some.injEq, Prod.mk.injEq] at h; obtain ⟨rfl, _⟩ := h; trivial)

theorem aunsafeString_plain {m m' : AMem} {t : TypeId} {x k : Value} {r : ARes} (h : aunsafeString P t x k m = some (r, m')) : Plain r := by
  unfold aunsafeString at h
  repeat' split at h
  all_goals first | (cases h; done) | (simp only [Option.some.injEq, Prod.mk.injEq] at h; obtain ⟨rfl, _⟩ := h; trivial)

theorem abuiltin_plain {m m' : AMem} {b : Builtin} {ts : List TypeId} {args : List Value} {r : ARes} (h : abuiltin P b ts args m = some (r, m')) : Plain r := by
  unfold abuiltin at h
  split at h
  · exact aappend_plain h
  · exact acopy_plain h
  · repeat' split at h
    all_goals first | (cases h; done) | (simp only [Option.some.injEq, Prod.mk.injEq] at h; obtain ⟨rfl, _⟩ := h; trivial)
  · repeat' split at h
    all_goals first | (cases h; done) | (simp only [Option.some.injEq, Prod.mk.injEq] at h; obtain ⟨rfl, _⟩ := h; trivial)
  · repeat' split at h
    all_goals first | (cases h; done) | (simp only [Option.some.injEq, Prod.mk.injEq] at h; obtain ⟨rfl, _⟩ := h; trivial)
  · repeat' split at h
    all_goals first | (cases h; done) | (simp only [Option.some.injEq, Prod.mk.injEq] at h; obtain ⟨rfl, _⟩ := h; trivial)
  · simp only [Option.some.injEq, Prod.mk.injEq] at h; obtain ⟨rfl, _⟩ := h; trivial
  · repeat' split at h
    all_goals first | (cases h; done) | (simp only [Option.some.injEq, Prod.mk.injEq] at h; obtain ⟨rfl, _⟩ := h; trivial)
  · split at h
    · exact aunsafeString_plain h
    · cases h
  · cases h

theorem acallee_plain {m m' : AMem} {f : FuncId} {args : List Value} {r : ARes} (h : acallee P f args m = some (r, m')) : Plain r := by
  unfold acallee at h
  repeat' split at h
  all_goals first | (cases h; done) | (simp only [Option.some.injEq, Prod.mk.injEq] at h; obtain ⟨rfl, _⟩ := h; trivial)

theorem aop_plain {a : Act} {o : Oper} {m m' : AMem} {r : ARes} (h : aop P a o m = some (r, m')) (hd : ∀ c, o.op ≠ .defer c) : Plain r := by
  unfold aop at h
  split at h <;> first
    | exact some1_plain h
    | exact skip1_plain h
    | exact absurd (by assumption) (hd _)
    | (cases h; done)
    | skip
  all_goals
    (repeat' split at h) <;> first
      | exact some1_plain h
      | exact skip1_plain h
      | exact abuildSlice_plain h
      | exact amakeSlice_plain h
      | exact amapEntry_plain h
      | exact abuiltin_plain h
      | exact acallee_plain h
      | (cases h; done)
      | (simp only [Option.some.injEq, Prod.mk.injEq] at h; obtain ⟨rfl, _⟩ := h; trivial)

theorem astep_agree {ops : Array Oper} {o : Oper} {a b : Act} (call : CallF) (h : Agree ops o a b) (m : AMem) (hd : ∀ c, o.op ≠ .defer c) {x : AExit} {a1 : Act} {m1 : AMem} (he : astep P call ops o a m = some (x, a1, m1)) :
    (x = .normal → ∃ v, a1 = a.put o.dst v ∧ astep P call ops o b m = some (.normal, b.put o.dst v, m1)) ∧ (∀ v, x = .panic v → astep P call ops o b m = some (.panic v, b, m1)) := by
  unfold astep at he ⊢
  rw [← awanted_agree h, ← aop_agree h]
  split at he
  · simp only [Option.some.injEq, Prod.mk.injEq] at he; obtain ⟨rfl, rfl, rfl⟩ := he
    exact ⟨fun _ => ⟨undef, rfl, rfl⟩, fun v e => by cases e⟩
  · split at he
    · rename_i v m' hop
      simp only [Option.some.injEq, Prod.mk.injEq] at he; obtain ⟨rfl, rfl, rfl⟩ := he
      exact ⟨fun _ => ⟨v, rfl, rfl⟩, fun v e => by cases e⟩
    · simp only [Option.some.injEq, Prod.mk.injEq] at he; obtain ⟨rfl, rfl, rfl⟩ := he
      exact ⟨fun _ => ⟨undef, rfl, rfl⟩, fun v e => by cases e⟩
    · rename_i d m' hop
      exact (aop_plain hop hd).elim
    · rename_i f args m' hop
      split at he
      · rename_i v m'' hcall
        simp only [Option.some.injEq, Prod.mk.injEq] at he; obtain ⟨rfl, rfl, rfl⟩ := he
        exact ⟨fun _ => ⟨v, rfl, rfl⟩, fun v e => by cases e⟩
      · rename_i v m'' hcall
        simp only [Option.some.injEq, Prod.mk.injEq] at he; obtain ⟨rfl, rfl, rfl⟩ := he
        exact ⟨fun e => (by cases e), fun v e => by cases e; rfl⟩
      · cases he
    · rename_i v m' hop
      simp only [Option.some.injEq, Prod.mk.injEq] at he; obtain ⟨rfl, rfl, rfl⟩ := he
      exact ⟨fun e => (by cases e), fun v e => by cases e; rfl⟩
    · cases he
    · cases he
  · cases he

end
end Go.Abs
