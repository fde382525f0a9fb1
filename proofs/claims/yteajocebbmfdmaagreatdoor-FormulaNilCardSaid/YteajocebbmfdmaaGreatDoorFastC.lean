/- The quick machine, 3: it answers as the abstract machine: memory, slots, operations. -/
import Derived.Test.YteajocebbmfdmaaGreatDoorFastB
import Derived.Test.YteajocebbmfdmaaGreatDoorAbsM
namespace Go.Abs

/-! ### Trees -/

theorem beq_dec (n k : Nat) : Nat.beq n k = decide (n = k) := by
  cases h : Nat.beq n k
  · exact (decide_eq_false (Nat.ne_of_beq_eq_false h)).symm
  · exact (decide_eq_true (Nat.eq_of_beq_eq_true h)).symm

theorem T.get_nil {α : Type} : ∀ (d n : Nat), T.get d (.nil : T α) n = none
  | 0, _ => rfl
  | _ + 1, _ => rfl

theorem T.get_node {α : Type} (d : Nat) (v : Option α) (l r : T α) (n : Nat) : T.get (d + 1) (.node v l r) n = if n = 0 then v else if n % 2 = 1 then T.get d l (n / 2) else T.get d r (n / 2 - 1) := by
  show (Bool.rec (motive := fun _ => Option α) (Bool.rec (motive := fun _ => Option α) (T.get d r (Nat.pred (Nat.div n 2))) (T.get d l (Nat.div n 2)) (Nat.beq (Nat.mod n 2) 1)) v (Nat.beq n 0)) = _
  rw [beq_dec, beq_dec]
  by_cases h0 : n = 0
  · simp [h0]
  · have e1 : Nat.mod n 2 = n % 2 := rfl
    have e2 : Nat.div n 2 = n / 2 := rfl
    rw [e1, e2]
    by_cases h1 : n % 2 = 1
    · simp [h0, h1]
    · simp [h0, h1]

theorem T.set_node {α : Type} (d : Nat) (v : Option α) (l r : T α) (n : Nat) (x : α) : T.set (d + 1) (.node v l r) n x = if n = 0 then .node (some x) l r else if n % 2 = 1 then .node v (T.set d l (n / 2) x) r else .node v l (T.set d r (n / 2 - 1) x) := by
  show (Bool.rec (motive := fun _ => T α) (Bool.rec (motive := fun _ => T α) (.node v l (T.set d r (Nat.pred (Nat.div n 2)) x)) (.node v (T.set d l (Nat.div n 2) x) r) (Nat.beq (Nat.mod n 2) 1)) (.node (some x) l r) (Nat.beq n 0)) = _
  rw [beq_dec, beq_dec]
  by_cases h0 : n = 0
  · simp [h0]
  · have e1 : Nat.mod n 2 = n % 2 := rfl
    have e2 : Nat.div n 2 = n / 2 := rfl
    rw [e1, e2]
    by_cases h1 : n % 2 = 1
    · simp [h0, h1]
    · simp [h0, h1]

theorem T.set_nil {α : Type} (d : Nat) (n : Nat) (x : α) : T.set (d + 1) .nil n x = if n = 0 then .node (some x) .nil .nil else if n % 2 = 1 then .node none (T.set d .nil (n / 2) x) .nil else .node none .nil (T.set d .nil (n / 2 - 1) x) := by
  show (Bool.rec (motive := fun _ => T α) (Bool.rec (motive := fun _ => T α) (.node none .nil (T.set d .nil (Nat.pred (Nat.div n 2)) x)) (.node none (T.set d .nil (Nat.div n 2) x) .nil) (Nat.beq (Nat.mod n 2) 1)) (.node (some x) .nil .nil) (Nat.beq n 0)) = _
  rw [beq_dec, beq_dec]
  by_cases h0 : n = 0
  · simp [h0]
  · have e1 : Nat.mod n 2 = n % 2 := rfl
    have e2 : Nat.div n 2 = n / 2 := rfl
    rw [e1, e2]
    by_cases h1 : n % 2 = 1
    · simp [h0, h1]
    · simp [h0, h1]

theorem T.get_set {α : Type} : ∀ (d : Nat) (t : T α) (n k : Nat) (x : α), n < 2 ^ d - 1 → k < 2 ^ d - 1 → T.get d (T.set d t n x) k = if k = n then some x else T.get d t k
  | 0, _, n, _, _, h, _ => by simp at h
  | d + 1, t, n, k, x, hn, hk => by
    have hp : 2 ^ (d + 1) = 2 * 2 ^ d := by rw [Nat.pow_succ]; omega
    rw [hp] at hn hk
    cases t with
    | nil =>
      rw [T.set_nil]
      by_cases h0 : n = 0
      · simp only [h0, if_true, T.get_node]
        by_cases k0 : k = 0
        · simp [k0]
        · simp [k0, T.get_nil]
      · simp only [h0, if_false]
        by_cases h1 : n % 2 = 1
        · simp only [h1, if_true, T.get_node]
          by_cases k0 : k = 0
          · simp [k0, T.get_nil, Ne.symm h0]
          · by_cases k1 : k % 2 = 1
            · simp only [k0, k1, if_true, if_false]
              rw [T.get_set d _ _ _ _ (by omega) (by omega)]
              have : (k / 2 = n / 2) ↔ (k = n) := by omega
              simp only [this, T.get_nil]
            · have : ¬ k = n := by rintro rfl; exact k1 h1
              simp [k0, k1, this, T.get_nil]
        · simp only [h1, if_false, T.get_node]
          by_cases k0 : k = 0
          · simp [k0, T.get_nil, Ne.symm h0]
          · by_cases k1 : k % 2 = 1
            · have : ¬ k = n := by rintro rfl; exact h1 k1
              simp [k0, k1, this, T.get_nil]
            · simp only [k0, k1, if_false]
              rw [T.get_set d _ _ _ _ (by omega) (by omega)]
              have : (k / 2 - 1 = n / 2 - 1) ↔ (k = n) := by omega
              simp only [this, T.get_nil]
    | node v l r =>
      rw [T.set_node]
      by_cases h0 : n = 0
      · simp only [h0, if_true, T.get_node]
        by_cases k0 : k = 0
        · simp [k0]
        · simp [k0]
      · simp only [h0, if_false]
        by_cases h1 : n % 2 = 1
        · simp only [h1, if_true, T.get_node]
          by_cases k0 : k = 0
          · simp [k0, Ne.symm h0]
          · by_cases k1 : k % 2 = 1
            · simp only [k0, k1, if_true, if_false]
              rw [T.get_set d _ _ _ _ (by omega) (by omega)]
              have : (k / 2 = n / 2) ↔ (k = n) := by omega
              simp only [this]
            · have : ¬ k = n := by rintro rfl; exact k1 h1
              simp [k0, k1, this]
        · simp only [h1, if_false, T.get_node]
          by_cases k0 : k = 0
          · simp [k0, Ne.symm h0]
          · by_cases k1 : k % 2 = 1
            · have : ¬ k = n := by rintro rfl; exact h1 k1
              simp [k0, k1, this]
            · simp only [k0, k1, if_false]
              rw [T.get_set d _ _ _ _ (by omega) (by omega)]
              have : (k / 2 - 1 = n / 2 - 1) ↔ (k = n) := by omega
              simp only [this]

/-! ### Memory -/

noncomputable def FMem.toL (m : FMem) : AMem := (List.range m.n).map fun i => (m.t.get 13 i).getD .dead

theorem FMem.toL_length (m : FMem) : m.toL.length = m.n := by simp [FMem.toL]

theorem FMem.toL_get (m : FMem) (i : Nat) : m.toL[i]? = m.get i := by
  unfold FMem.toL FMem.get
  rw [List.getElem?_map]
  by_cases h : i < m.n
  · have : Nat.blt i m.n = true := by simpa [Nat.blt_eq] using h
    rw [this, List.getElem?_range h]; rfl
  · have : Nat.blt i m.n = false := by
      cases hb : Nat.blt i m.n
      · rfl
      · exact absurd (by simpa [Nat.blt_eq] using hb) h
    rw [this, List.getElem?_eq_none (by simpa using h)]; rfl

theorem FMem.get_lt {m : FMem} {i : Nat} {o : AObj} (h : m.get i = some o) : i < m.n := by
  rw [← FMem.toL_get] at h
  have := (List.getElem?_eq_some_iff.1 h).1
  rwa [FMem.toL_length] at this

theorem FMem.toL_put (m : FMem) {i : Nat} (hi : i < m.n) (o : AObj) : (m.put i o).toL = m.toL.set i o := by
  apply List.ext_getElem?
  intro k
  have hle := m.le
  rw [List.getElem?_set, FMem.toL_length]
  by_cases hk : k < m.n
  · have e : (m.put i o).toL[k]? = some ((T.get 13 (T.set 13 m.t i o) k).getD .dead) := by
      unfold FMem.toL FMem.put
      simp only
      rw [List.getElem?_map, List.getElem?_range hk]; rfl
    rw [e, T.get_set 13 _ _ _ _ (by omega) (by omega)]
    by_cases h : i = k
    · subst h; simp [hi]
    · rw [if_neg (Ne.symm h), if_neg h]
      unfold FMem.toL
      rw [List.getElem?_map, List.getElem?_range hk]; rfl
  · rw [List.getElem?_eq_none (by rw [FMem.toL_length]; simpa [FMem.put] using hk)]
    have : ¬ i = k := by rintro rfl; exact hk hi
    rw [if_neg this, List.getElem?_eq_none (by rw [FMem.toL_length]; omega)]

theorem FMem.toL_push {m m' : FMem} {o : AObj} (h : m.push o = some m') : m'.toL = m.toL ++ [o] ∧ m'.n = m.n + 1 := by
  unfold FMem.push at h
  split at h
  · rename_i hlt
    simp only [Option.some.injEq] at h
    subst h
    refine ⟨?_, rfl⟩
    apply List.ext_getElem?
    intro k
    have hle := m.le
    by_cases hk : k < m.n + 1
    · have e : (FMem.toL ⟨m.n + 1, m.t.set 13 m.n o, hlt⟩)[k]? = some ((T.get 13 (T.set 13 m.t m.n o) k).getD .dead) := by
        unfold FMem.toL
        simp only
        rw [List.getElem?_map, List.getElem?_range hk]; rfl
      rw [e, T.get_set 13 _ _ _ _ (by omega) (by omega)]
      by_cases h : k = m.n
      · subst h
        rw [List.getElem?_append_right (by rw [FMem.toL_length]; exact Nat.le_refl _), FMem.toL_length]; simp
      · rw [if_neg h, List.getElem?_append_left (by rw [FMem.toL_length]; omega)]
        unfold FMem.toL
        rw [List.getElem?_map, List.getElem?_range (by omega)]; rfl
    · rw [List.getElem?_eq_none (by rw [FMem.toL_length]; exact Nat.le_of_not_lt hk), List.getElem?_eq_none (by simp [FMem.toL_length]; omega)]
  · cases h

/-! ### Slots -/

noncomputable def FAct.toA (a : FAct) : Act := { tmps := ((List.range a.n).map fun i => (a.t.get 10 i).getD undef).toArray, defers := a.defers }

theorem FAct.toA_size (a : FAct) : a.toA.tmps.size = a.n := by simp [FAct.toA]

theorem FAct.toA_get (a : FAct) (i : Nat) : a.toA.tmps[i]? = a.get i := by
  unfold FAct.toA FAct.get
  simp only [List.getElem?_toArray]
  rw [List.getElem?_map]
  by_cases h : i < a.n
  · have : Nat.blt i a.n = true := by simpa [Nat.blt_eq] using h
    rw [this, List.getElem?_range h]; rfl
  · have : Nat.blt i a.n = false := by
      cases hb : Nat.blt i a.n
      · rfl
      · exact absurd (by simpa [Nat.blt_eq] using hb) h
    rw [this, List.getElem?_eq_none (by simpa using h)]; rfl

theorem FAct.toA_put (a : FAct) (dst : Option Tmp) (v : Value) : (a.put dst v).toA = a.toA.put dst v := by
  cases dst with
  | none => rfl
  | some d =>
    have hd : (FAct.put a (some d) v).toA.defers = (a.toA.put (some d) v).defers := by
      simp only [FAct.put, Act.put]
      cases Nat.blt d a.n <;> rfl
    have ht : (FAct.put a (some d) v).toA.tmps = (a.toA.put (some d) v).tmps := by
      apply Array.ext_getElem?
      intro k
      rw [put_get, FAct.toA_get, FAct.toA_get, FAct.toA_size]
      have hle := a.le
      unfold FAct.put
      simp only [Option.some.injEq]
      by_cases hdn : d < a.n
      · have : Nat.blt d a.n = true := by simpa [Nat.blt_eq] using hdn
        rw [this]
        simp only [cond_true]
        unfold FAct.get
        simp only
        by_cases hk : k < a.n
        · have hb : Nat.blt k a.n = true := by simpa [Nat.blt_eq] using hk
          rw [hb]
          simp only [cond_true]
          rw [T.get_set 10 _ _ _ _ (Nat.lt_of_lt_of_le hdn (Nat.le_trans a.le (by decide))) (Nat.lt_of_lt_of_le hk (Nat.le_trans a.le (by decide)))]
          by_cases e : d = k
          · subst e; simp [hk]
          · rw [if_neg (Ne.symm e), if_neg e]
        · have hb : Nat.blt k a.n = false := by
            cases hb : Nat.blt k a.n
            · rfl
            · exact absurd (by simpa [Nat.blt_eq] using hb) hk
          rw [hb]
          simp only [cond_false]
          have : ¬ d = k := by rintro rfl; exact hk hdn
          rw [if_neg this]
      · have : Nat.blt d a.n = false := by
          cases hb : Nat.blt d a.n
          · rfl
          · exact absurd (by simpa [Nat.blt_eq] using hb) hdn
        rw [this]
        simp only [cond_false]
        by_cases e : d = k
        · subst e
          rw [if_pos rfl, if_neg hdn]
          unfold FAct.get
          rw [this]; rfl
        · rw [if_neg e]
    have : ∀ (x y : Act), x.tmps = y.tmps → x.defers = y.defers → x = y := by
      intro x y h1 h2; cases x; cases y; simp_all
    exact this _ _ ht hd

section
variable {P : Program}

theorem fev_eq (a : FAct) (x : Operand) : fev P a x = aev P a.toA x := by
  cases x <;> simp only [fev, aev, FAct.toA_get]

theorem fevs_eq (a : FAct) : ∀ (xs : List Operand), fevs P a xs = aevs P a.toA xs
  | [] => rfl
  | x :: xs => by
    unfold fevs aevs
    rw [fev_eq, fevs_eq a xs]
    rfl

theorem fevPairs_eq (a : FAct) : ∀ (xs : List (Nat × Operand)), fevPairs P a xs = aevPairs P a.toA xs
  | [] => rfl
  | (i, x) :: xs => by
    unfold fevPairs aevPairs
    rw [fev_eq, fevPairs_eq a xs]
    rfl

theorem fevO_eq (a : FAct) (x : Option Operand) : fevO P a x = aevO P a.toA x := by
  cases x
  · rfl
  · simp only [fevO, aevO, fev_eq]
    rfl

theorem floadN_eq (m : FMem) (b off n : Nat) : floadN m b off n = loadN m.toL b off n := by
  unfold floadN loadN
  rw [FMem.toL_get]
  rfl

theorem fload1_eq (m : FMem) (b off : Nat) : fload1 m b off = load1 m.toL b off := by
  unfold fload1 load1
  rw [FMem.toL_get]
  rfl

theorem fload_eq (t : TypeId) (v : Value) (m : FMem) : fload P t v m = aload P t v m.toL := by
  unfold fload aload
  simp only [floadN_eq, fload1_eq]
  rfl

theorem fstoreN_ref {m m' : FMem} {b off : Nat} {vs : List Value} (h : fstoreN m b off vs = some m') : storeN m.toL b off vs = some m'.toL := by
  unfold fstoreN at h
  unfold storeN
  rw [FMem.toL_get]
  split at h
  · rename_i k e cs ho
    split at h
    · rename_i hc
      simp only [Option.some.injEq] at h; subst h
      rw [ho]
      simp only
      rw [if_pos hc, FMem.toL_put _ (FMem.get_lt ho)]
    · cases h
  · cases h

theorem fstore_ref {t : TypeId} {v x : Value} {m m' : FMem} (h : fstore P t v x m = some m') : astore P t v x m.toL = some m'.toL := by
  unfold fstore at h
  unfold astore
  split at h
  · split at h
    · rename_i hn
      split at h
      · rename_i hc
        simp only [hn]
        rw [if_pos hc]
        exact fstoreN_ref h
      · cases h
    · cases h
  · cases h

theorem fnew_ref {k : RowKind} {e : TypeId} {cs : List Value} {m m' : FMem} {b : Nat} (h : fnew k e cs m = some (b, m')) : anew k e cs m.toL = some (b, m'.toL) := by
  unfold fnew at h
  unfold anew
  split at h
  · rename_i hc
    split at h
    · rename_i m2 hp
      simp only [Option.some.injEq, Prod.mk.injEq] at h; obtain ⟨rfl, rfl⟩ := h
      rw [if_pos hc, FMem.toL_length, (FMem.toL_push hp).1]
    · cases h
  · cases h

theorem aeql_nil {t : TypeId} {x y : Value} {b : Bool} (m : AMem) (h : aeql P t [] x y = some b) : aeql P t m x y = some b := by
  unfold aeql at h ⊢
  split at h <;> first
    | exact h
    | skip
  all_goals simp at h

theorem feql_ref {t : TypeId} {x y : Value} {b : Bool} (m : FMem) (h : feql P t m x y = some b) : aeql P t m.toL x y = some b := by
  unfold feql at h
  split at h
  · rename_i hu
    unfold aeql
    simp only [hu, FMem.toL_get]
    exact h
  · exact aeql_nil _ h

theorem abin_nil {op : BinOp} {t : TypeId} {x y : Operand} {a b r : Value} (m : AMem) (h : abin P op t x y [] a b = some r) : abin P op t x y m a b = some r := by
  unfold abin at h ⊢
  split at h <;> first
    | exact h
    | skip
  all_goals
    split at h
    · rename_i hq
      simp only [Option.some.injEq] at h; subst h
      rw [aeql_nil m hq]
    · cases h

theorem fbin_ref {op : BinOp} {t : TypeId} {x y : Operand} {a b r : Value} (m : FMem) (h : fbin P op t x y m a b = some r) : abin P op t x y m.toL a b = some r := by
  unfold fbin at h
  split at h
  · split at h
    · rename_i hq
      simp only [Option.some.injEq] at h; subst h
      unfold abin
      simp only [feql_ref m hq]
    · cases h
  · split at h
    · rename_i hq
      simp only [Option.some.injEq] at h; subst h
      unfold abin
      simp only [feql_ref m hq]
    · cases h
  · exact abin_nil _ h

theorem aconv_nil {s d : TypeId} {x r : Value} (m : AMem) (h : aconv P s d x [] = some r) : aconv P s d x m = some r := by
  unfold aconv at h ⊢
  split at h <;> first
    | exact h
    | skip
  · split at h
    · simp [loadN] at h
    · cases h
  · simp at h
  · simp at h

theorem fconv_ref {s d : TypeId} {x r : Value} (m : FMem) (h : fconv P s d x m = some r) : aconv P s d x m.toL = some r := by
  unfold fconv at h
  split at h
  · split at h
    · rename_i h1 h2
      unfold aconv
      simp only [h1, h2, ← floadN_eq]
      exact h
    · cases h
  · split at h
    · rename_i h1 h2
      unfold aconv
      simp only [h1, h2, FMem.toL_get]
      exact h
    · rename_i h1 h2
      unfold aconv
      simp only [h1, h2, FMem.toL_get]
      exact h
    · cases h
  · exact aconv_nil _ h

theorem alenOf_nil {t : TypeId} {v r : Value} (m : AMem) (h : alenOf P t v [] = some r) : alenOf P t v m = some r := by
  unfold alenOf at h ⊢
  split at h <;> first
    | exact h
    | skip
  simp at h

theorem flenOf_ref {t : TypeId} {v r : Value} (m : FMem) (h : flenOf P t v m = some r) : alenOf P t v m.toL = some r := by
  unfold flenOf at h
  split at h
  · split at h
    · rename_i hu
      unfold alenOf
      simp only [hu, FMem.toL_get]
      exact h
    · cases h
  · exact alenOf_nil _ h

/-- What the quick machine answers the other one answers. -/
def Ref (x : FOut) (y : AOut) : Prop := ∀ r m', x = some (r, m') → y = some (r, m'.toL)

theorem fpushed_ref {m : FMem} {o : AObj} {v : Value} {r : ARes} {m' : FMem} (h : fpushed m o v = some (r, m')) : r = .val v ∧ m'.toL = m.toL ++ [o] := by
  unfold fpushed at h
  split at h
  · rename_i m2 hp
    simp only [Option.some.injEq, Prod.mk.injEq] at h; obtain ⟨rfl, rfl⟩ := h
    exact ⟨rfl, (FMem.toL_push hp).1⟩
  · cases h

theorem fbuildSlice_ref (t : TypeId) (len : Nat) (ps : List (Nat × Value)) (m : FMem) : Ref (fbuildSlice P t len ps m) (abuildSlice P t len ps m.toL) := by
  intro r m' h
  unfold fbuildSlice at h
  unfold abuildSlice
  repeat' split at h
  all_goals first
    | (cases h; done)
    | skip
  rename_i hn
  simp only [Option.some.injEq, Prod.mk.injEq] at h; obtain ⟨rfl, rfl⟩ := h
  simp only [*, fnew_ref hn]
  simp

theorem ffirst_eq (size n : Nat) (v : Value) (m : FMem) : ffirst size n v m = afirst size n v m.toL := by
  unfold ffirst afirst
  simp only [floadN_eq]
  rfl

theorem fappend_ref (ts : List TypeId) (s x : Value) (m : FMem) : Ref (fappend P ts s x m) (aappend P ts s x m.toL) := by
  intro r m' h
  unfold fappend at h
  unfold aappend
  simp only [ffirst_eq] at h
  split at h
  · rename_i t u rest
    split at h
    · cases h
    · rename_i e ub hne hu1 hu2
      split at h
      · rename_i i zs n h1 h2 h3
        split at h
        · rename_i base len c
          simp only [hu1, hu2, h1, h2, h3]
          by_cases c1 : i.bytes = 0
          · rw [if_pos c1] at h; cases h
          rw [if_neg c1] at h ⊢
          by_cases c2 : n = 0
          · rw [if_pos c2] at h ⊢
            simp only [Option.some.injEq, Prod.mk.injEq] at h; obtain ⟨rfl, rfl⟩ := h; rfl
          rw [if_neg c2] at h ⊢
          by_cases c3 : (len + n) * i.bytes > 2 ^ 47
          · rw [if_pos c3] at h; cases h
          rw [if_neg c3] at h ⊢
          split at h
          · rename_i new old h4 h5
            simp only [h4, h5]
            by_cases c4 : (!new.all flat) = true
            · rw [if_pos c4] at h; cases h
            rw [if_neg c4] at h ⊢
            simp only [FMem.toL_length]
            split at h
            · obtain ⟨rfl, e⟩ := fpushed_ref h
              rw [e]
            · rename_i b off
              split at h
              · rename_i hc
                simp only
                rw [if_pos hc]
                obtain ⟨rfl, e⟩ := fpushed_ref h
                rw [e]
              · rename_i hc
                split at h
                · rename_i hc2
                  simp only
                  rw [if_neg hc, if_pos hc2, FMem.toL_get]
                  split at h
                  · rename_i e' cs ho
                    split at h
                    · rename_i he
                      rw [ho]
                      simp only
                      rw [if_pos he]
                      obtain ⟨rfl, e⟩ := fpushed_ref h
                      rw [e, FMem.toL_put _ (FMem.get_lt ho)]
                    · cases h
                  · cases h
                · cases h
            · cases h
          · cases h
        · cases h
      · cases h
    · cases h
  · cases h

theorem fcopy_ref (ts : List TypeId) (d s : Value) (m : FMem) : Ref (fcopy P ts d s m) (acopy P ts d s m.toL) := by
  intro r m' h
  unfold fcopy at h
  unfold acopy
  simp only [ffirst_eq] at h
  split at h
  · split at h
    · rename_i e hu
      split at h
      · rename_i size sn base dn cap h1 h2
        simp only [hu, h1, h2]
        split at h
        · rename_i cs h3
          simp only [h3]
          split at h
          · split at h
            · rename_i hz
              simp only
              rw [if_pos hz]
              simp only [Option.some.injEq, Prod.mk.injEq] at h; obtain ⟨rfl, rfl⟩ := h; rfl
            · rename_i hz
              simp only
              rw [if_neg hz]
              split at h
              · rename_i m2 hst
                simp only [Option.some.injEq, Prod.mk.injEq] at h; obtain ⟨rfl, rfl⟩ := h
                rw [fstoreN_ref hst]
              · cases h
          · simp only [Option.some.injEq, Prod.mk.injEq] at h; obtain ⟨rfl, rfl⟩ := h; rfl
          · cases h
        · cases h
      · cases h
    · cases h
  · cases h

theorem fmakeSlice_ref (t : TypeId) (l c : Value) (m : FMem) : Ref (fmakeSlice P t l c m) (amakeSlice P t l c m.toL) := by
  intro r m' h
  unfold fmakeSlice at h
  unfold amakeSlice
  split at h
  · rename_i e k1 l k2 c hu
    simp only [hu]
    split at h
    · rename_i i hi
      simp only [hi]
      split at h
      · rename_i hc
        rw [if_pos hc]
        split at h
        · rename_i zs hz
          simp only [hz]
          split at h
          · rename_i b m2 hn
            simp only [Option.some.injEq, Prod.mk.injEq] at h; obtain ⟨rfl, rfl⟩ := h
            rw [fnew_ref hn]
          · cases h
        · cases h
      · cases h
    · cases h
  · cases h

theorem funsafeString_ref (t : TypeId) (p n : Value) (m : FMem) : Ref (funsafeString P t p n m) (aunsafeString P t p n m.toL) := by
  intro r m' h
  unfold funsafeString at h
  unfold aunsafeString
  split at h
  · rename_i u b off k n hu
    simp only [hu, FMem.toL_get]
    split at h
    · rename_i e cs h1 h2
      simp only [h1, h2]
      split at h
      · rename_i hc
        rw [if_pos hc]
        rw [← floadN_eq]
        split at h
        · rename_i cs2 h3
          rw [h3]
          simp only
          split at h
          · rename_i bs h4
            simp only [Option.some.injEq, Prod.mk.injEq] at h; obtain ⟨rfl, rfl⟩ := h
            rw [h4]
            simp only
            rw [FMem.toL_put _ (FMem.get_lt h2)]
          · cases h
        · cases h
      · cases h
    · cases h
  · cases h

theorem fdelete_ref {t : TypeId} {x k : Value} {m m' : FMem} (h : fdelete P t x k m = some m') : adelete P t x k m.toL = some m'.toL := by
  unfold fdelete at h
  unfold adelete
  split at h
  · rename_i key el r hu
    simp only [hu]
    split at h
    · rename_i hc
      rw [if_pos hc, FMem.toL_get]
      split at h
      · rename_i es clock ho
        simp only [ho]
        split at h
        · rename_i i v hf
          simp only [Option.some.injEq] at h; subst h
          simp only [hf]
          rw [FMem.toL_put _ (FMem.get_lt ho)]
        · rename_i hf
          simp only [Option.some.injEq] at h; subst h
          simp only [hf]
          rw [FMem.toL_put _ (FMem.get_lt ho)]
        · cases h
      · cases h
    · cases h
  · cases h

theorem fmapUpdate_ref {t : TypeId} {x k v : Value} {m m' : FMem} (h : fmapUpdate P t x k v m = some m') : amapUpdate P t x k v m.toL = some m'.toL := by
  unfold fmapUpdate at h
  unfold amapUpdate
  split at h
  · rename_i key el r hu
    simp only [hu]
    split at h
    · rename_i hc
      rw [if_pos hc, FMem.toL_get]
      split at h
      · rename_i es clock ho
        simp only [ho]
        split at h
        · rename_i i v hf
          simp only [hf]
          split at h
          · rename_i e he
            simp only [he]
            split at h
            · rename_i hs
              simp only [Option.some.injEq] at h; subst h
              rw [if_pos hs, FMem.toL_put _ (FMem.get_lt ho)]
            · cases h
          · cases h
        · rename_i hf
          simp only [Option.some.injEq] at h; subst h
          simp only [hf]
          rw [FMem.toL_put _ (FMem.get_lt ho)]
        · cases h
      · cases h
    · cases h
  · cases h

theorem flookup_eq (t : TypeId) (x k : Value) (ok : Bool) (m : FMem) : flookup P t x k ok m = alookup P t x k ok m.toL := by
  unfold flookup alookup
  simp only [FMem.toL_get]
  rfl

theorem fbuiltin_ref (b : Builtin) (ts : List TypeId) (args : List Value) (m : FMem) : Ref (fbuiltin P b ts args m) (abuiltin P b ts args m.toL) := by
  intro r m' h
  unfold fbuiltin at h
  unfold abuiltin
  split at h
  · exact fappend_ref _ _ _ _ _ _ h
  · exact fcopy_ref _ _ _ _ _ _ h
  · split at h
    · split at h
      · rename_i hd
        simp only [Option.some.injEq, Prod.mk.injEq] at h; obtain ⟨rfl, rfl⟩ := h
        simp only [fdelete_ref hd]
      · cases h
    · cases h
  · split at h
    · split at h
      · rename_i hd
        simp only [Option.some.injEq, Prod.mk.injEq] at h; obtain ⟨rfl, rfl⟩ := h
        simp only [flenOf_ref m hd]
      · cases h
    · cases h
  · split at h
    · rename_i hd
      simp only [Option.some.injEq, Prod.mk.injEq] at h; obtain ⟨rfl, rfl⟩ := h
      simp only [hd]
    · cases h
  · split at h
    · rename_i hd
      simp only [Option.some.injEq, Prod.mk.injEq] at h; obtain ⟨rfl, rfl⟩ := h
      simp only [hd]
    · cases h
  · simp only [Option.some.injEq, Prod.mk.injEq] at h; obtain ⟨rfl, rfl⟩ := h; rfl
  · split at h
    · rename_i hd
      simp only [Option.some.injEq, Prod.mk.injEq] at h; obtain ⟨rfl, rfl⟩ := h
      simp only [if_pos hd]
    · cases h
  · split at h
    · exact funsafeString_ref _ _ _ _ _ _ h
    · cases h
  · cases h

theorem fcallee_ref (f : FuncId) (args : List Value) (m : FMem) : Ref (fcallee P f args m) (acallee P f args m.toL) := by
  intro r m' h
  unfold fcallee at h
  unfold acallee
  split at h
  · rename_i fn hf
    simp only [hf]
    split at h
    · rename_i c hb
      simp only [hb]
      split at h
      · cases h
      · rename_i hn
        simp only [Option.some.injEq, Prod.mk.injEq] at h; obtain ⟨rfl, rfl⟩ := h
        rw [if_neg hn]
    · rename_i hb
      simp only [hb]
      split at h
      · rename_i hn
        rw [if_pos hn]
        split at h
        · simp only [Option.some.injEq, Prod.mk.injEq] at h; obtain ⟨rfl, rfl⟩ := h; rfl
        · cases h
      · cases h
  · cases h

theorem fsome1_ref {m m' : FMem} {x : Option Value} {r : ARes} (h : fsome1 m x = some (r, m')) : some1 m.toL x = some (r, m'.toL) := by
  unfold fsome1 at h
  unfold some1
  split at h
  · simp only [Option.some.injEq, Prod.mk.injEq] at h; obtain ⟨rfl, rfl⟩ := h; rfl
  · cases h

theorem fskip1_ref {x : Option FMem} {y : Option AMem} {r : ARes} {m' : FMem} (hr : ∀ m2, x = some m2 → y = some m2.toL) (h : fskip1 x = some (r, m')) : skip1 y = some (r, m'.toL) := by
  unfold fskip1 at h
  split at h
  · rename_i m2
    simp only [Option.some.injEq, Prod.mk.injEq] at h; obtain ⟨rfl, rfl⟩ := h
    rw [hr m2 rfl]; rfl
  · cases h

theorem fbind1_some {x : Option Value} {k : Value → FOut} {r : ARes} {m' : FMem} (h : fbind1 x k = some (r, m')) : ∃ v, x = some v ∧ k v = some (r, m') := by
  cases x with
  | none => cases h
  | some v => exact ⟨v, rfl, h⟩

theorem fop_ref (a : FAct) (o : Oper) (m : FMem) : Ref (fop P a o m) (aop P a.toA o m.toL) := by
  intro r m' h
  unfold fop at h
  unfold aop
  cases hop : o.op <;> simp only [hop] at h ⊢ <;> try (cases h; done)
  case move x => rw [fev_eq] at h; exact fsome1_ref h
  case assign x => rw [fev_eq] at h; exact fsome1_ref h
  case pick c x y =>
    obtain ⟨v, h1, h2⟩ := fbind1_some h
    rw [fev_eq] at h1
    rw [h1]
    unfold fpick at h2
    split at h2
    · simp only [fev_eq] at h2; exact fsome1_ref h2
    · cases h2
  case alloc e =>
    unfold falloc at h
    split at h
    · rename_i z hz
      simp only [hz]
      split at h
      · rename_i b m2 hn
        simp only [fnew_ref hn]
        split at h
        · rename_i hc
          simp only [Option.some.injEq, Prod.mk.injEq] at h; obtain ⟨rfl, rfl⟩ := h
          rw [if_pos hc]
        · cases h
      · cases h
    · cases h
  case box e x =>
    obtain ⟨v, h1, h2⟩ := fbind1_some h
    rw [fev_eq] at h1
    rw [h1]
    unfold fbox at h2
    split at h2
    · rename_i b m2 hn
      simp only [fnew_ref hn]
      simp only [Option.some.injEq, Prod.mk.injEq] at h2; obtain ⟨rfl, rfl⟩ := h2; rfl
    · cases h2
  case build t ps =>
    unfold fbuild at h
    rw [fevPairs_eq] at h
    split at h
    · rename_i qs hq
      simp only [hq]
      exact fsome1_ref h
    · cases h
  case buildSlice t n ps =>
    unfold fbuildS at h
    rw [fevPairs_eq] at h
    split at h
    · rename_i qs hq
      simp only [hq]
      exact fbuildSlice_ref _ _ _ _ _ _ h
    · cases h
  case load t x =>
    obtain ⟨v, h1, h2⟩ := fbind1_some h
    rw [fev_eq] at h1
    rw [h1]
    rw [fload_eq] at h2
    exact fsome1_ref h2
  case store t x y =>
    obtain ⟨v, h1, h2⟩ := fbind1_some h
    obtain ⟨u, h3, h4⟩ := fbind1_some h2
    rw [fev_eq] at h1 h3
    rw [h1, h3]
    exact fskip1_ref (fun m2 h => fstore_ref h) h4
  case nilCheck x =>
    obtain ⟨v, h1, h2⟩ := fbind1_some h
    rw [fev_eq] at h1
    rw [h1]
    unfold fnil at h2
    split at h2
    · simp only [Option.some.injEq, Prod.mk.injEq] at h2; obtain ⟨rfl, rfl⟩ := h2; rfl
    · simp only [Option.some.injEq, Prod.mk.injEq] at h2; obtain ⟨rfl, rfl⟩ := h2; rfl
    · cases h2
  case binOp op t x y yt =>
    obtain ⟨v, h1, h2⟩ := fbind1_some h
    obtain ⟨u, h3, h4⟩ := fbind1_some h2
    rw [fev_eq] at h1 h3
    rw [h1, h3]
    cases hb : fbin P op t x y m v u with
    | none => rw [hb] at h4; cases h4
    | some w =>
      rw [hb] at h4
      simp only
      rw [fbin_ref m hb]
      exact fsome1_ref h4
  case unOp op t x =>
    obtain ⟨v, h1, h2⟩ := fbind1_some h
    rw [fev_eq] at h1
    rw [h1]
    exact fsome1_ref h2
  case convert s d x =>
    obtain ⟨v, h1, h2⟩ := fbind1_some h
    rw [fev_eq] at h1
    rw [h1]
    cases hb : fconv P s d v m with
    | none => rw [hb] at h2; cases h2
    | some w =>
      rw [hb] at h2
      simp only
      rw [fconv_ref m hb]
      exact fsome1_ref h2
  case makeInterface t x =>
    unfold fiface at h
    rw [fev_eq] at h
    split at h
    · cases h
    · rename_i d v hne h1 h2
      simp only [h1, h2]
      simp only [Option.some.injEq, Prod.mk.injEq] at h; obtain ⟨rfl, rfl⟩ := h; rfl
    · cases h
  case makeFunc fn first captured =>
    unfold ffunc at h
    rw [fevs_eq, fevs_eq] at h
    split at h
    · rename_i u v h1 h2
      simp only [h1, h2]
      simp only [Option.some.injEq, Prod.mk.injEq] at h; obtain ⟨rfl, rfl⟩ := h; rfl
    · cases h
  case makeMap t rr =>
    unfold fmakeMap at h
    split at h
    · obtain ⟨rfl, e⟩ := fpushed_ref h
      simp only [FMem.toL_length, e]
    · rename_i x
      rw [fev_eq] at h
      simp only
      split at h
      · rename_i h1 h2
        simp only [h1, h2]
        obtain ⟨rfl, e⟩ := fpushed_ref h
        simp only [FMem.toL_length, e]
      · cases h
  case makeSlice t l c =>
    obtain ⟨v, h1, h2⟩ := fbind1_some h
    obtain ⟨u, h3, h4⟩ := fbind1_some h2
    rw [fev_eq] at h1 h3
    rw [h1, h3]
    exact fmakeSlice_ref _ _ _ _ _ _ h4
  case slice t x lo hi mx =>
    unfold fslice at h
    simp only [fev_eq, fevO_eq] at h
    split at h
    · rename_i v l hh k h1 h2 h3 h4
      simp only [h1, h2, h3, h4]
      exact fsome1_ref h
    · cases h
  case fieldAddr s x f =>
    obtain ⟨v, h1, h2⟩ := fbind1_some h
    rw [fev_eq] at h1
    rw [h1]
    exact fsome1_ref h2
  case field t x f =>
    obtain ⟨v, h1, h2⟩ := fbind1_some h
    rw [fev_eq] at h1
    rw [h1]
    exact fsome1_ref h2
  case indexAddr t x i =>
    obtain ⟨v, h1, h2⟩ := fbind1_some h
    obtain ⟨u, h3, h4⟩ := fbind1_some h2
    rw [fev_eq] at h1 h3
    rw [h1, h3]
    exact fsome1_ref h4
  case index t x i =>
    obtain ⟨v, h1, h2⟩ := fbind1_some h
    obtain ⟨u, h3, h4⟩ := fbind1_some h2
    rw [fev_eq] at h1 h3
    rw [h1, h3]
    exact fsome1_ref h4
  case lookup t x k ok =>
    obtain ⟨v, h1, h2⟩ := fbind1_some h
    obtain ⟨u, h3, h4⟩ := fbind1_some h2
    rw [fev_eq] at h1 h3
    rw [h1, h3]
    rw [flookup_eq] at h4
    exact fsome1_ref h4
  case mapUpdate t x k v =>
    obtain ⟨x1, h1, h2⟩ := fbind1_some h
    obtain ⟨k1, h3, h4⟩ := fbind1_some h2
    obtain ⟨v1, h5, h6⟩ := fbind1_some h4
    rw [fev_eq] at h1 h3 h5
    rw [h1, h3, h5]
    exact fskip1_ref (fun m2 h => fmapUpdate_ref h) h6
  case range t x =>
    unfold frange at h
    rw [fev_eq] at h
    split at h
    · rename_i s h1 h2
      simp only [h1, h2]
      obtain ⟨rfl, e⟩ := fpushed_ref h
      simp only [FMem.toL_length, e]
    · cases h
  case next it s =>
    cases s with
    | false => cases h
    | true =>
      simp only at h
      obtain ⟨v, h1, h2⟩ := fbind1_some h
      rw [fev_eq] at h1
      simp only [h1]
      unfold fnext at h2
      split at h2
      · simp only [FMem.toL_get]
        split at h2
        · rename_i s pos ho
          simp only [ho]
          split at h2
          · rename_i hc
            simp only [Option.some.injEq, Prod.mk.injEq] at h2; obtain ⟨rfl, rfl⟩ := h2
            rw [if_pos hc, FMem.toL_put _ (FMem.get_lt ho)]
          · rename_i hc
            simp only [Option.some.injEq, Prod.mk.injEq] at h2; obtain ⟨rfl, rfl⟩ := h2
            rw [if_neg hc]
        · cases h2
      · cases h2
  case typeAssert x xt t ok =>
    obtain ⟨v, h1, h2⟩ := fbind1_some h
    rw [fev_eq] at h1
    rw [h1]
    exact fsome1_ref h2
  case extract x i =>
    obtain ⟨v, h1, h2⟩ := fbind1_some h
    rw [fev_eq] at h1
    rw [h1]
    unfold fextract at h2
    split at h2
    · exact fsome1_ref h2
    · cases h2
  case call c =>
    unfold fcallOp at h
    rw [fevs_eq] at h
    split at h
    · rename_i b args h1 h2
      simp only [h1, h2]
      exact fbuiltin_ref _ _ _ _ _ _ h
    · rename_i f args h1 h2
      simp only [h1, h2]
      rw [fev_eq] at h
      split at h
      · rename_i g first captured h3
        simp only [h3]
        exact fcallee_ref _ _ _ _ _ h
      · cases h
    · cases h
  case defer c =>
    unfold fdefer at h
    rw [fevs_eq] at h
    split at h
    · rename_i f args h1 h2
      simp only [h1, h2]
      rw [fev_eq] at h
      split at h
      · rename_i g first captured h3
        simp only [h3]
        simp only [Option.some.injEq, Prod.mk.injEq] at h; obtain ⟨rfl, rfl⟩ := h; rfl
      · cases h
    · cases h
  case panic x =>
    obtain ⟨v, h1, h2⟩ := fbind1_some h
    rw [fev_eq] at h1
    rw [h1]
    unfold fpanic at h2
    split at h2
    · simp only [Option.some.injEq, Prod.mk.injEq] at h2; obtain ⟨rfl, rfl⟩ := h2; rfl
    · cases h2

end
end Go.Abs
