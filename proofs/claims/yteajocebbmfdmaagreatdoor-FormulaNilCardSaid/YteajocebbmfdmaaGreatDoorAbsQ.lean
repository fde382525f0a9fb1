/- The abstract machine, 17: what quiet and making operations leave; the canonical run of a stage. -/
import Derived.Test.YteajocebbmfdmaaGreatDoorAbsP
namespace Go.Abs
section
variable {P : Program}

theorem some1_val {m m' : AMem} {o : Option Value} {v : Value} (h : some1 m o = some (.val v, m')) : o = some v ∧ m' = m := by
  unfold some1 at h
  split at h
  · simp only [Option.some.injEq, Prod.mk.injEq, ARes.val.injEq] at h; obtain ⟨rfl, rfl⟩ := h; exact ⟨rfl, rfl⟩
  · cases h

theorem some1_mem {m m' : AMem} {o : Option Value} {r : ARes} (h : some1 m o = some (r, m')) : m' = m := by
  unfold some1 at h
  split at h
  · simp only [Option.some.injEq, Prod.mk.injEq] at h; exact h.2.symm
  · cases h

/-- A quiet operation leaves memory as it is. -/
theorem aop_quiet {a : Act} {o : Oper} {m m' : AMem} {r : ARes} (hk : okind o.op = 0) (he : aop P a o m = some (r, m')) : m' = m := by
  unfold aop at he
  cases hop : o.op <;> simp only [hop, okind] at hk he <;> first
    | (cases hk; done)
    | exact some1_mem he
    | skip
  case call c =>
    obtain ⟨callee, args, ats⟩ := c
    cases callee with
    | value f => simp at hk
    | invoke r n => simp at hk
    | builtin b =>
      generalize aevs P a args.toList = xs at he
      cases xs with
      | none => cases he
      | some xs =>
        cases b <;> simp at hk <;> simp only at he <;> unfold abuiltin at he <;> split at he <;> (repeat' split at he) <;> simp_all
  all_goals
    (repeat' split at he) <;> first
      | exact some1_mem he
      | (cases he; done)
      | (simp only [Option.some.injEq, Prod.mk.injEq] at he; exact he.2.symm)

/-- A quiet operation that does not look into memory answers alike in every memory. -/
theorem aop_still {a : Act} {o : Oper} {m m' : AMem} {v : Value} (hk : okind o.op = 0) (hn : needs o.op = false) (he : aop P a o m = some (.val v, m')) (m2 : AMem) : aop P a o m2 = some (.val v, m2) := by
  have s1 : ∀ {x : Option Value}, some1 m x = some (.val v, m') → some1 m2 x = some (.val v, m2) := by
    intro x h
    rw [(some1_val h).1]; rfl
  unfold aop at he ⊢
  cases hop : o.op <;> simp only [hop, okind, needs] at hk hn he ⊢ <;> first
    | (cases hk; done)
    | (cases hn; done)
    | exact s1 he
    | skip
  all_goals
    (repeat' split at he) <;> first
      | (cases he; done)
      | exact s1 he
      | (rename_i hh; rw [if_pos hh]; exact s1 he)
      | (rename_i hh; rw [if_neg hh]; exact s1 he)
      | (simp only [Option.some.injEq, Prod.mk.injEq, ARes.val.injEq] at he; obtain ⟨rfl, _⟩ := he; rfl)

theorem anew_fresh {k : RowKind} {e : TypeId} {cs : List Value} {m m' : AMem} {b : Nat} (h : anew k e cs m = some (b, m')) : ∃ O, m' = m ++ [O] := by
  unfold anew at h
  split at h
  · simp only [Option.some.injEq, Prod.mk.injEq] at h; exact ⟨_, h.2.symm⟩
  · cases h

theorem abuildSlice_fresh {t : TypeId} {len : Nat} {ps : List (Nat × Value)} {m m' : AMem} {r : ARes} (h : abuildSlice P t len ps m = some (r, m')) : ∃ O, m' = m ++ [O] := by
  unfold abuildSlice at h
  repeat' split at h
  all_goals first
    | (cases h; done)
    | (simp only [Option.some.injEq, Prod.mk.injEq] at h; obtain ⟨_, rfl⟩ := h; exact anew_fresh (by assumption))

theorem amakeSlice_fresh {t : TypeId} {l c : Value} {m m' : AMem} {r : ARes} (h : amakeSlice P t l c m = some (r, m')) : ∃ O, m' = m ++ [O] := by
  unfold amakeSlice at h
  repeat' split at h
  all_goals first
    | (cases h; done)
    | (simp only [Option.some.injEq, Prod.mk.injEq] at h; obtain ⟨_, rfl⟩ := h; exact anew_fresh (by assumption))

/-- A making operation adds one object. -/
theorem aop_fresh {a : Act} {o : Oper} {m m' : AMem} {r : ARes} (hk : okind o.op = 1) (he : aop P a o m = some (r, m')) : ∃ O, m' = m ++ [O] := by
  unfold aop at he
  cases hop : o.op <;> simp only [hop, okind] at hk he <;> first
    | (cases hk; done)
    | skip
  case call c =>
    obtain ⟨callee, args, ats⟩ := c
    cases callee with
    | value f => simp at hk
    | invoke r n => simp at hk
    | builtin b => cases b <;> simp at hk
  all_goals
    (repeat' split at he) <;> first
      | (cases he; done)
      | exact abuildSlice_fresh he
      | exact amakeSlice_fresh he
      | (simp only [Option.some.injEq, Prod.mk.injEq] at he; obtain ⟨_, rfl⟩ := he; first | exact ⟨_, rfl⟩ | exact anew_fresh (by assumption))

/-! ### sameV is equality -/

mutual
theorem sameV_eq : ∀ {x y : Value}, sameV x y = true → x = y
  | x, y, h => by
    cases x <;> cases y <;> simp only [sameV, Bool.and_eq_true, decide_eq_true_eq, beq_iff_eq, Bool.false_eq_true] at h <;> first
      | rfl
      | (cases h; done)
      | (subst h; rfl)
      | (obtain ⟨h1, h2⟩ := h; subst h1; subst h2; rfl)
      | (obtain ⟨⟨h1, h2⟩, h3⟩ := h; subst h1; subst h2; subst h3; rfl)
      | (obtain ⟨⟨h1, h2⟩, h3⟩ := h; rw [h1, sameA_eq h2, sameA_eq h3])
      | (obtain ⟨h1, h2⟩ := h; rw [h1, sameV_eq h2])
      | rw [sameA_eq h]
theorem sameA_eq : ∀ {x y : Array Value}, sameA x y = true → x = y
  | ⟨xs⟩, ⟨ys⟩, h => by
    simp only [sameA] at h
    rw [sameL_eq h]
theorem sameL_eq : ∀ {x y : List Value}, sameL x y = true → x = y
  | [], [], _ => rfl
  | [], _ :: _, h => by simp [sameL] at h
  | _ :: _, [], h => by simp [sameL] at h
  | x :: xs, y :: ys, h => by
    simp only [sameL, Bool.and_eq_true] at h
    rw [sameV_eq h.1, sameL_eq h.2]
end

theorem sameObj_eq {x y : AObj} (h : sameObj x y = true) : x = y := by
  unfold sameObj at h
  split at h
  · simp only [Bool.and_eq_true, decide_eq_true_eq, beq_iff_eq] at h
    obtain ⟨⟨h1, h2⟩, h3⟩ := h
    rw [h1, h2, sameL_eq h3]
  · simp only [beq_iff_eq] at h; rw [h]
  · cases h

end
end Go.Abs
