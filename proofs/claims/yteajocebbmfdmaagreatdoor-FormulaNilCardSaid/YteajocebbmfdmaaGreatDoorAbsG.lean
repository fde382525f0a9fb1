/- The abstract machine, 7: operators, conversions, parts, places: what the operations do in the world. -/
import Derived.Test.YteajocebbmfdmaaGreatDoorAbsF
namespace Go.Abs
section
variable {P : Program} {ι : Iota} {m : AMem} {w : World}

theorem aint_sound {op : BinOp} {k : IntKind} {x y : Int} {r : Value} {t : TypeId} (h : aint op k x y = some r) (hs : op ≠ .shl) (hs' : op ≠ .shr) :
    (binOp op t (.int k x) (.int k y)).run P w = .ok r w ∧ VRel ι r r := by
  unfold aint at h
  cases op <;> simp only [acmp, abits] at h
  all_goals first
    | exact absurd rfl hs
    | exact absurd rfl hs'
    | (simp only [Option.some.injEq] at h; subst h; simp only [binOp, ne_eq, not_true_eq_false, if_false, Op.intArith, Op.intBits, Op.intCmp, Sem.run_pure, true_and]; first | exact .int _ _ | exact .bool _)
    | (split at h
       · cases h
       · rename_i hy
         simp only [Option.some.injEq] at h; subst h
         simp only [binOp, ne_eq, not_true_eq_false, if_false, Op.intDiv, hy, Sem.run_pure, true_and]
         exact .int _ _)

theorem ashift_sound {op : BinOp} {k k' : IntKind} {x y : Int} {r : Value} {t : TypeId} (hop : op = .shl ∨ op = .shr) (h : ashift op k x y = some r) :
    (binOp op t (.int k x) (.int k' y)).run P w = .ok r w ∧ VRel ι r r := by
  unfold ashift at h
  split at h
  · cases h
  · rename_i hy
    rcases hop with rfl | rfl
    all_goals
      simp only [Option.some.injEq] at h
      subst h
      refine ⟨?_, .int _ _⟩
      simp only [binOp, Op.shift, if_neg hy, Sem.run_pure]

theorem astr_sound {op : BinOp} {x y : ByteArray} {r : Value} {t : TypeId} (h : astr op x y = some r) :
    (binOp op t (.string x) (.string y)).run P w = .ok r w ∧ VRel ι r r := by
  unfold astr at h
  cases op <;> simp only at h
  case add =>
    split at h
    · cases h
    · rename_i hn
      simp only [Option.some.injEq] at h; subst h
      refine ⟨?_, .string _⟩
      simp only [binOp, Op.stringOp, if_neg hn, Sem.run_pure]
  all_goals first
    | (simp only [Option.some.injEq] at h; subst h
       refine ⟨?_, .bool _⟩
       simp only [binOp, Op.stringOp, Sem.run_pure]; done)
    | (cases h; done)

theorem run_eqGuard_other (op : BinOp) (t : TypeId) (x y : Operand) {a b : Value} (h1 : ∀ xs ys, ¬ (a = .agg xs ∧ b = .agg ys)) (h2 : ¬ (a = .nilIface ∧ b = .nilIface)) : (eqGuard op t x y a b).run P w = .ok () w := by
  unfold eqGuard
  cases op <;> simp only [Bool.not_true, Bool.false_eq_true, if_false, Bool.not_false, if_true, Sem.run_pure] <;> (try rfl)
  all_goals
    split
    · exact absurd ⟨rfl, rfl⟩ h2
    · exact absurd ⟨rfl, rfl⟩ (h1 _ _)
    · simp

theorem run_eqGuard_ii (op : BinOp) (t : TypeId) (x y : Operand) (k l : IntKind) (i j : Int) : (eqGuard op t x y (.int k i) (.int l j)).run P w = .ok () w := run_eqGuard_other op t x y (by simp) (by simp)
theorem run_eqGuard_ss (op : BinOp) (t : TypeId) (x y : Operand) (r s : ByteArray) : (eqGuard op t x y (.string r) (.string s)).run P w = .ok () w := run_eqGuard_other op t x y (by simp) (by simp)

theorem eqGuard_irrel {op : BinOp} (h1 : op ≠ .eql) (h2 : op ≠ .neq) (t : TypeId) (x y : Operand) (a b : Value) : (eqGuard op t x y a b).run P w = .ok () w := by
  unfold eqGuard
  cases op <;> first | exact absurd rfl h1 | exact absurd rfl h2 | simp

theorem VRel.not_agg {v v' : Value} (h : VRel ι v v') (hn : ∀ xs, v ≠ .agg xs) : ∀ xs, v' ≠ .agg xs := by
  intro xs e
  subst e
  cases h
  exact hn _ rfl

theorem MRel.live_row (h : MRel P ι m w) {i c sh cp : Nat} {k : RowKind} {e : TypeId} {cs : List Value} (hi : ι i = some (c, sh, cp)) (ho : m[i]? = some (.row k e cs)) (hk : k ≠ .ro) :
    sh = 0 ∧ ∃ cells, w.heap[c]? = some (.cells cells e (0, 0)) ∧ cs.length ≤ cells.size := by
  have := h.obj i c sh cp _ hi ho
  cases k with
  | ro => exact absurd rfl hk
  | var => obtain ⟨a, _, cells, hc, hl⟩ := this; exact ⟨a, cells, hc, by have := hl.1; simp at this; omega⟩
  | sl => obtain ⟨a, _, cells, hc, _, hl, _⟩ := this; exact ⟨a, cells, hc, hl⟩

theorem run_sameAddr {a b : Addr} {ca cb : Array Value} {ea eb : TypeId} (ha : w.heap[a.block]? = some (.cells ca ea (0, 0))) (hb : w.heap[b.block]? = some (.cells cb eb (0, 0))) :
    (sameAddr a b).run P w = .ok (if a.block = b.block then decide (a = b) else false) w := by
  have fa : ∀ o s, w.frozen? ⟨a.block, o, s⟩ = false := fun o s => by simp [World.frozen?, ha]
  have fb : ∀ o s, w.frozen? ⟨b.block, o, s⟩ = false := fun o s => by simp [World.frozen?, hb]
  have fa' : w.frozen? a = false := by simp [World.frozen?, ha]
  have fb' : w.frozen? b = false := by simp [World.frozen?, hb]
  have sa : w.shape? a.block = some (ea, ca.size) := by simp [World.shape?, ha]
  have sb : w.shape? b.block = some (eb, cb.size) := by simp [World.shape?, hb]
  unfold sameAddr
  by_cases e : a.block = b.block
  · simp only [e, beq_self_eq_true, if_true, Sem.run_pure]
    congr 1
  · have e' : (a.block == b.block) = false := by simpa using e
    simp only [e', Bool.false_eq_true, if_false, if_neg e, Sem.run_bind, run_frozen, fa', fb', Result.andThen_ok, noView, viewAt, run_shape, sa, sb, Option.isSome_some, if_true, Sem.run_pure, Option.isSome_none,
      mayBeOne, stringish, fa, fb, Bool.false_and, Bool.or_false, Bool.and_self]

def EqForm (t : TypeId) (x y : Value) : Prop := (binOp .eql t x y = (do pure (.bool (← Op.equal t x y)))) ∧ (binOp .neq t x y = (do pure (.bool (!(← Op.equal t x y)))))

theorem aeql_sound (h : MRel P ι m w) {t : TypeId} {x y x' y' : Value} {r : Bool} (hx : VRel ι x x') (hy : VRel ι y y') (he : aeql P t m x y = some r) :
    (Op.equal t x' y').run P w = .ok r w ∧ (∀ (op : BinOp) (a b : Operand), (eqGuard op t a b x' y').run P w = .ok () w) ∧ EqForm t x' y' := by
  unfold aeql at he
  unfold Op.equal Op.maxDepth
  rw [show (10000 : Nat) = 9999 + 1 from rfl] at *
  generalize hd : 9999 = d at *
  split at he
  · rename_i a b hu
    cases hx; cases hy; simp at he; subst he
    exact ⟨by simp [Op.equalIn, run_underlying' hu], fun op a b => run_eqGuard_other op t a b (by simp) (by simp), rfl, rfl⟩
  · rename_i e b hu
    cases hx
    simp at he; subst he
    cases hy with
    | pnil => exact ⟨by simp [Op.equalIn, run_underlying' hu], fun op a b => run_eqGuard_other op t a b (by simp) (by simp), rfl, rfl⟩
    | ptr hb => exact ⟨by simp [Op.equalIn, run_underlying' hu], fun op a b => run_eqGuard_other op t a b (by simp) (by simp), rfl, rfl⟩
  · rename_i e a hu
    simp at he; subst he
    cases hy
    cases hx with
    | ptr hb => exact ⟨by simp [Op.equalIn, run_underlying' hu], fun op a b => run_eqGuard_other op t a b (by simp) (by simp), rfl, rfl⟩
  · rename_i e a i b j hu
    obtain ⟨_, c1, sh1, cp1, h1, rfl⟩ := hx.ptr_inv
    obtain ⟨_, c2, sh2, cp2, h2, rfl⟩ := hy.ptr_inv
    split at he
    · rename_i n k e1 cs1 l e2 cs2 hn hm1 hm2
      split at he
      · cases he
      · rename_i hcond
        have hn0 : n ≠ 0 := fun q => hcond (.inl q)
        have hk : k ≠ .ro := fun q => hcond (.inr (.inl q))
        have hl : l ≠ .ro := fun q => hcond (.inr (.inr q))
        simp at he; subst he
        obtain ⟨rfl, cells1, hc1, _⟩ := h.live_row h1 hm1 hk
        obtain ⟨rfl, cells2, hc2, _⟩ := h.live_row h2 hm2 hl
        refine ⟨?_, fun op a b => run_eqGuard_other op t a b (by simp) (by simp), rfl, rfl⟩
        simp only [Op.equalIn, Sem.run_bind, run_underlying' hu, Result.andThen_ok, run_sizeOf' hn, ne_eq, hn0, not_false_eq_true, if_true]
        rw [run_sameAddr (a := ⟨c1, 0 + i, none⟩) (b := ⟨c2, 0 + j, none⟩) hc1 hc2]
        congr 1
        by_cases hab : a = b
        · subst hab
          rw [h1] at h2; simp at h2; obtain ⟨rfl, _⟩ := h2
          simp
          by_cases hij : i = j <;> simp [hij]
        · have hne : c1 ≠ c2 := by
            intro q; subst q
            exact hab (h.inj a b c1 0 cp1 0 cp2 _ _ h1 h2 hm1 hm2 (by cases k <;> simp_all [AObj.own]) rfl)
          simp [hne, hab]
    · cases he
  · rename_i e b n c hu
    simp at he; subst he
    cases hx
    cases hy <;> exact ⟨by simp [Op.equalIn, run_underlying' hu], fun op a b => run_eqGuard_other op t a b (by simp) (by simp), rfl, rfl⟩
  · rename_i e a n c n' c' hu
    simp at he; subst he
    cases hy
    cases hx <;> exact ⟨by simp [Op.equalIn, run_underlying' hu], fun op a b => run_eqGuard_other op t a b (by simp) (by simp), rfl, rfl⟩
  · rename_i kk e b hu
    simp at he; subst he
    cases hx
    cases hy <;> exact ⟨by simp [Op.equalIn, run_underlying' hu], fun op a b => run_eqGuard_other op t a b (by simp) (by simp), rfl, rfl⟩
  · rename_i kk e a hu
    simp at he; subst he
    cases hy
    cases hx <;> exact ⟨by simp [Op.equalIn, run_underlying' hu], fun op a b => run_eqGuard_other op t a b (by simp) (by simp), rfl, rfl⟩
  · rename_i p q r hu
    simp at he; subst he
    cases hx; cases hy
    exact ⟨by simp [Op.equalIn, run_underlying' hu], fun op a b => run_eqGuard_other op t a b (by simp) (by simp), rfl, rfl⟩
  · rename_i p q r fn f c hu
    simp at he; subst he
    cases hx; cases hy
    exact ⟨by simp [Op.equalIn, run_underlying' hu], fun op a b => run_eqGuard_other op t a b (by simp) (by simp), rfl, rfl⟩
  · rename_i p q r fn f c hu
    simp at he; subst he
    cases hx; cases hy
    exact ⟨by simp [Op.equalIn, run_underlying' hu], fun op a b => run_eqGuard_other op t a b (by simp) (by simp), rfl, rfl⟩
  · rename_i ms u v hu
    simp at he; subst he
    cases hx; cases hy
    exact ⟨by simp [Op.equalIn, run_underlying' hu], fun op a b => run_eqGuard_other op t a b (by simp) (by simp), rfl, rfl⟩
  · rename_i ms u v hu
    simp at he; subst he
    cases hx; cases hy
    exact ⟨by simp [Op.equalIn, run_underlying' hu], fun op a b => run_eqGuard_other op t a b (by simp) (by simp), rfl, rfl⟩
  · rename_i xs ys
    split at he
    · cases he
    · rename_i hg
      have hr := eqAt_sound (w := w) (d + 1) t _ _ x' y' r he hx hy
      obtain ⟨xs', rfl, _, _⟩ := hx.agg_inv
      obtain ⟨ys', rfl, _, _⟩ := hy.agg_inv
      exact ⟨hr, fun op a b => run_eqGuard_agg w op t a b _ _ (by simpa using hg), rfl, rfl⟩
  · cases he

theorem nilIface_same {t : TypeId} {ms : Array (String × TypeId)} (hu : P.underlying t = some (.interface ms)) : (binOp .eql t .nilIface .nilIface).run P w = .ok (.bool true) w := by
  have : binOp .eql t .nilIface .nilIface = (do pure (.bool (← Op.equal t .nilIface .nilIface))) := rfl
  rw [this]
  unfold Op.equal Op.maxDepth
  rw [show (10000 : Nat) = 9999 + 1 from rfl]
  generalize 9999 = d
  simp [Op.equalIn, run_underlying' hu]

theorem nilIface_other {t : TypeId} {ms : Array (String × TypeId)} (hu : P.underlying t = some (.interface ms)) : (binOp .neq t .nilIface .nilIface).run P w = .ok (.bool false) w := by
  have : binOp .neq t .nilIface .nilIface = (do pure (.bool (!(← Op.equal t .nilIface .nilIface)))) := rfl
  rw [this]
  unfold Op.equal Op.maxDepth
  rw [show (10000 : Nat) = 9999 + 1 from rfl]
  generalize 9999 = d
  simp [Op.equalIn, run_underlying' hu]

theorem eqGuard_const {op : BinOp} {t : TypeId} {x y : Operand} (hc : (isC x || isC y) = true) : (eqGuard op t x y .nilIface .nilIface).run P w = .ok () w := by
  unfold eqGuard
  cases hb : (!(op matches .eql | .neq)) with
  | true => simp
  | false =>
    simp only [Bool.false_eq_true, if_false]
    cases x <;> cases y <;> first | (simp [isC] at hc; done) | simp

theorem abin_sound (h : MRel P ι m w) {op : BinOp} {t : TypeId} {x y : Operand} {a b a' b' r : Value} (ha : VRel ι a a') (hb : VRel ι b b') (he : abin P op t x y m a b = some r) :
    ∃ r', (do eqGuard op t x y a' b'; binOp op t a' b' : Sem Value).run P w = .ok r' w ∧ VRel ι r r' := by
  unfold abin at he
  split at he
  · rename_i k i k' j
    cases ha; cases hb
    obtain ⟨h1, h2⟩ := ashift_sound (P := P) (w := w) (ι := ι) (t := t) (k' := k') (.inl rfl) he
    exact ⟨r, by simp only [Sem.run_bind, run_eqGuard_ii, Result.andThen_ok]; exact h1, h2⟩
  · rename_i k i k' j
    cases ha; cases hb
    obtain ⟨h1, h2⟩ := ashift_sound (P := P) (w := w) (ι := ι) (t := t) (k' := k') (.inr rfl) he
    exact ⟨r, by simp only [Sem.run_bind, run_eqGuard_ii, Result.andThen_ok]; exact h1, h2⟩
  · rename_i k i l j hn1 hn2
    cases ha; cases hb
    split at he
    · rename_i e; subst e
      obtain ⟨h1, h2⟩ := aint_sound (P := P) (w := w) (ι := ι) (t := t) he (fun q => hn1 q) (fun q => hn2 q)
      exact ⟨r, by simp only [Sem.run_bind, run_eqGuard_ii, Result.andThen_ok]; exact h1, h2⟩
    · cases he
  · rename_i s q _ _
    cases ha; cases hb
    obtain ⟨h1, h2⟩ := astr_sound (P := P) (w := w) (ι := ι) (t := t) he
    exact ⟨r, by simp only [Sem.run_bind, run_eqGuard_ss, Result.andThen_ok]; exact h1, h2⟩
  · cases ha; cases hb
    split at he
    · rename_i ms hu
      by_cases hc : (isC x || isC y) = true
      · rw [if_pos hc] at he
        simp at he; subst he
        refine ⟨.bool true, ?_, .bool _⟩
        simp only [Sem.run_bind, eqGuard_const hc, Result.andThen_ok]
        exact nilIface_same (P := P) (w := w) hu
      · rw [if_neg hc] at he; cases he
    · cases he
  · cases ha; cases hb
    split at he
    · rename_i ms hu
      by_cases hc : (isC x || isC y) = true
      · rw [if_pos hc] at he
        simp at he; subst he
        refine ⟨.bool false, ?_, .bool _⟩
        simp only [Sem.run_bind, eqGuard_const hc, Result.andThen_ok]
        exact nilIface_other (P := P) (w := w) hu
      · rw [if_neg hc] at he; cases he
    · cases he
  · rename_i hn1 hn2 hn3
    split at he
    · rename_i q hq
      simp at he; subst he
      obtain ⟨h1, h2, h3⟩ := aeql_sound h ha hb hq
      refine ⟨.bool q, ?_, .bool _⟩
      simp only [Sem.run_bind, h2, Result.andThen_ok]
      rw [h3.1]
      simp [h1]
    · cases he
  · rename_i hn1 hn2 hn3
    split at he
    · rename_i q hq
      simp at he; subst he
      obtain ⟨h1, h2, h3⟩ := aeql_sound h ha hb hq
      refine ⟨.bool !q, ?_, .bool _⟩
      simp only [Sem.run_bind, h2, Result.andThen_ok]
      rw [h3.2]
      simp [h1]
    · cases he
  · cases he

theorem aun_sound {op : UnOp} {x x' r : Value} (hx : VRel ι x x') (h : aun op x = some r) : (Op.unary op x').run P w = .ok r w ∧ VRel ι r r := by
  unfold aun at h
  split at h
  · cases hx; simp at h; subst h
    exact ⟨by simp [Op.unary, Op.intArith], .int _ _⟩
  · rename_i k n
    cases hx
    simp only [abits, Option.some.injEq] at h; subst h
    refine ⟨?_, .int _ _⟩
    simp only [Op.unary, Op.intBits, Sem.run_pure]
  · cases hx; simp at h; subst h
    exact ⟨by simp [Op.unary], .bool _⟩
  · cases h

end
end Go.Abs
