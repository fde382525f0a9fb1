/- The abstract machine, 21: code and calls. -/
import Derived.Test.YteajocebbmfdmaaGreatDoorAbsT
import Derived.Recover
namespace Go.Abs
section
variable {P : Program}

theorem acode_sound (hz : ZeroOk P) (hxt : ExternOk P) (hm : P.follows .mixedOrders = true) {L : Nat} {call : CallF} (hc : CallOk P call) : ∀ (c : Code) (a a1 : Act) (m m1 : AMem) (x : AExit), acode P L call c a m = some (x, a1, m1) →
    ∀ (ι : Iota) (w : World) (a' : Act), MRel P ι m w → ARel ι a a' → c.wp P (ExitPost P ι m w x a1 m1) a' w := by
  intro c
  induction c with
  | skip =>
    intro a a1 m m1 x he ι w a' h ha
    simp only [acode, Option.some.injEq, Prod.mk.injEq] at he; obtain ⟨rfl, rfl, rfl⟩ := he
    exact wp_skip ⟨ι, h, Step.refl _ _ _, rfl, ha⟩
  | region id ops draw =>
    intro a a1 m m1 x he ι w a' h ha
    exact aregion_sound hz hxt hm hc he h ha
  | seq y z ih1 ih2 =>
    intro a a1 m m1 x he ι w a' h ha
    unfold acode at he
    refine wp_seq ?_
    split at he
    · rename_i a2 m2 hs
      refine wp_mono (ih1 _ _ _ _ _ hs ι w a' h ha) ?_
      rintro e a3 w3 ⟨ι', g1, g2, g3, g4⟩
      subst g3
      exact wp_mono (ih2 _ _ _ _ _ he ι' w3 a3 g1 g4) fun e a4 w4 hp => hp.trans g2
    · rename_i hne
      refine wp_mono (ih1 _ _ _ _ _ he ι w a' h ha) ?_
      rintro e a3 w3 hp
      have hx : x ≠ .normal := fun q => by subst q; exact hne _ _ he
      obtain ⟨_, _, _, g3, _⟩ := id hp
      cases x with
      | normal => exact absurd rfl hx
      | exit id => rw [show e = .exit id from g3] at hp ⊢; exact hp
      | ret => rw [show e = .ret from g3] at hp ⊢; exact hp
      | panic v => obtain ⟨v', rfl, _⟩ := g3; exact hp
  | cond c y z ih1 ih2 =>
    intro a a1 m m1 x he ι w a' h ha
    unfold acode at he
    split at he
    · rename_i hv
      have := aev_sound h.glob ha hv
      refine wp_cond_true ?_ (ih1 _ _ _ _ _ he ι w a' h ha)
      generalize a'.eval c = cv at this
      cases this; rfl
    · rename_i hv
      have := aev_sound h.glob ha hv
      refine wp_cond_false ?_ (ih2 _ _ _ _ _ he ι w a' h ha)
      generalize a'.eval c = cv at this
      cases this; rfl
    · cases he
  | block id b ih =>
    intro a a1 m m1 x he ι w a' h ha
    unfold acode at he
    refine wp_block ?_
    split at he
    · rename_i i a2 m2 hs
      refine wp_mono (ih _ _ _ _ _ hs ι w a' h ha) ?_
      rintro e a3 w3 ⟨ι', g1, g2, g3, g4⟩
      rw [show e = .exit i from g3]
      simp only [Exit.inBlock]
      split at he
      · rename_i hid
        simp only [Option.some.injEq, Prod.mk.injEq] at he; obtain ⟨rfl, rfl, rfl⟩ := he
        rw [if_pos hid]
        exact ⟨ι', g1, g2, rfl, g4⟩
      · rename_i hid
        simp only [Option.some.injEq, Prod.mk.injEq] at he; obtain ⟨rfl, rfl, rfl⟩ := he
        rw [if_neg hid]
        exact ⟨ι', g1, g2, rfl, g4⟩
    · rename_i hne
      refine wp_mono (ih _ _ _ _ _ he ι w a' h ha) ?_
      rintro e a3 w3 hp
      obtain ⟨_, _, _, g3, _⟩ := (show ExitPost P ι m w x a1 m1 e a3 w3 from hp)
      cases x with
      | normal => rw [show e = .normal from g3] at hp ⊢; exact hp
      | exit id => exact absurd he (hne _ _ _)
      | ret => rw [show e = .ret from g3] at hp ⊢; exact hp
      | panic v => obtain ⟨v', rfl, _⟩ := g3; exact hp
  | loop b ih =>
    intro a a1 m m1 x he ι w a' h ha
    unfold acode at he
    intro fr k cs
    obtain ⟨e, a2, w2, p1, _, p3⟩ := loopN_sound (c := b) (body := acode P L call b) ih L a a1 m m1 x he ι w a' h ha fr k cs
    exact ⟨e, a2, w2, p1, .of_steps (.one step_loop) p3⟩
  | exit id =>
    intro a a1 m m1 x he ι w a' h ha
    simp only [acode, Option.some.injEq, Prod.mk.injEq] at he; obtain ⟨rfl, rfl, rfl⟩ := he
    exact wp_exit ⟨ι, h, Step.refl _ _ _, rfl, ha⟩
  | ret =>
    intro a a1 m m1 x he ι w a' h ha
    simp only [acode, Option.some.injEq, Prod.mk.injEq] at he; obtain ⟨rfl, rfl, rfl⟩ := he
    exact wp_ret ⟨ι, h, Step.refl _ _ _, rfl, ha⟩
  | _ => intro a a1 m m1 x he; simp [acode] at he

/-! ### Results -/

theorem aresult_sound {ι : Iota} {m : AMem} {w : World} (h : MRel P ι m w) {a a' : Act} (ha : ARel ι a a') {r : ResultVar} {v : Value} (he : aresult P a.tmps m r = some v) :
    ∃ v', ((match r with | .tmp t => pure (a'.tmps.getD t undef) | .cell b t => do loadVar t (← asAddr (a'.tmps.getD b undef)) : Sem Value)).run P w = .ok v' w ∧ VRel ι v v' := by
  cases r with
  | tmp t =>
    simp only [aresult] at he
    have h1 : ∃ u, a.tmps[t]? = some u ∧ unjunk (some u) = some v := by
      cases hu : a.tmps[t]? with
      | none => rw [hu] at he; cases he
      | some u => rw [hu] at he; exact ⟨u, rfl, he⟩
    obtain ⟨u, hu, hj⟩ := h1
    obtain ⟨v', g1, g2⟩ := ha.get hu
    have hne : ∀ x, u ≠ .chan x := by
      rintro x rfl
      simp [unjunk] at hj
    have huv : u = v := by
      unfold unjunk at hj
      split at hj
      · cases hj
      · simpa using hj
    subst huv
    refine ⟨v', ?_, g2.val hne⟩
    simp [Array.getD_eq_getD_getElem?, g1]
  | cell b t =>
    simp only [aresult] at he
    split at he
    · rename_i u hu
      obtain ⟨v', g1, g2⟩ := ha.get hu
      have hne : ∀ x, u ≠ .chan x := by
        rintro x rfl
        simp [aload] at he
      have hvr := g2.val hne
      obtain ⟨u', g3, g4⟩ := aload_sound h hvr he
      refine ⟨u', ?_, g4⟩
      have hd : a'.tmps.getD b undef = v' := by simp [Array.getD_eq_getD_getElem?, g1]
      simp only [hd]
      unfold aload at he
      split at he
      · rename_i bb off
        obtain ⟨_, c, sh, cp, hi, rfl⟩ := hvr.ptr_inv
        simpa [Instr.loadAt, Instr.sureAddr, asAddr] using g3
      · cases he
    · cases he

theorem aresults_sound {ι : Iota} {m : AMem} {w : World} (h : MRel P ι m w) {a a' : Act} (ha : ARel ι a a') : ∀ {rs : List ResultVar} {vs : List Value}, aresults P a.tmps m rs = some vs →
    ∃ vs', (rs.mapM (fun r => (match r with | .tmp t => pure (a'.tmps.getD t undef) | .cell b t => do loadVar t (← asAddr (a'.tmps.getD b undef)) : Sem Value))).run P w = .ok vs' w ∧ LRel ι vs vs'
  | [], vs, he => by
    simp only [aresults, Option.some.injEq] at he; subst he
    exact ⟨[], by simp, LRel.nil ι⟩
  | r :: rs, vs, he => by
    unfold aresults at he
    split at he
    · rename_i v hv
      split at he
      · rename_i us hus
        simp only [Option.some.injEq] at he; subst he
        obtain ⟨v', g1, g2⟩ := aresult_sound h ha hv
        obtain ⟨vs', g3, g4⟩ := aresults_sound h ha hus
        refine ⟨v' :: vs', ?_, .cons g2 g4⟩
        rw [List.mapM_cons, Sem.run_bind, g1]
        simp only [Result.andThen_ok, Sem.run_bind]
        rw [g3]
        simp
      · cases he
    · cases he

theorem results_sound {ι : Iota} {m : AMem} {w : World} (h : MRel P ι m w) {a a' : Act} (ha : ARel ι a a') {fn : Func} {vs : List Value} (he : aresults P a.tmps m fn.results.toList = some vs) :
    ∃ v', (results fn a'.tmps).run P w = .ok v' w ∧ VRel ι (asOne vs) v' := by
  obtain ⟨vs', g1, g2⟩ := aresults_sound h ha he
  unfold results
  rw [Array.mapM_eq_mapM_toList]
  rw [map_eq_pure_bind]
  refine ⟨if h : vs'.toArray.size = 1 then vs'.toArray[0] else .tuple vs'.toArray, ?_, ?_⟩
  · simp only [Sem.run_bind]
    erw [g1]
    simp
  · cases vs with
    | nil => rw [g2.unnil]; exact .tuple rfl (fun i v v' a => by simp at a)
    | cons v vs =>
      obtain ⟨v', r', rfl, h1, h2⟩ := g2.uncons
      cases vs with
      | nil => rw [h2.unnil]; simpa [asOne] using h1
      | cons u us =>
        obtain ⟨u', r2, rfl, h3, h4⟩ := h2.uncons
        simp only [asOne]
        rw [dif_neg (by simp)]
        exact .tuple g2.1 g2.2

/-! ### Deferred calls -/

def URel (ι : Iota) : AMode → FrameMode → Prop
  | .ret, u => u = .returning
  | .pan v r, u => ∃ v', u = .panicking [{ v := v', recovered := r }] ∧ VRel ι v v'

theorem URel.mono {ι κ : Iota} (hl : Le ι κ) {u : AMode} {u' : FrameMode} (h : URel ι u u') : URel κ u u' := by
  cases u with
  | ret => exact h
  | pan v r => obtain ⟨v', e, hv⟩ := h; exact ⟨v', e, hv.mono hl⟩

/-- What a deferred function's code leaves. -/
def ExitPostS (P : Program) (ι : Iota) (m : AMem) (w : World) (x : AExit) (a1 : Act) (u1 : AMode) (m1 : AMem) (c₀ : Frame) (cs : List Frame) : Exit → Act → List Frame → World → Prop :=
  fun e a' cs' w' => ∃ ι' u', MRel P ι' m1 w' ∧ Step m ι w m1 ι' w' ∧ XRel ι' x e ∧ ARel ι' a1 a' ∧ cs' = { c₀ with mode := u' } :: cs ∧ URel ι' u1 u'

theorem ExitPostS.trans {ι ι1 : Iota} {m m1 m2 : AMem} {w w1 : World} {x : AExit} {a2 : Act} {u2 : AMode} {c₀ : Frame} {cs : List Frame} (hs : Step m ι w m1 ι1 w1) {e : Exit} {a' : Act} {cs' : List Frame} {w2 : World} (h : ExitPostS P ι1 m1 w1 x a2 u2 m2 c₀ cs e a' cs' w2) :
    ExitPostS P ι m w x a2 u2 m2 c₀ cs e a' cs' w2 :=
  let ⟨ι', u', h1, h2, h3, h4, h5, h6⟩ := h; ⟨ι', u', h1, hs.trans h2, h3, h4, h5, h6⟩

theorem recoverD_rel {ι : Iota} {u : AMode} {u' : FrameMode} (h : URel ι u u') (c₀ : Frame) (cs : List Frame) :
    (∃ v v', u = .pan v false ∧ VRel ι v v' ∧ recoverD ({ c₀ with mode := u' } :: cs) = some (v', { c₀ with mode := .panicking [{ v := v', recovered := true }] } :: cs)) ∨
    ((∀ v, u ≠ .pan v false) ∧ recoverD ({ c₀ with mode := u' } :: cs) = none) := by
  cases u with
  | ret => rw [show u' = .returning from h]; exact .inr ⟨fun v e => (by cases e), by simp [recoverD]⟩
  | pan v r =>
    obtain ⟨v', rfl, hv⟩ := h
    cases r with
    | false => exact .inl ⟨v, v', rfl, hv, by simp [recoverD]⟩
    | true => exact .inr ⟨fun v e => (by cases e), by simp [recoverD]⟩

theorem alistS_sound (hz : ZeroOk P) (hxt : ExternOk P) {call : CallF} (hc : CallOk P call) {ops : Array Oper} {c₀ : Frame} {cs : List Frame} : ∀ (l : List Oper) (k : Nat), (∀ j, l[j]? = ops[k + j]?) → ∀ (a a1 : Act) (u u1 : AMode) (m m1 : AMem) (x : AExit), alistS P call ops l a u m = some (x, a1, u1, m1) →
    ∀ (ι : Iota) (w : World) (a' : Act) (u' : FrameMode) (Q : Exit → Act → List Frame → World → Prop), MRel P ι m w → ARel ι a a' → URel ι u u' → (∀ e a'' cs'' w'', ExitPostS P ι m w x a1 u1 m1 c₀ cs e a'' cs'' w'' → Q e a'' cs'' w'') →
      wpOpsS P ops Q (List.range' k l.length) a' ({ c₀ with mode := u' } :: cs) w
  | [], k, hk, a, a1, u, u1, m, m1, x, he, ι, w, a', u', Q, h, ha, hu, hQ => by
    simp only [alistS, Option.some.injEq, Prod.mk.injEq] at he; obtain ⟨rfl, rfl, rfl, rfl⟩ := he
    exact hQ _ _ _ _ ⟨ι, u', h, Step.refl _ _ _, rfl, ha, rfl, hu⟩
  | o :: rest, k, hk, a, a1, u, u1, m, m1, x, he, ι, w, a', u', Q, h, ha, hu, hQ => by
    have ho : ops[k]? = some o := by have := hk 0; simpa using this.symm
    have hk' : ∀ j, rest[j]? = ops[k + 1 + j]? := fun j => by have := hk (j + 1); rw [show k + 1 + j = k + (j + 1) from by omega]; simpa using this
    have hundef : ∀ ι, SRel ι undef undef := fun ι => .inr (.tuple rfl (fun i v v' a => by simp at a))
    simp only [List.length_cons, List.range'_succ, wpOpsS, ho]
    unfold alistS at he
    split at he
    · rename_i args ats hop
      split at he
      · rename_i hargs
        have hrec : aop P a o m = some (.recover, m) := by
          unfold aop
          rw [hop]
          have : args.toList = [] := by simpa using hargs
          simp only [this, aevs, abuiltin]
        split at he
        · rename_i hw
          have := awanted_sound ha hw
          rw [if_neg (by simp [this])]
          exact alistS_sound hz hxt hc rest (k + 1) hk' _ _ _ _ _ _ _ he ι w _ u' Q h (ha.put _ (hundef ι)) hu hQ
        · rename_i hw
          have := awanted_sound ha hw
          rw [if_pos this]
          obtain ⟨ι', w', g1, g2, g3⟩ := aop_sound hz hxt h ha hrec
          rw [show (execOp a'.eval o).run P w = .ok .recover w' from g3]
          simp only
          rcases recoverD_rel (hu.mono g2.le) c₀ cs with ⟨v, v', rfl, hv, hr⟩ | ⟨hne, hr⟩
          · rw [hr]
            simp only at he ⊢
            exact alistS_sound hz hxt hc rest (k + 1) hk' _ _ _ _ _ _ _ he ι' w' _ _ Q g1 ((ha.mono g2.le).put _ (.inr hv)) ⟨v', rfl, hv⟩ (fun e a3 c3 w3 hp => hQ _ _ _ _ (hp.trans g2))
          · rw [hr]
            split at he
            · exact absurd rfl (hne _)
            · exact alistS_sound hz hxt hc rest (k + 1) hk' _ _ _ _ _ _ _ he ι' w' _ _ Q g1 ((ha.mono g2.le).put _ (.inr .nilIface)) (hu.mono g2.le) (fun e a3 c3 w3 hp => hQ _ _ _ _ (hp.trans g2))
        · cases he
      · cases he
    · have key : ∀ (x2 : AExit) (a2 : Act) (m2 : AMem), astep P call ops o a m = some (x2, a2, m2) → (x2 = .normal → ∀ a'' w'', ExitPost P ι m w .normal a2 m2 .normal a'' w'' → wpOpsS P ops Q (List.range' (k + 1) rest.length) a'' ({ c₀ with mode := u' } :: cs) w'') →
          (∀ e a'' w'', x2 ≠ .normal → ExitPost P ι m w x2 a2 m2 e a'' w'' → Q e a'' ({ c₀ with mode := u' } :: cs) w'') →
          (if Region.wanted o (yielded ops a'.tmps) then
            (match (execOp a'.eval o).run P w with
            | .ok .recover w' =>
              match recoverD ({ c₀ with mode := u' } :: cs) with
              | some (v, cs') => wpOpsS P ops Q (List.range' (k + 1) rest.length) (a'.put o.dst v) cs' w'
              | none => wpOpsS P ops Q (List.range' (k + 1) rest.length) (a'.put o.dst .nilIface) ({ c₀ with mode := u' } :: cs) w'
            | r => o.upon P a' (fun a' w' => wpOpsS P ops Q (List.range' (k + 1) rest.length) a' ({ c₀ with mode := u' } :: cs) w') (fun e a' w' => Q e a' ({ c₀ with mode := u' } :: cs) w') r)
          else wpOpsS P ops Q (List.range' (k + 1) rest.length) (a'.put o.dst undef) ({ c₀ with mode := u' } :: cs) w) := by
        intro x2 a2 m2 hs hK hX
        have := astep_sound hz hxt hc hs h ha (K := fun a' w' => wpOpsS P ops Q (List.range' (k + 1) rest.length) a' ({ c₀ with mode := u' } :: cs) w') (Q := fun e a' w' => Q e a' ({ c₀ with mode := u' } :: cs) w') hK hX
        split
        · rename_i hw
          rw [if_pos hw] at this
          unfold Oper.wp at this
          split
          · rename_i hr
            rw [hr] at this
            exact this.elim
          · exact this
        · rename_i hw
          rw [if_neg hw] at this
          exact this
      split at he
      · rename_i a2 m2 hs
        refine key _ _ _ hs (fun _ a'' w'' hp => ?_) (fun _ _ _ hne _ => absurd rfl hne)
        obtain ⟨ι', g1, g2, _, g4⟩ := hp
        exact alistS_sound hz hxt hc rest (k + 1) hk' _ _ _ _ _ _ _ he ι' w'' a'' u' Q g1 g4 (hu.mono g2.le) (fun e a3 c3 w3 hp => hQ _ _ _ _ (hp.trans g2))
      · rename_i e2 a2 m2 hne hs
        simp only [Option.some.injEq, Prod.mk.injEq] at he; obtain ⟨rfl, rfl, rfl, rfl⟩ := he
        refine key _ _ _ hs (fun hx => (hne hx).elim) (fun e a'' w'' _ hp => ?_)
        obtain ⟨ι', g1, g2, g3, g4⟩ := hp
        exact hQ _ _ _ _ ⟨ι', u', g1, g2, g3, g4, rfl, hu.mono g2.le⟩
      · cases he

theorem acodeS_sound (hz : ZeroOk P) (hxt : ExternOk P) (hm : P.follows .mixedOrders = true) {L : Nat} {call : CallF} (hc : CallOk P call) {c₀ : Frame} {cs : List Frame} : ∀ (c : Code) (a a1 : Act) (u u1 : AMode) (m m1 : AMem) (x : AExit), acodeS P L call c a u m = some (x, a1, u1, m1) →
    ∀ (ι : Iota) (w : World) (a' : Act) (u' : FrameMode), MRel P ι m w → ARel ι a a' → URel ι u u' → c.wpS P (ExitPostS P ι m w x a1 u1 m1 c₀ cs) a' ({ c₀ with mode := u' } :: cs) w := by
  have hmono : ∀ {c : Code} {Q Q' : Exit → Act → List Frame → World → Prop} {a : Act} {cs : List Frame} {w : World}, c.wpS P Q a cs w → (∀ e a cs w, Q e a cs w → Q' e a cs w) → c.wpS P Q' a cs w :=
    fun h hq b k hb hr => let ⟨e, a', cs', w', q, r⟩ := h b k hb hr; ⟨e, a', cs', w', hq _ _ _ _ q, r⟩
  have hother : ∀ (c : Code) (a a1 : Act) (u u1 : AMode) (m m1 : AMem) (x : AExit), (match acode P L call c a m with | some (e, a', m') => some (e, a', u, m') | none => none) = some (x, a1, u1, m1) →
      ∀ (ι : Iota) (w : World) (a' : Act) (u' : FrameMode), MRel P ι m w → ARel ι a a' → URel ι u u' → c.wpS P (ExitPostS P ι m w x a1 u1 m1 c₀ cs) a' ({ c₀ with mode := u' } :: cs) w := by
    intro c a a1 u u1 m m1 x he ι w a' u' h ha hu
    split at he
    · rename_i e2 a2 m2 hs
      simp only [Option.some.injEq, Prod.mk.injEq] at he; obtain ⟨rfl, rfl, rfl, rfl⟩ := he
      refine wpS_of_wp (wp_mono (acode_sound hz hxt hm hc c _ _ _ _ _ hs ι w a' h ha) ?_)
      rintro e a3 w3 ⟨ι', g1, g2, g3, g4⟩
      exact ⟨ι', u', g1, g2, g3, g4, rfl, hu.mono g2.le⟩
    · cases he
  intro c
  induction c with
  | seq y z ih1 ih2 =>
    intro a a1 u u1 m m1 x he ι w a' u' h ha hu
    unfold acodeS at he
    refine wpS_seq ?_
    split at he
    · rename_i a2 u2 m2 hs
      refine hmono (ih1 _ _ _ _ _ _ _ hs ι w a' u' h ha hu) ?_
      rintro e a3 cs3 w3 ⟨ι', u3, g1, g2, g3, g4, g5, g6⟩
      subst g3; subst g5
      exact hmono (ih2 _ _ _ _ _ _ _ he ι' w3 a3 u3 g1 g4 g6) fun e a4 cs4 w4 hp => hp.trans g2
    · rename_i hne
      refine hmono (ih1 _ _ _ _ _ _ _ he ι w a' u' h ha hu) ?_
      rintro e a3 cs3 w3 hp
      have hx : x ≠ .normal := fun q => by subst q; exact hne _ _ _ he
      obtain ⟨_, _, _, _, g3, _⟩ := (show ExitPostS P ι m w x a1 u1 m1 c₀ cs e a3 cs3 w3 from hp)
      cases x with
      | normal => exact absurd rfl hx
      | exit id => rw [show e = .exit id from g3] at hp ⊢; exact hp
      | ret => rw [show e = .ret from g3] at hp ⊢; exact hp
      | panic v => obtain ⟨v', rfl, _⟩ := g3; exact hp
  | cond c y z ih1 ih2 =>
    intro a a1 u u1 m m1 x he ι w a' u' h ha hu
    unfold acodeS at he
    split at he
    · rename_i hv
      have := aev_sound h.glob ha hv
      refine wpS_cond (t := true) ?_ (ih1 _ _ _ _ _ _ _ he ι w a' u' h ha hu)
      generalize a'.eval c = cv at this
      cases this; rfl
    · rename_i hv
      have := aev_sound h.glob ha hv
      refine wpS_cond (t := false) ?_ (ih2 _ _ _ _ _ _ _ he ι w a' u' h ha hu)
      generalize a'.eval c = cv at this
      cases this; rfl
    · cases he
  | region id ops draw =>
    intro a a1 u u1 m m1 x he ι w a' u' h ha hu
    cases draw with
    | true => exact hother _ _ _ _ _ _ _ _ he ι w a' u' h ha hu
    | false =>
      simp only [acodeS] at he
      refine wpS_region ?_
      have := alistS_sound hz hxt hc ops.toList 0 (fun j => by simp) a a1 u u1 m m1 x he ι w a' u' (ExitPostS P ι m w x a1 u1 m1 c₀ cs) h ha hu (fun _ _ _ _ h => h)
      rw [List.range_eq_range']
      simpa using this
  | _ =>
    intro a a1 u u1 m m1 x he ι w a' u' h ha hu
    unfold acodeS at he
    exact hother _ _ _ _ _ _ _ _ he ι w a' u' h ha hu

end
end Go.Abs
