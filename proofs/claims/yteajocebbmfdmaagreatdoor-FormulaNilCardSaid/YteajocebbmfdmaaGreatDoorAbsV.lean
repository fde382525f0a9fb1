/- The abstract machine, 22: calls. -/
import Derived.Test.YteajocebbmfdmaaGreatDoorAbsU
namespace Go.Abs
section
variable {P : Program}

theorem aenter_rel {ι : Iota} {fn : Func} {args args' : Array Value} (h : LRel ι args.toList args'.toList) : ARel ι (aenter fn args) { tmps := args' ++ Array.replicate (fn.ntmps - args'.size) undef, defers := [] } := by
  have hsz : args.size = args'.size := by simpa using h.1
  have hund : VRel ι undef undef := .tuple rfl (fun i v v' a => by simp at a)
  have hl : LRel ι (aenter fn args).tmps.toList (args' ++ Array.replicate (fn.ntmps - args'.size) undef).toList := by
    simp only [aenter, Array.toList_append, Array.toList_replicate, hsz]
    exact h.append (LRel.replicate hund _)
  refine ⟨by simpa using hl.1, fun t v v' hv hv' => .inr (hl.2 t v v' (by rw [← Array.getElem?_toList] at hv; exact hv) (by rw [← Array.getElem?_toList] at hv'; exact hv')), rfl, fun i d d' hd => by simp [aenter] at hd⟩

theorem acallD_sound (hz : ZeroOk P) (hxt : ExternOk P) (hm : P.follows .mixedOrders = true) {L : Nat} {call : CallF} (hc : CallOk P call) {f : FuncId} {args args' : Array Value} {u u1 : AMode} {u' : FrameMode} {m m1 : AMem} {r : AEnd} (he : acallD P L call f args u m = some (r, u1, m1))
    {ι : Iota} {w : World} (h : MRel P ι m w) (hl : LRel ι args.toList args'.toList) (hu : URel ι u u') :
    CallsD P f args' u' w (fun e u'' w'' => ∃ ι', MRel P ι' m1 w'' ∧ Step m ι w m1 ι' w'' ∧ EndRel ι' r e ∧ URel ι' u1 u'') := by
  unfold acallD at he
  split at he
  · rename_i fn hf
    split at he
    · rename_i c hb
      split at he
      · rename_i e a u2 m2 hs
        split at he
        · rename_i hd
          have hd : a.defers = [] := by simpa using hd
          refine callsD_of_wpS hf hb ?_
          intro c₀ cs hcu
          have key := acodeS_sound hz hxt hm hc (c₀ := c₀) (cs := cs) c _ _ _ _ _ _ _ hs ι w _ u' h (aenter_rel hl) hu
          have hc0 : ({ c₀ with mode := u' } : Frame) = c₀ := by subst hcu; rfl
          rw [hc0] at key
          intro b k hb2 hr2
          obtain ⟨ex, a3, cs3, w3, ⟨ι', u3, g1, g2, g3, g4, g5, g6⟩, harr⟩ := key b k hb2 hr2
          refine ⟨ex, a3, cs3, w3, ?_, harr⟩
          have hd3 : a3.defers = [] := by have := g4.dlen; rw [hd] at this; exact List.eq_nil_of_length_eq_zero this.symm
          split at he
          · split at he
            · rename_i vs hvs
              simp only [Option.some.injEq, Prod.mk.injEq] at he; obtain ⟨rfl, rfl, rfl⟩ := he
              obtain ⟨v', k1, k2⟩ := results_sound g1 g4 hvs
              rw [show ex = .normal from g3]
              exact ⟨hd3, u3, g5, v', k1, ι', g1, g2, ⟨v', rfl, k2⟩, g6⟩
            · cases he
          · split at he
            · rename_i vs hvs
              simp only [Option.some.injEq, Prod.mk.injEq] at he; obtain ⟨rfl, rfl, rfl⟩ := he
              obtain ⟨v', k1, k2⟩ := results_sound g1 g4 hvs
              rw [show ex = .ret from g3]
              exact ⟨hd3, u3, g5, v', k1, ι', g1, g2, ⟨v', rfl, k2⟩, g6⟩
            · cases he
          · simp only [Option.some.injEq, Prod.mk.injEq] at he; obtain ⟨rfl, rfl, rfl⟩ := he
            obtain ⟨v', rfl, k2⟩ := g3
            exact ⟨hd3, u3, g5, ι', g1, g2, ⟨v', rfl, k2⟩, g6⟩
          · cases he
        · cases he
      · cases he
    · cases he
  · cases he

theorem settle_rel {ι : Iota} {u : AMode} {u' : FrameMode} (h : URel ι u u') : URel ι (asettle u) (settle u') := by
  cases u with
  | ret => rw [show u' = .returning from h]; rfl
  | pan v r =>
    obtain ⟨v', rfl, hv⟩ := h
    cases r with
    | true => rfl
    | false => exact ⟨v', rfl, hv⟩

theorem URel.ne_run {ι : Iota} {u : AMode} {u' : FrameMode} (h : URel ι u u') : u' ≠ .run := by
  cases u with
  | ret => rw [show u' = .returning from h]; simp
  | pan v r => obtain ⟨v', rfl, hv⟩ := h; simp

theorem EndPost.trans {ι ι1 : Iota} {m m1 m2 : AMem} {w w1 : World} {r : AEnd} (hs : Step m ι w m1 ι1 w1) {e : Ending} {w2 : World} (h : EndPost P ι1 m1 w1 r m2 e w2) : EndPost P ι m w r m2 e w2 :=
  let ⟨ι', h1, h2, h3⟩ := h; ⟨ι', h1, hs.trans h2, h3⟩

theorem aleave_sound (hz : ZeroOk P) (hxt : ExternOk P) (hm : P.follows .mixedOrders = true) {L : Nat} {call : CallF} (hc : CallOk P call) {fn : Func} {tmps tmps' : Array Value} : ∀ (ds ds' : List Deferred) (u : AMode) (u' : FrameMode) (m m1 : AMem) (r : AEnd), aleave P L call fn tmps ds u m = some (r, m1) →
    ∀ (ι : Iota) (w : World) (R : Ending → World → Prop), MRel P ι m w → ARel ι ⟨tmps, ds⟩ ⟨tmps', ds'⟩ → URel ι u u' → (∀ e w', EndPost P ι m w r m1 e w' → R e w') → Leaves P fn tmps' R ds' u' w
  | [], ds', u, u', m, m1, r, he, ι, w, R, h, ha, hu, hR => by
    have : ds' = [] := List.eq_nil_of_length_eq_zero ha.dlen.symm
    subst this
    cases u with
    | ret =>
      rw [show u' = .returning from hu]
      simp only [aleave] at he
      split at he
      · rename_i vs hvs
        simp only [Option.some.injEq, Prod.mk.injEq] at he; obtain ⟨rfl, rfl⟩ := he
        obtain ⟨v', k1, k2⟩ := results_sound h ha hvs
        exact ⟨v', k1, hR _ _ ⟨ι, h, Step.refl _ _ _, v', rfl, k2⟩⟩
      · cases he
    | pan v rc =>
      obtain ⟨v', rfl, hv⟩ := hu
      cases rc with
      | true => simp [aleave] at he
      | false =>
        simp only [aleave, Option.some.injEq, Prod.mk.injEq] at he; obtain ⟨rfl, rfl⟩ := he
        exact hR _ _ ⟨ι, h, Step.refl _ _ _, v', rfl, hv⟩
  | d :: ds, [], u, u', m, m1, r, he, ι, w, R, h, ha, hu, hR => by have := ha.dlen; simp at this
  | d :: ds, d' :: ds', u, u', m, m1, r, he, ι, w, R, h, ha, hu, hR => by
    have ha2 : ARel ι ⟨tmps, ds⟩ ⟨tmps', ds'⟩ := ⟨ha.size, ha.slot, by have := ha.dlen; simpa using this, fun i x x' hx hx' => ha.defer (i + 1) x x' (by simpa using hx) (by simpa using hx')⟩
    obtain ⟨f, c, c', t1, t2, l1, l2⟩ := ha.defer 0 d d' rfl rfl
    unfold aleave at he
    rw [t1] at he
    simp only at he
    split at he
    · rename_i g hg
      split at he
      · rename_i hcond
        simp only [Bool.and_eq_true, bne_iff_ne, ne_eq] at hcond
        refine ⟨hu.ne_run, .func f, c', f, d'.args ++ c', t2, ?_, ?_⟩
        · rw [t2]
          have hb : g.body.isNone = false := by cases hgb : g.body <;> simp_all
          simp only [invoke, callFunc, Sem.run_bind, run_program, Result.andThen_ok, hg, hb, Bool.false_eq_true, if_false]
          have hn : (g.name == "runtime.NumGoroutine") = false := by simpa using hcond.2
          simp [hn]
        · have hl : LRel ι (d.args ++ c).toList (d'.args ++ c').toList := by simpa using l2.append l1
          split at he
          · rename_i v u1 m2 hs
            refine (acallD_sound hz hxt hm hc hs h hl hu).mono ?_
            rintro e u2 w2 ⟨ι', g1, g2, ⟨v', rfl, _⟩, g4⟩
            exact aleave_sound hz hxt hm hc ds ds' _ _ _ _ _ he ι' w2 R g1 (ha2.mono g2.le) (settle_rel g4) (fun e w3 hp => hR _ _ (hp.trans g2))
          · rename_i v m2 hs
            refine (acallD_sound hz hxt hm hc hs h hl hu).mono ?_
            rintro e u2 w2 ⟨ι', g1, g2, ⟨v', rfl, g3⟩, g4⟩
            rw [show u2 = .returning from g4]
            exact aleave_sound hz hxt hm hc ds ds' _ _ _ _ _ he ι' w2 R g1 (ha2.mono g2.le) ⟨v', rfl, g3⟩ (fun e w3 hp => hR _ _ (hp.trans g2))
          · cases he
      · cases he
    · cases he

/-- The contracts that are given by themselves hold. -/
def OvOk (P : Program) (ov : OvF) : Prop := ∀ (f : FuncId) (g : Array Value → AMem → Option (AEnd × AMem)), ov f = some g → ∀ (args : Array Value) (m : AMem) (r : AEnd) (m' : AMem), g args m = some (r, m') →
  ∀ (ι : Iota) (w : World) (args' : Array Value), MRel P ι m w → LRel ι args.toList args'.toList → Calls P f args' w (EndPost P ι m w r m')

theorem acall_sound (hz : ZeroOk P) (hxt : ExternOk P) (hm : P.follows .mixedOrders = true) {ov : OvF} (ho : OvOk P ov) : ∀ n, CallOk P (acall P ov n)
  | 0 => fun f args m r m' he => by simp [acall] at he
  | n + 1 => by
    intro f args m r m' he ι w args' h hl
    have ih := acall_sound hz hxt hm ho n
    unfold acall at he
    split at he
    · rename_i g hg
      exact ho f g hg args m r m' he ι w args' h hl
    · split at he
      · rename_i fn hf
        split at he
        · rename_i c hb
          refine calls_of_wp_defers hf hb ?_
          split at he
          · rename_i a1 m1 hs
            refine wp_mono (acode_sound hz hxt hm ih c _ _ _ _ _ hs ι w _ h (aenter_rel hl)) ?_
            rintro e a2 w2 ⟨ι', g1, g2, g3, g4⟩
            rw [show e = .normal from g3]
            exact aleave_sound hz hxt hm ih _ _ _ _ _ _ _ he ι' w2 _ g1 ⟨g4.size, g4.slot, g4.dlen, g4.defer⟩ (show URel ι' .ret .returning from rfl) (fun e w3 hp => hp.trans g2)
          · rename_i a1 m1 hs
            refine wp_mono (acode_sound hz hxt hm ih c _ _ _ _ _ hs ι w _ h (aenter_rel hl)) ?_
            rintro e a2 w2 ⟨ι', g1, g2, g3, g4⟩
            rw [show e = .ret from g3]
            exact aleave_sound hz hxt hm ih _ _ _ _ _ _ _ he ι' w2 _ g1 ⟨g4.size, g4.slot, g4.dlen, g4.defer⟩ (show URel ι' .ret .returning from rfl) (fun e w3 hp => hp.trans g2)
          · rename_i v a1 m1 hs
            refine wp_mono (acode_sound hz hxt hm ih c _ _ _ _ _ hs ι w _ h (aenter_rel hl)) ?_
            rintro e a2 w2 ⟨ι', g1, g2, ⟨v', rfl, g3⟩, g4⟩
            exact aleave_sound hz hxt hm ih _ _ _ _ _ _ _ he ι' w2 _ g1 ⟨g4.size, g4.slot, g4.dlen, g4.defer⟩ (show URel ι' (.pan v false) (.panicking [{ v := v', recovered := false }]) from ⟨v', rfl, g3⟩) (fun e w3 hp => hp.trans g2)
          · cases he
        · cases he
      · cases he

end
end Go.Abs
