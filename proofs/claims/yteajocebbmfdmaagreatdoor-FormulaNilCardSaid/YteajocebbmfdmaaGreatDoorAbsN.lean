/- The abstract machine, 14: regions in the order of the text. -/
import Derived.Test.YteajocebbmfdmaaGreatDoorAbsM
namespace Go.Abs
section
variable {P : Program}

def EndRel (ι : Iota) : AEnd → Ending → Prop
  | .ret v, e => ∃ v', e = .returned v' ∧ VRel ι v v'
  | .panic v, e => ∃ v', e = .panicked [{ v := v', recovered := false }] ∧ VRel ι v v'

/-- What a call leaves. -/
def EndPost (P : Program) (ι : Iota) (m : AMem) (w : World) (r : AEnd) (m' : AMem) : Ending → World → Prop := fun e w' => ∃ ι', MRel P ι' m' w' ∧ Step m ι w m' ι' w' ∧ EndRel ι' r e

def CallOk (P : Program) (call : CallF) : Prop := ∀ (f : FuncId) (args : Array Value) (m : AMem) (r : AEnd) (m' : AMem), call f args m = some (r, m') →
  ∀ (ι : Iota) (w : World) (args' : Array Value), MRel P ι m w → LRel ι args.toList args'.toList → Calls P f args' w (EndPost P ι m w r m')

def XRel (ι : Iota) : AExit → Exit → Prop
  | .normal, e => e = .normal
  | .exit id, e => e = .exit id
  | .ret, e => e = .ret
  | .panic v, e => ∃ v', e = .panic [{ v := v', recovered := false }] ∧ VRel ι v v'

/-- What a piece of code leaves. -/
def ExitPost (P : Program) (ι : Iota) (m : AMem) (w : World) (x : AExit) (a1 : Act) (m1 : AMem) : Exit → Act → World → Prop := fun e a' w' => ∃ ι', MRel P ι' m1 w' ∧ Step m ι w m1 ι' w' ∧ XRel ι' x e ∧ ARel ι' a1 a'

theorem awanted_sound {ι : Iota} {ops : Array Oper} {o : Oper} {a a' : Act} {b : Bool} (h : ARel ι a a') (hw : awanted ops o a = some b) : Region.wanted o (yielded ops a'.tmps) = b := by
  unfold awanted at hw
  unfold Region.wanted
  split at hw
  · rename_i hg; simp at hw; subst hw; simp [hg]
  · rename_i j want hg
    simp only [hg]
    split at hw
    · rename_i t ht
      unfold yielded
      simp only [ht, Option.bind_some]
      split at hw
      · rename_i bb hb
        simp at hw; subst hw
        obtain ⟨v', h1, h2⟩ := h.get hb
        have := h2.val (by simp)
        cases this
        simp only [h1]
        cases bb <;> cases want <;> rfl
      · rename_i vs hb
        simp at hw; subst hw
        obtain ⟨v', h1, h2⟩ := h.get hb
        have := h2.val (by simp)
        cases this
        simp only [h1]
        rfl
      · cases hw
    · cases hw

/-- One operation, with its call. -/
theorem astep_sound (hz : ZeroOk P) (hxt : ExternOk P) {call : CallF} (hc : CallOk P call) {ops : Array Oper} {o : Oper} {a a1 : Act} {m m1 : AMem} {x : AExit} (he : astep P call ops o a m = some (x, a1, m1))
    {ι : Iota} {w : World} {a' : Act} (h : MRel P ι m w) (ha : ARel ι a a') {K : Act → World → Prop} {Q : Exit → Act → World → Prop}
    (hK : x = .normal → ∀ a'' w'', ExitPost P ι m w .normal a1 m1 .normal a'' w'' → K a'' w'') (hQ : ∀ e a'' w'', x ≠ .normal → ExitPost P ι m w x a1 m1 e a'' w'' → Q e a'' w'') :
    if Region.wanted o (yielded ops a'.tmps) then o.wp P a' w K Q else K (a'.put o.dst undef) w := by
  have hundef : ∀ ι, SRel ι undef undef := fun ι => .inr (.tuple rfl (fun i v v' a => by simp at a))
  unfold astep at he
  split at he
  · rename_i hw
    have := awanted_sound ha hw
    rw [if_neg (by simp [this])]
    simp only [Option.some.injEq, Prod.mk.injEq] at he; obtain ⟨rfl, rfl, rfl⟩ := he
    exact hK rfl _ _ ⟨ι, h, Step.refl _ _ _, rfl, ha.put _ (hundef ι)⟩
  · rename_i hw
    have := awanted_sound ha hw
    rw [if_pos this]
    unfold Oper.wp
    split at he
    · rename_i v m' hop
      simp only [Option.some.injEq, Prod.mk.injEq] at he; obtain ⟨rfl, rfl, rfl⟩ := he
      obtain ⟨ι', w', h1, h2, v', h3, h4⟩ := aop_sound hz hxt h ha hop
      rw [h3]
      exact hK rfl _ _ ⟨ι', h1, h2, rfl, (ha.mono h2.le).put _ (.inr h4)⟩
    · rename_i m' hop
      simp only [Option.some.injEq, Prod.mk.injEq] at he; obtain ⟨rfl, rfl, rfl⟩ := he
      obtain ⟨ι', w', h1, h2, h3⟩ := aop_sound hz hxt h ha hop
      rw [show (execOp a'.eval o).run P w = .ok .skip w' from h3]
      exact hK rfl _ _ ⟨ι', h1, h2, rfl, (ha.mono h2.le).put _ (hundef _)⟩
    · rename_i d m' hop
      simp only [Option.some.injEq, Prod.mk.injEq] at he; obtain ⟨rfl, rfl, rfl⟩ := he
      obtain ⟨ι', w', h1, h2, d', h3, h4⟩ := aop_sound hz hxt h ha hop
      rw [h3]
      refine hK rfl _ _ ⟨ι', h1, h2, rfl, ARel.put ?_ _ (hundef _)⟩
      have ha2 := ha.mono h2.le
      refine ⟨ha2.size, ha2.slot, by simp [ha2.dlen], fun i e e' x y => ?_⟩
      cases i with
      | zero => simp at x y; subst x; subst y; exact h4
      | succ i => exact ha2.defer i e e' (by simpa using x) (by simpa using y)
    · rename_i f args m' hop
      obtain ⟨ι', w', h1, h2, args', h3, h4⟩ := aop_sound hz hxt h ha hop
      rw [h3]
      split at he
      · rename_i v m'' hcall
        simp only [Option.some.injEq, Prod.mk.injEq] at he; obtain ⟨rfl, rfl, rfl⟩ := he
        refine (hc f args m' _ _ hcall ι' w' args' h1 h4).mono ?_
        rintro e w'' ⟨ι'', g1, g2, v', rfl, g4⟩
        exact hK rfl _ _ ⟨ι'', g1, h2.trans g2, rfl, ((ha.mono h2.le).mono g2.le).put _ (.inr g4)⟩
      · rename_i v m'' hcall
        simp only [Option.some.injEq, Prod.mk.injEq] at he; obtain ⟨rfl, rfl, rfl⟩ := he
        refine (hc f args m' _ _ hcall ι' w' args' h1 h4).mono ?_
        rintro e w'' ⟨ι'', g1, g2, v', rfl, g4⟩
        exact hQ _ _ _ (by simp) ⟨ι'', g1, h2.trans g2, ⟨v', rfl, g4⟩, (ha.mono h2.le).mono g2.le⟩
      · cases he
    · rename_i v m' hop
      simp only [Option.some.injEq, Prod.mk.injEq] at he; obtain ⟨rfl, rfl, rfl⟩ := he
      obtain ⟨ι', w', h1, h2, v', h3, h4⟩ := aop_sound hz hxt h ha hop
      rw [h3]
      exact hQ _ _ _ (by simp) ⟨ι', h1, h2, ⟨v', rfl, h4⟩, ha.mono h2.le⟩
    · cases he
    · cases he
  · cases he

theorem ExitPost.trans {ι ι1 : Iota} {m m1 m2 : AMem} {w w1 : World} {x : AExit} {a2 : Act} (hs : Step m ι w m1 ι1 w1) {e : Exit} {a' : Act} {w2 : World} (h : ExitPost P ι1 m1 w1 x a2 m2 e a' w2) : ExitPost P ι m w x a2 m2 e a' w2 :=
  let ⟨ι', h1, h2, h3, h4⟩ := h; ⟨ι', h1, hs.trans h2, h3, h4⟩

theorem alist_sound (hz : ZeroOk P) (hxt : ExternOk P) {call : CallF} (hc : CallOk P call) {ops : Array Oper} : ∀ (l : List Oper) (a a1 : Act) (m m1 : AMem) (x : AExit), alist P call ops l a m = some (x, a1, m1) →
    ∀ (ι : Iota) (w : World) (a' : Act) (Q : Exit → Act → World → Prop), MRel P ι m w → ARel ι a a' → (∀ e a'' w'', ExitPost P ι m w x a1 m1 e a'' w'' → Q e a'' w'') → wpList P ops Q l a' w
  | [], a, a1, m, m1, x, he, ι, w, a', Q, h, ha, hQ => by
    simp only [alist, Option.some.injEq, Prod.mk.injEq] at he; obtain ⟨rfl, rfl, rfl⟩ := he
    exact hQ _ _ _ ⟨ι, h, Step.refl _ _ _, rfl, ha⟩
  | o :: rest, a, a1, m, m1, x, he, ι, w, a', Q, h, ha, hQ => by
    unfold alist at he
    refine wpList_step fun K hK => ?_
    split at he
    · rename_i a2 m2 hs
      refine astep_sound hz hxt hc hs h ha (fun _ a'' w'' hp => hK _ _ ?_) (fun e a'' w'' hne _ => absurd rfl hne)
      obtain ⟨ι', g1, g2, _, g4⟩ := hp
      exact alist_sound hz hxt hc rest a2 a1 m2 m1 x he ι' w'' a'' Q g1 g4 (fun e a3 w3 hp => hQ _ _ _ (hp.trans g2))
    · rename_i hne
      refine astep_sound hz hxt hc he h ha (fun hx => ?_) (fun e a'' w'' _ hp => hQ _ _ _ hp)
      subst hx
      exact absurd he (hne _ _)

/-! ### Loops -/

theorem loopN_sound {c : Code} {body : Act → AMem → Option (AExit × Act × AMem)}
    (hb : ∀ (a a1 : Act) (m m1 : AMem) (x : AExit), body a m = some (x, a1, m1) → ∀ (ι : Iota) (w : World) (a' : Act), MRel P ι m w → ARel ι a a' → c.wp P (ExitPost P ι m w x a1 m1) a' w) :
    ∀ (n : Nat) (a a1 : Act) (m m1 : AMem) (x : AExit), loopN body n a m = some (x, a1, m1) → ∀ (ι : Iota) (w : World) (a' : Act), MRel P ι m w → ARel ι a a' →
      ∀ (b : Frame) (k : List Item) (cs : List Frame), ∃ e a'' w'', ExitPost P ι m w x a1 m1 e a'' w'' ∧ e ≠ .normal ∧ Arrives P (lone (b.at a' (.code c :: .inLoop c :: k)) cs w) b k cs e a'' w''
  | 0, a, a1, m, m1, x, he, _, _, _, _, _, _, _, _ => by simp [loopN] at he
  | n + 1, a, a1, m, m1, x, he, ι, w, a', h, ha, b, k, cs => by
    unfold loopN at he
    split at he
    · rename_i a2 m2 hs
      obtain ⟨e, a'', w'', ⟨ι', g1, g2, g3, g4⟩, harr⟩ := hb a a2 m m2 .normal hs ι w a' h ha b (.inLoop c :: k) cs
      subst g3
      obtain ⟨e, a3, w3, p1, p2, p3⟩ := loopN_sound hb n a2 a1 m2 m1 x he ι' w'' a'' g1 g4 b k cs
      exact ⟨e, a3, w3, p1.trans g2, p2, .of_steps (Steps.trans harr (.one step_inLoop)) p3⟩
    · rename_i hne
      obtain ⟨e, a'', w'', hp, harr⟩ := hb a a1 m m1 x he ι w a' h ha b (.inLoop c :: k) cs
      have hx : x ≠ .normal := fun q => by subst q; exact absurd he (hne _ _)
      have hne' : e ≠ .normal := by
        obtain ⟨_, _, _, g3, _⟩ := hp
        cases x with
        | normal => exact absurd rfl hx
        | exit id => rw [show e = .exit id from g3]; simp
        | ret => rw [show e = .ret from g3]; simp
        | panic v => obtain ⟨v', rfl, _⟩ := g3; simp
      refine ⟨e, a'', w'', hp, hne', ?_⟩
      exact .pass (x := .inLoop c) rfl (fun _ _ => .inl hne') harr

end
end Go.Abs
