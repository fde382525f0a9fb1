/- The abstract machine, 19: regions that draw their order are sound. -/
import Derived.Test.YteajocebbmfdmaaGreatDoorAbsR
namespace Go.Abs
section
variable {P : Program} {ops : Array Oper}

/-- How many are not listed yet. -/
def left (ops : Array Oper) (listed : Array Bool) : Nat := (List.range ops.size).countP fun i => !listed.getD i false

theorem countP_less {p p' : Nat → Bool} : ∀ {l : List Nat}, (∀ j ∈ l, p' j = true → p j = true) → (∃ i ∈ l, p i = true ∧ p' i = false) → l.countP p' + 1 ≤ l.countP p
  | [], _, ⟨i, hi, _⟩ => by cases hi
  | x :: l, h, hex => by
    have hmono : ∀ (l : List Nat), (∀ j ∈ l, p' j = true → p j = true) → l.countP p' ≤ l.countP p := fun l hl => List.countP_mono_left hl
    obtain ⟨i, hi, h1, h2⟩ := hex
    have ht : ∀ j ∈ l, p' j = true → p j = true := fun j hj => h j (List.mem_cons_of_mem _ hj)
    rcases List.mem_cons.1 hi with rfl | hi
    · rw [List.countP_cons, List.countP_cons, h1, h2]
      have := hmono l ht
      simp; omega
    · have ih := countP_less ht ⟨i, hi, h1, h2⟩
      rw [List.countP_cons, List.countP_cons]
      have := h x List.mem_cons_self
      cases hx : p' x
      · simp; split <;> omega
      · rw [this hx]; simp; omega

theorem left_set {listed : Array Bool} {i : Nat} (hi : i < ops.size) (hl : listed.size = ops.size) (hn : ¬ listed.getD i false = true) : left ops (listed.setIfInBounds i true) + 1 ≤ left ops listed := by
  refine countP_less ?_ ⟨i, by simpa using hi, by simpa using hn, ?_⟩
  · intro j _ h
    by_cases e : i = j
    · subst e; simpa using hn
    · rw [getD_set_ne false e] at h; exact h
  · simp [Array.getD_eq_getD_getElem?, hl, hi]

theorem set_iff {listed : Array Bool} {i : Nat} (hi : i < listed.size) (j : Nat) : (listed.setIfInBounds i true).getD j false = true ↔ (listed.getD j false = true ∨ j = i) := by
  by_cases e : i = j
  · subst e; simp [Array.getD_eq_getD_getElem?, hi]
  · rw [getD_set_ne false e]; simp [Ne.symm e]

theorem getD_ready {listed : Array Bool} {j : Nat} (h : listed.getD j true = false) : ¬ listed.getD j false = true ∧ j < listed.size := by
  by_cases hj : j < listed.size
  · simp [Array.getD_eq_getD_getElem?, hj] at h ⊢; exact h
  · simp [Array.getD_eq_getD_getElem?, hj] at h

theorem ready_getD {listed : Array Bool} {j : Nat} (h : ¬ listed.getD j false = true) (hj : j < listed.size) : listed.getD j true = false := by
  simp [Array.getD_eq_getD_getElem?, hj] at h ⊢; exact h

/-- Where the real run stands to the canonical one. -/
structure Inv (P : Program) (ops : Array Oper) (a0 : Act) (ι0 : Iota) (m0 : AMem) (w0 : World) (Z : Nat → Prop) (done : List Nat) (ac : Act) (m : AMem) (f : List Fre) (S : Nat → Prop) (T : Act) (ι : Iota) (w : World) (a' : Act) : Prop where
  closed : Closed ops S
  zs : ∀ i, Z i → S i
  sub : ∀ i, S i → i ∈ done
  ja : JA ops a0 ac S T
  act : ARel ι T a'
  mem : MRel P ι m w
  step : Step m0 ι0 w0 m ι w
  hole : ∀ x ∈ f, ¬ S x.i → ι x.id = none

theorem JA.congr {a0 ac T : Act} {S S' : Nat → Prop} (h : JA ops a0 ac S T) (e : ∀ j, S j ↔ S' j) : JA ops a0 ac S' T :=
  ⟨h.size, fun i o t hi => h.ins i o t ((e i).2 hi), fun t ht => h.outs t (fun i o hi => ht i o ((e i).1 hi)), h.defs⟩

theorem Closed.congr {S S' : Nat → Prop} (h : Closed ops S) (e : ∀ j, S j ↔ S' j) : Closed ops S' :=
  fun i hi => (h i ((e i).2 hi)).mono fun j hj => (e j).1 hj

theorem Closed.add {S : Nat → Prop} (h : Closed ops S) {i : Nat} (hp : Preds ops i S) : Closed ops (fun j => S j ∨ j = i) := by
  intro j hj
  rcases hj with hj | rfl
  · exact (h j hj).mono fun k hk => .inl hk
  · exact hp.mono fun k hk => .inl hk

theorem Step.holes {m m' : AMem} {ι ι' : Iota} {w w' : World} (h : Step m ι w m' ι' w') {f : List Fre} {S : Nat → Prop} (hf : ∀ x ∈ f, x.id < m.length) (hh : ∀ x ∈ f, ¬ S x.i → ι x.id = none) : ∀ x ∈ f, ¬ S x.i → ι' x.id = none :=
  fun x hx hn => (h.old _ (hf x hx)).trans (hh x hx hn)

/-- Between two effects. -/
theorem stage_sound (hz : ZeroOk P) (hxt : ExternOk P) (hs : Slots ops) {a0 : Act} {ι0 : Iota} {m0 : AMem} {w0 : World} {Z : Nat → Prop} {d1 : List Nat} {a1 : Act} {m1 : AMem} {q1 : List Obl} {f1 : List Fre} {Q : Exit → Act → World → Prop}
    (hcan : Can P ops a0 m0.length Z d1 a1 m1.length q1 f1) (hq : q1.all (oblOk P ops m1) = true) (hf : f1.all (freOk m1) = true)
    (hout : ∀ (fuel : Nat) (listed : Array Bool) (ι : Iota) (w : World) (a' T : Act) (i : Nat) (o : Oper), listed.size = ops.size → left ops listed ≤ fuel + 1 → Inv P ops a0 ι0 m0 w0 Z d1 a1 m1 f1 (fun j => listed.getD j false = true) T ι w a' →
      i ∉ d1 → ops[i]? = some o → Preds ops i (fun j => listed.getD j false = true) → wpOp P ops Q i (wpAny P .any ops Q fuel (listed.setIfInBounds i true)) a' w)
    (hend : ∀ (ι : Iota) (w : World) (a' T : Act) (S : Nat → Prop), Inv P ops a0 ι0 m0 w0 Z d1 a1 m1 f1 S T ι w a' → (∀ i ∈ d1, S i) → (∀ i, i < ops.size → i ∉ d1 → ¬ Preds ops i S) → Q .normal a' w) :
    ∀ (fuel : Nat) (listed : Array Bool) (ι : Iota) (w : World) (a' T : Act), listed.size = ops.size → left ops listed ≤ fuel → Inv P ops a0 ι0 m0 w0 Z d1 a1 m1 f1 (fun j => listed.getD j false = true) T ι w a' → wpAny P .any ops Q fuel listed a' w := by
  have hdone : ∀ (listed : Array Bool) (ι : Iota) (w : World) (a' T : Act), listed.size = ops.size → Inv P ops a0 ι0 m0 w0 Z d1 a1 m1 f1 (fun j => listed.getD j false = true) T ι w a' → Region.ready .any ops listed = [] → Q .normal a' w := by
    intro listed ι w a' T hl hinv hr
    have hno : ∀ i, i < ops.size → ¬ listed.getD i false = true → ¬ Preds ops i (fun j => listed.getD j false = true) := by
      intro i hi hn hp
      have : i ∈ Region.ready .any ops listed := mem_ready.2 ⟨ready_getD hn (by omega), ops[i], Array.getElem?_eq_getElem hi, fun e he hb => hp _ (Array.getElem?_eq_getElem hi) e he hb⟩
      rw [hr] at this; cases this
    refine hend ι w a' T _ hinv ?_ ?_
    · intro i hi
      refine Classical.byContradiction fun hn => ?_
      obtain ⟨j, hj, h1, h2⟩ := Chain.next (S := fun j => listed.getD j false = true) hcan.chain ⟨i, hi, hn⟩
      exact hno j (hcan.chain.lt j hj) h1 h2
    · intro i hi hn hp
      exact hno i hi (fun h => hn (hinv.sub i h)) hp
  have hhigh : ∀ x ∈ f1, x.id < m1.length := fun x hx => let ⟨_, _, _, _, _, hf⟩ := hcan.fok x hx; hf.high
  have hundef : ∀ ι, SRel ι undef undef := fun ι => .inr (.tuple rfl (fun i v v' a => by simp at a))
  intro fuel
  induction fuel with
  | zero =>
    intro listed ι w a' T hl hle hinv
    have hr : Region.ready .any ops listed = [] := by
      apply List.eq_nil_iff_forall_not_mem.2
      intro j hj
      obtain ⟨h1, o, h2, h3⟩ := mem_ready.1 hj
      have hjl : j < ops.size := (Array.getElem?_eq_some_iff.1 h2).1
      have := left_set hjl hl (getD_ready h1).1
      omega
    exact ⟨hr, hdone listed ι w a' T hl hinv hr⟩
  | succ fuel ih =>
    intro listed ι w a' T hl hle hinv
    refine ⟨hdone listed ι w a' T hl hinv, fun i hi => ?_⟩
    obtain ⟨h1, o, ho, h3⟩ := mem_ready.1 hi
    have hil : i < ops.size := (Array.getElem?_eq_some_iff.1 ho).1
    have hnS := (getD_ready h1).1
    have hpS : Preds ops i (fun j => listed.getD j false = true) := fun o' ho' e he hb => by rw [ho] at ho'; simp at ho'; subst ho'; exact h3 e he hb
    by_cases hid : i ∈ d1
    · have hleft := left_set hil hl hnS
      have hiff := set_iff (listed := listed) (i := i) (by omega)
      have hback : ∀ (ι' : Iota) (w' : World) (a'' : Act) (v : Value), MRel P ι' m1 w' → Step m0 ι0 w0 m1 ι' w' → ARel ι' (T.put o.dst v) a'' → (∀ t, o.dst = some t → t < a0.tmps.size → a1.tmps[t]? = some v) →
          (∀ x ∈ f1, ¬ (listed.setIfInBounds i true).getD x.i false = true → ι' x.id = none) → wpAny P .any ops Q fuel (listed.setIfInBounds i true) a'' w' := by
        intro ι' w' a'' v hm hst ha hv hh
        refine ih _ ι' w' a'' (T.put o.dst v) (by simpa using hl) (by omega) ⟨(hinv.closed.add hpS).congr fun j => (hiff j).symm, fun j hj => (hiff j).2 (.inl (hinv.zs j hj)), fun j hj => ?_, (hinv.ja.put ho hv hcan.ja.size).congr fun j => (hiff j).symm, ha, hm, hst, hh⟩
        rcases (hiff j).1 hj with hj | rfl
        · exact hinv.sub j hj
        · exact hid
      have hweak : ∀ {x : Fre}, ¬ (listed.setIfInBounds i true).getD x.i false = true → ¬ listed.getD x.i false = true := fun hn h => hn ((hiff _).2 (.inl h))
      rcases hcan.cover i hid with hZ | ⟨q, hqm, rfl⟩ | ⟨f, hfm, rfl⟩
      · exact absurd (hinv.zs i hZ) hnS
      · obtain ⟨C, o', hqk⟩ := hcan.qok q hqm
        have e := hqk.get; rw [ho] at e; simp at e; subst e
        have hag := agree_of hs ho hqk.closed hinv.closed hqk.out hnS hqk.preds hpS hqk.ja hinv.ja
        have hw : awanted ops o T = some q.v.isSome := by rw [← awanted_agree hag]; exact hqk.want
        have hwr := awanted_sound hinv.act hw
        unfold wpOp
        rw [ho]
        simp only [hwr]
        have hob := List.all_eq_true.1 hq q hqm
        unfold oblOk at hob
        cases hv : q.v with
        | none =>
          simp only [Option.isSome_none, Bool.false_eq_true, if_false]
          refine hback ι w _ undef hinv.mem hinv.step (hinv.act.put _ (hundef ι)) ?_ (fun x hx hn => hinv.hole x hx (hweak hn))
          intro t ht hlt
          have := hqk.slot t ht hlt
          rw [hv] at this; exact this
        | some v =>
          simp only [Option.isSome_some, if_true]
          left
          rw [hv, ho] at hob
          simp only [Bool.or_eq_true, Bool.not_eq_true'] at hob
          have hop : aop P T o m1 = some (.val v, m1) := by
            rw [← aop_agree hag]
            rcases hob with hob | hob
            · exact hqk.still v hv hob m1
            · split at hob
              · rename_i u m' hopq
                rw [sameV_eq hob, hopq, aop_quiet hqk.kind hopq]
              · cases hob
          obtain ⟨ι', w', g1, g2, v', g3, g4⟩ := aop_sound hz hxt hinv.mem hinv.act hop
          unfold Oper.wp
          rw [g3]
          refine hback ι' w' _ v g1 (hinv.step.trans g2) ((hinv.act.mono g2.le).put _ (.inr g4)) ?_ (fun x hx hn => g2.holes (S := fun j => listed.getD j false = true) hhigh hinv.hole x hx (hweak hn))
          intro t ht hlt
          have := hqk.slot t ht hlt
          rw [hv] at this; exact this
      · obtain ⟨C, o', b, v, mb, hfk⟩ := hcan.fok f hfm
        have e := hfk.get; rw [ho] at e; simp at e; subst e
        have hag := agree_of hs ho hfk.closed hinv.closed hfk.out hnS hfk.preds hpS hfk.ja hinv.ja
        have hw : awanted ops o T = some true := by rw [← awanted_agree hag]; exact hfk.want
        have hwr := awanted_sound hinv.act hw
        unfold wpOp
        rw [ho]
        simp only [hwr, if_true]
        left
        have hfo := List.all_eq_true.1 hf f hfm
        unfold freOk at hfo
        have hop : aop P T o mb = some (.val v, mb ++ [f.o]) := by rw [← aop_agree hag]; exact hfk.made
        obtain ⟨O, X, cp, v', g1, g2, g3, g4, g5⟩ := fresh_run hz hinv.mem.glob hinv.act hfk.kind hop w
        have hO : O = f.o := by have := List.append_cancel_left g1; simpa using this.symm
        subst hO
        have hget : m1[f.id]? = some f.o := by
          split at hfo
          · rename_i x hx; rw [hx, sameObj_eq hfo]
          · cases hfo
        have hhole := hinv.hole f hfm hnS
        have hX : (w.heap.push X)[w.heap.size]? = some X := by simp
        have hid2 := hfk.id
        have hle2 : Le ι (ι.add f.id (w.heap.size, 0, cp)) := by
          intro j x hx
          simp only [Iota.add]
          split
          · rename_i ej; subst ej; rw [hhole] at hx; cases hx
          · exact hx
        obtain ⟨k1, k2⟩ := hinv.mem.fill (w' := { w with heap := w.heap.push X }) (cp := cp) hget hhole rfl (g4 _ _ hle2 hX)
        have k3 := hinv.step.fill (w' := { w with heap := w.heap.push X }) (cp := cp) hfk.low hhole rfl rfl rfl rfl
        unfold Oper.wp
        rw [g3]
        refine hback _ _ _ v k1 k3 ((hinv.act.mono k2).put _ (.inr (g5 _ (by rw [hid2]; exact Iota.add_self _ _ _)))) hfk.slot ?_
        intro x hx hn
        simp only [Iota.add]
        rw [if_neg]
        · exact hinv.hole x hx (hweak hn)
        · intro e
          have := hcan.uniq x hx f hfm e
          exact hn ((hiff _).2 (.inr this))
    · exact hout fuel listed ι w a' T i o hl hle hinv hid ho hpS

theorem junkAll_size : ∀ (l : List Oper) (a : Act), (junkAll l a).tmps.size = a.tmps.size ∧ (junkAll l a).defers = a.defers
  | [], a => ⟨rfl, rfl⟩
  | o :: l, a => by
    have := junkAll_size l (a.put o.dst junk)
    unfold junkAll at *
    rw [List.foldl_cons]
    cases hd : o.dst <;> simp [hd, Act.put] at this ⊢ <;> exact this

theorem junkAll_get : ∀ (l : List Oper) (a : Act) (t : Nat), (junkAll l a).tmps[t]? = a.tmps[t]? ∧ (∀ o ∈ l, o.dst ≠ some t) ∨ (∃ o ∈ l, o.dst = some t) ∧ ((junkAll l a).tmps[t]? = some junk ∨ (junkAll l a).tmps[t]? = none)
  | [], a, t => .inl ⟨rfl, fun o ho => by cases ho⟩
  | o :: l, a, t => by
    have e : junkAll (o :: l) a = junkAll l (a.put o.dst junk) := rfl
    rw [e]
    rcases junkAll_get l (a.put o.dst junk) t with ⟨h1, h2⟩ | ⟨⟨o', h1, h2⟩, h3⟩
    · rw [h1, put_get]
      by_cases hd : o.dst = some t
      · rw [if_pos hd]
        refine .inr ⟨⟨o, List.mem_cons_self, hd⟩, ?_⟩
        split
        · exact .inl rfl
        · exact .inr rfl
      · rw [if_neg hd]
        refine .inl ⟨rfl, fun o' ho' => ?_⟩
        rcases List.mem_cons.1 ho' with rfl | ho'
        · exact hd
        · exact h2 o' ho'
    · exact .inr ⟨⟨o', List.mem_cons_of_mem _ h1, h2⟩, h3⟩

theorem junkAll_rel {ι : Iota} {a0 a1 T a'' : Act} {S D : Nat → Prop} (h1 : JA ops a0 a1 D a1) (hT : JA ops a0 a1 S T) (ha : ARel ι T a'') : ARel ι (junkAll ops.toList a1) a'' := by
  obtain ⟨e1, e2⟩ := junkAll_size ops.toList a1
  refine ⟨by rw [e1, h1.size, ← hT.size]; exact ha.size, ?_, by rw [e2, h1.defs, ← hT.defs]; exact ha.dlen, ?_⟩
  · intro t v v' hv hv'
    rcases junkAll_get ops.toList a1 t with ⟨g1, g2⟩ | ⟨_, g1 | g1⟩
    · have g3 : ∀ (X : Nat → Prop) i o, X i → ops[i]? = some o → o.dst ≠ some t := fun X i o _ ho => g2 o (by have := Array.mem_of_getElem? ho; simpa using this)
      rw [g1, h1.outs t (g3 D), ← hT.outs t (g3 S)] at hv
      exact ha.slot t v v' hv hv'
    · rw [g1] at hv; simp at hv; subst hv; exact .inl ⟨_, rfl⟩
    · rw [g1] at hv; cases hv
  · intro i d d' hd hd'
    rw [e2, h1.defs, ← hT.defs] at hd
    exact ha.defer i d d' hd hd'

end
end Go.Abs
