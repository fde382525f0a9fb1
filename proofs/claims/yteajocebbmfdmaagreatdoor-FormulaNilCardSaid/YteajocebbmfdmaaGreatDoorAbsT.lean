/- The abstract machine, 20: whole regions. -/
import Derived.Test.YteajocebbmfdmaaGreatDoorAbsS
namespace Go.Abs
section
variable {P : Program} {ops : Array Oper}

theorem Inv.grow {a0 a a1 : Act} {ι0 : Iota} {m0 : AMem} {w0 : World} {Z : Nat → Prop} {done d1 : List Nat} {m : AMem} {f f1 : List Fre} {S : Nat → Prop} {T : Act} {ι : Iota} {w : World} {a' : Act} (h : Inv P ops a0 ι0 m0 w0 Z done a m f S T ι w a')
    (objs : AMem) (hf : ∀ x ∈ f1, m.length ≤ x.id) (hd : ∀ i ∈ done, i ∈ d1) (hk : Keeps ops (· ∈ done) a a1) : Inv P ops a0 ι0 m0 w0 Z d1 a1 (m ++ objs) (f1 ++ f) S T ι w a' := by
  refine ⟨h.closed, h.zs, fun i hi => hd i (h.sub i hi), h.ja.later h.sub hk, h.act, h.mem.extend objs, h.step.extend h.mem.dom objs, ?_⟩
  intro x hx hn
  rcases List.mem_append.1 hx with hx | hx
  · cases hi : ι x.id with
    | none => rfl
    | some y => have := h.mem.dom _ _ hi; have := hf x hx; omega
  · exact h.hole x hx hn

theorem astages_sound (hz : ZeroOk P) (hxt : ExternOk P) {call : CallF} (hc : CallOk P call) (hs : Slots ops) {a0 : Act} {ι0 : Iota} {m0 : AMem} {w0 : World} {all : List Nat} {Q : Exit → Act → World → Prop} :
    ∀ (es : List Nat) (j : Nat) (done : List Nat) (a : Act) (m : AMem) (q : List Obl) (f : List Fre) (x : AExit) (ar : Act) (mr : AMem), astages P call ops (bef ops) all j es done a m q f = some (x, ar, mr) →
    (∀ e a'' w'', ExitPost P ι0 m0 w0 x ar mr e a'' w'' → Q e a'' w'') → ∀ (Z : Nat → Prop), Can P ops a0 m0.length Z done a m.length q f →
    ∀ (fuel : Nat) (listed : Array Bool) (ι : Iota) (w : World) (a' T : Act), listed.size = ops.size → left ops listed ≤ fuel → Inv P ops a0 ι0 m0 w0 Z done a m f (fun j => listed.getD j false = true) T ι w a' → wpAny P .any ops Q fuel listed a' w
  | [], j, done, a, m, q, f, x, ar, mr, he, hQ, Z, hcan, fuel, listed, ι, w, a', T, hl, hle, hinv => by
    unfold astages at he
    split at he
    · rename_i d1 a1 m1 q1 f1 hseg
      split at he
      · rename_i hcond
        simp only [Option.some.injEq, Prod.mk.injEq] at he
        obtain ⟨rfl, rfl, rfl⟩ := he
        simp only [Bool.and_eq_true] at hcond
        obtain ⟨⟨hq, hf⟩, hall⟩ := hcond
        obtain ⟨g1, ⟨objs, rfl⟩, g3, g4, g5⟩ := aseg_can hs _ _ _ _ _ _ _ _ _ hseg q f hcan
        have hin : ∀ i, i < ops.size → i ∈ d1 := by
          intro i hi
          have := List.all_eq_true.1 hall i (by simpa using hi)
          simpa using this
        refine stage_sound hz hxt hs g1 hq hf ?_ ?_ fuel listed ι w a' T hl hle (hinv.grow objs g3 g4 g5)
        · intro fuel listed ι w a' T i o _ _ _ hn ho _
          exact absurd (hin i (Array.getElem?_eq_some_iff.1 ho).1) hn
        · intro ι w a' T S hi hS _
          refine hQ _ _ _ ⟨ι, hi.mem, hi.step, rfl, ?_⟩
          have e : ∀ (t : Nat), T.tmps[t]? = a1.tmps[t]? := by
            intro t
            by_cases hw : ∃ (k : Nat) (o' : Oper), ops[k]? = some o' ∧ o'.dst = some t
            · obtain ⟨k, o', hk, hd⟩ := hw
              exact hi.ja.ins k o' t (hS k (hin k (Array.getElem?_eq_some_iff.1 hk).1)) hk hd
            · have h1 : ∀ (X : Nat → Prop) k o2, X k → ops[k]? = some o2 → o2.dst ≠ some t := fun X k o2 _ ho2 hd2 => hw ⟨k, o2, ho2, hd2⟩
              rw [hi.ja.outs t (h1 S), g1.ja.outs t (h1 (· ∈ d1))]
          refine ⟨by rw [g1.ja.size, ← hi.ja.size]; exact hi.act.size, fun t v v' hv hv' => hi.act.slot t v v' (by rw [e]; exact hv) hv', by rw [g1.ja.defs, ← hi.ja.defs]; exact hi.act.dlen, fun i d d' hd hd' => hi.act.defer i d d' (by rw [hi.ja.defs, ← g1.ja.defs]; exact hd) hd'⟩
      · cases he
    · cases he
  | e :: es, j, done, a, m, q, f, x, ar, mr, he, hQ, Z, hcan, fuel, listed, ι, w, a', T, hl, hle, hinv => by
    unfold astages at he
    split at he
    · rename_i d1 a1 m1 q1 f1 hseg
      split at he
      · rename_i hcond
        simp only [Bool.and_eq_true] at hcond
        obtain ⟨⟨hq, hf⟩, hall⟩ := hcond
        obtain ⟨g1, ⟨objs, rfl⟩, g3, g4, g5⟩ := aseg_can hs _ _ _ _ _ _ _ _ _ hseg q f hcan
        split at he
        · rename_i oe hoe
          split at he
          · rename_i hcond2
            simp only [Bool.and_eq_true, Bool.not_eq_true', List.contains_eq_mem, decide_eq_false_iff_not] at hcond2
            obtain ⟨hpe, hed⟩ := hcond2
            have hpe := predsIn_spec hoe hpe
            have helt := (Array.getElem?_eq_some_iff.1 hoe).1
            have hhigh : ∀ x ∈ f1 ++ f, x.id < (m ++ objs).length := fun x hx => let ⟨_, _, _, _, _, hf⟩ := g1.fok x hx; hf.high
            refine stage_sound hz hxt hs g1 hq hf ?_ ?_ fuel listed ι w a' T hl hle (hinv.grow objs g3 g4 g5)
            · intro fuel listed ι w a' T i o hl hle hinv hn ho hpS
              have hnS : ¬ listed.getD i false = true := fun h => hn (hinv.sub i h)
              have hil := (Array.getElem?_eq_some_iff.1 ho).1
              have hie : i = e := by
                have := List.all_eq_true.1 hall i (by simpa using hil)
                simp only [Bool.or_eq_true, beq_iff_eq, List.contains_eq_mem, decide_eq_true_eq] at this
                rcases this with (h | h) | h
                · exact absurd h hn
                · exact h
                · exact absurd (hinv.sub e (preds_bit hinv.closed i e hil hpS h)) hed
              subst hie
              rw [hoe] at ho; simp at ho; subst ho
              have hag := agree_of hs hoe g1.chain.closed hinv.closed hed hnS hpe hpS g1.ja hinv.ja
              unfold wpOp
              rw [hoe]
              simp only
              have hiff := set_iff (listed := listed) (i := i) (by omega)
              have hleft := left_set hil hl hnS
              split at he
              · rename_i a2 m2 hst
                obtain ⟨v, rfl, hst'⟩ := (astep_agree call hag _ (fun c => hs.def_ i oe c hoe) hst).1 rfl
                have key := astep_sound hz hxt hc hst' hinv.mem hinv.act (K := wpAny P .any ops Q fuel (listed.setIfInBounds i true)) (Q := Q) ?_ (fun _ _ _ hne _ => absurd rfl hne)
                · split at key
                  · rename_i hwt; rw [if_pos hwt]; exact .inl key
                  · rename_i hwt; rw [if_neg hwt]; exact key
                intro _ a'' w'' hp
                obtain ⟨ι', k1, k2, _, k4⟩ := hp
                have hkeep := Keeps.put hs (C := (· ∈ d1)) (a := a1) hoe hed v
                have hsub : ∀ j, j ∈ d1 → j ∈ i :: d1 := fun j hj => List.mem_cons_of_mem _ hj
                refine astages_sound (a0 := a0) hz hxt hc hs es (j + 1) (i :: d1) _ m2 _ _ x ar mr he hQ (fun k => k = i ∨ Z k ∨ (k < ops.size ∧ bit (bef ops) i k = true)) ?_ fuel (listed.setIfInBounds i true) ι' w'' a'' (T.put oe.dst v) (by simpa using hl) (by omega) ?_
                · refine ⟨⟨hil, hed, hpe, g1.chain⟩, ?_, ?_, ?_, ?_, ?_, ?_⟩
                  · rw [mem_cons_fun]; exact g1.ja.self hoe _
                  · intro y hy
                    obtain ⟨C, o', hqk⟩ := g1.qok y (List.mem_filter.1 hy).1
                    exact ⟨C, o', hqk.later hkeep hsub⟩
                  · intro y hy
                    obtain ⟨C, o', b, u, mb, hfk⟩ := g1.fok y (List.mem_filter.1 hy).1
                    exact ⟨C, o', b, u, mb, hfk.later hkeep hsub k2.len⟩
                  · intro k hk
                    rcases List.mem_cons.1 hk with rfl | hk
                    · exact .inl (.inl rfl)
                    · rcases g1.cover k hk with h | ⟨y, hy, rfl⟩ | ⟨y, hy, rfl⟩
                      · exact .inl (.inr (.inl h))
                      · cases hb : bit (bef ops) i y.i
                        · exact .inr (.inl ⟨y, List.mem_filter.2 ⟨hy, by simp [hb]⟩, rfl⟩)
                        · exact .inl (.inr (.inr ⟨g1.chain.lt _ hk, by first | exact hb | rfl⟩))
                      · cases hb : bit (bef ops) i y.i
                        · exact .inr (.inr ⟨y, List.mem_filter.2 ⟨hy, by simp [hb]⟩, rfl⟩)
                        · exact .inl (.inr (.inr ⟨g1.chain.lt _ hk, by first | exact hb | rfl⟩))
                  · intro y hy z hz
                    exact g1.uniq y (List.mem_filter.1 hy).1 z (List.mem_filter.1 hz).1
                  · exact Nat.le_trans g1.len k2.len
                · have hclosed : Closed ops (fun j => listed.getD j false = true ∨ j = i) := hinv.closed.add hpS
                  refine ⟨hclosed.congr fun j => (hiff j).symm, ?_, ?_, ?_, k4, k1, hinv.step.trans k2, ?_⟩
                  · rintro k (rfl | h | ⟨hk, h⟩)
                    · exact (hiff _).2 (.inr rfl)
                    · exact (hiff _).2 (.inl (hinv.zs k h))
                    · exact (hiff _).2 (closed_bit hclosed hil (.inr rfl) h)
                  · intro k hk
                    rcases (hiff k).1 hk with h | rfl
                    · exact hsub k (hinv.sub k h)
                    · exact List.mem_cons_self
                  · have hT2 : JA ops a0 (a1.put oe.dst v) (fun j => listed.getD j false = true) T := hinv.ja.later hinv.sub hkeep
                    refine (hT2.put hoe (put_slot g1.ja.size _ _) ?_).congr fun j => (hiff j).symm
                    cases hd : oe.dst <;> simp [Act.put, g1.ja.size]
                  · intro y hy hny
                    have hy' := (List.mem_filter.1 hy).1
                    exact k2.holes (S := fun j => listed.getD j false = true) hhigh hinv.hole y hy' (fun h => hny ((hiff _).2 (.inl h)))
              · rename_i v a2 m2 hst
                simp only [Option.some.injEq, Prod.mk.injEq] at he
                obtain ⟨rfl, rfl, rfl⟩ := he
                have hst' := (astep_agree call hag _ (fun c => hs.def_ i oe c hoe) hst).2 v rfl
                have hae : a2 = a1 := by
                  unfold astep at hst
                  repeat' split at hst
                  all_goals first
                    | (cases hst; done)
                    | (simp only [Option.some.injEq, Prod.mk.injEq] at hst; exact hst.2.1.symm)
                    | (simp at hst; done)
                subst hae
                have key := astep_sound hz hxt hc hst' hinv.mem hinv.act (K := wpAny P .any ops Q fuel (listed.setIfInBounds i true)) (Q := Q) (fun h => by cases h) ?_
                · split at key
                  · rename_i hwt; rw [if_pos hwt]; exact .inl key
                  · rename_i hwt; rw [if_neg hwt]; exact key
                intro ee a'' w'' _ hp
                obtain ⟨ι', k1, k2, k3, k4⟩ := hp
                exact hQ _ _ _ ⟨ι', k1, hinv.step.trans k2, k3, junkAll_rel g1.ja hinv.ja k4⟩
              · cases he
            · intro ι w a' T S hi hS hno
              exact absurd (hpe.mono hS) (hno e helt hed)
          · cases he
        · cases he
      · cases he
    · cases he

theorem aregion_sound (hz : ZeroOk P) (hxt : ExternOk P) (hm : P.follows .mixedOrders = true) {call : CallF} (hc : CallOk P call) {id : Nat} {draw : Bool} {a a1 : Act} {m m1 : AMem} {x : AExit} (he : aregion P call ops draw a m = some (x, a1, m1))
    {ι : Iota} {w : World} {a' : Act} (h : MRel P ι m w) (ha : ARel ι a a') : (Code.region id ops draw).wp P (ExitPost P ι m w x a1 m1) a' w := by
  unfold aregion at he
  split at he
  · rename_i hd
    subst hd
    split at he
    · rename_i hok
      have hs := slots_of hok
      refine wp_region_any hm ?_
      have hno : ∀ j, ¬ (Array.replicate ops.size false).getD j false = true := by
        intro j
        simp only [Array.getD_eq_getD_getElem?, Array.getElem?_replicate]
        split <;> simp
      refine astages_sound (ι0 := ι) (m0 := m) (w0 := w) (a0 := a) hz hxt hc hs _ 0 [] a m [] [] x a1 m1 he (fun _ _ _ h => h) (fun _ => False) ?_ ops.size _ ι _ a' a (by simp) ?_ ?_
      · exact ⟨trivial, ⟨rfl, fun i o t _ _ _ => rfl, fun _ _ => rfl, rfl⟩, (by simp), (by simp), (by simp), (by simp), Nat.le_refl _⟩
      · unfold left
        refine Nat.le_trans List.countP_le_length ?_
        simp
      · exact ⟨fun i hi => absurd hi (hno i), fun i hi => hi.elim, fun i hi => absurd hi (hno i), ⟨rfl, fun i o t hi => absurd hi (hno i), fun _ _ => rfl, rfl⟩, ha, h.drew _, Step.drew _, fun x hx => by cases hx⟩
    · cases he
  · rename_i hd
    have hd : draw = false := by simpa using hd
    subst hd
    exact wp_region_list (alist_sound hz hxt hc _ _ _ _ _ _ he ι w a' _ h ha (fun _ _ _ h => h))

end
end Go.Abs
