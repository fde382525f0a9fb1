/- The abstract machine, 18: the canonical run of a stage. -/
import Derived.Test.YteajocebbmfdmaaGreatDoorAbsQ
namespace Go.Abs
section
variable {P : Program} {ops : Array Oper}

def Chain (ops : Array Oper) : List Nat → Prop
  | [] => True
  | i :: rest => i < ops.size ∧ i ∉ rest ∧ Preds ops i (· ∈ rest) ∧ Chain ops rest

theorem Preds.mono {i : Nat} {S S' : Nat → Prop} (h : Preds ops i S) (hs : ∀ j, S j → S' j) : Preds ops i S' := fun o ho e he hb => hs _ (h o ho e he hb)

theorem Chain.closed : ∀ {l : List Nat}, Chain ops l → Closed ops (· ∈ l)
  | [], _ => fun i hi => by cases hi
  | i :: rest, h => by
    intro j hj
    rcases List.mem_cons.1 hj with rfl | hj
    · exact h.2.2.1.mono fun k hk => List.mem_cons_of_mem _ hk
    · exact (Chain.closed h.2.2.2 j hj).mono fun k hk => List.mem_cons_of_mem _ hk

theorem Chain.lt : ∀ {l : List Nat}, Chain ops l → ∀ i ∈ l, i < ops.size
  | [], _, i, hi => by cases hi
  | i :: rest, h, j, hj => by
    rcases List.mem_cons.1 hj with rfl | hj
    · exact h.1
    · exact Chain.lt h.2.2.2 j hj

theorem Chain.next {S : Nat → Prop} : ∀ {l : List Nat}, Chain ops l → (∃ i ∈ l, ¬ S i) → ∃ i ∈ l, ¬ S i ∧ Preds ops i S
  | [], _, ⟨i, hi, _⟩ => by cases hi
  | i :: rest, h, hex => by
    by_cases hr : ∃ j ∈ rest, ¬ S j
    · obtain ⟨j, hj, h1, h2⟩ := Chain.next h.2.2.2 hr
      exact ⟨j, List.mem_cons_of_mem _ hj, h1, h2⟩
    · have hall : ∀ j ∈ rest, S j := fun j hj => Classical.byContradiction fun hn => hr ⟨j, hj, hn⟩
      obtain ⟨j, hj, hn⟩ := hex
      rcases List.mem_cons.1 hj with rfl | hj
      · exact ⟨j, List.mem_cons_self, hn, h.2.2.1.mono hall⟩
      · exact absurd (hall j hj) hn

theorem predsIn_spec {i : Nat} {o : Oper} {done : List Nat} (ho : ops[i]? = some o) (h : predsIn o done = true) : Preds ops i (· ∈ done) := by
  intro o' ho' e he hb
  rw [ho] at ho'; simp at ho'; subst ho'
  unfold predsIn at h
  rw [List.all_eq_true] at h
  have := h e (by simpa using he)
  simpa [hb] using this

structure QOk (P : Program) (ops : Array Oper) (a0 ac : Act) (D : Nat → Prop) (q : Obl) (C : Nat → Prop) (o : Oper) : Prop where
  closed : Closed ops C
  out : ¬ C q.i
  preds : Preds ops q.i C
  sub : ∀ j, C j → D j
  self : D q.i
  ja : JA ops a0 ac C q.a
  get : ops[q.i]? = some o
  kind : okind o.op = 0
  slot : ∀ t, o.dst = some t → t < a0.tmps.size → ac.tmps[t]? = some (q.v.getD undef)
  want : awanted ops o q.a = some q.v.isSome
  still : ∀ v, q.v = some v → needs o.op = false → ∀ m, aop P q.a o m = some (.val v, m)

structure FOk (P : Program) (ops : Array Oper) (a0 ac : Act) (n0 n : Nat) (D : Nat → Prop) (f : Fre) (C : Nat → Prop) (o : Oper) (b : Act) (v : Value) (mb : AMem) : Prop where
  closed : Closed ops C
  out : ¬ C f.i
  preds : Preds ops f.i C
  sub : ∀ j, C j → D j
  self : D f.i
  ja : JA ops a0 ac C b
  get : ops[f.i]? = some o
  kind : okind o.op = 1
  slot : ∀ t, o.dst = some t → t < a0.tmps.size → ac.tmps[t]? = some v
  want : awanted ops o b = some true
  made : aop P b o mb = some (.val v, mb ++ [f.o])
  id : mb.length = f.id
  low : n0 ≤ f.id
  high : f.id < n

theorem QOk.later {a0 ac ac' : Act} {D D' : Nat → Prop} {q : Obl} {C : Nat → Prop} {o : Oper} (h : QOk P ops a0 ac D q C o) (hk : Keeps ops D ac ac') (hs : ∀ j, D j → D' j) : QOk P ops a0 ac' D' q C o :=
  ⟨h.closed, h.out, h.preds, fun j hj => hs j (h.sub j hj), hs _ h.self, h.ja.later h.sub hk, h.get, h.kind, fun t ht hlt => (hk q.i o t h.self h.get ht).trans (h.slot t ht hlt), h.want, h.still⟩

theorem FOk.later {a0 ac ac' : Act} {n0 n n' : Nat} {D D' : Nat → Prop} {f : Fre} {C : Nat → Prop} {o : Oper} {b : Act} {v : Value} {mb : AMem} (h : FOk P ops a0 ac n0 n D f C o b v mb) (hk : Keeps ops D ac ac') (hs : ∀ j, D j → D' j) (hn : n ≤ n') :
    FOk P ops a0 ac' n0 n' D' f C o b v mb :=
  ⟨h.closed, h.out, h.preds, fun j hj => hs j (h.sub j hj), hs _ h.self, h.ja.later h.sub hk, h.get, h.kind, fun t ht hlt => (hk f.i o t h.self h.get ht).trans (h.slot t ht hlt), h.want, h.made, h.id, h.low, Nat.lt_of_lt_of_le h.high hn⟩

structure Can (P : Program) (ops : Array Oper) (a0 : Act) (n0 : Nat) (Z : Nat → Prop) (done : List Nat) (a : Act) (n : Nat) (q : List Obl) (f : List Fre) : Prop where
  chain : Chain ops done
  ja : JA ops a0 a (· ∈ done) a
  qok : ∀ x ∈ q, ∃ C o, QOk P ops a0 a (· ∈ done) x C o
  fok : ∀ x ∈ f, ∃ C o b v mb, FOk P ops a0 a n0 n (· ∈ done) x C o b v mb
  cover : ∀ i ∈ done, Z i ∨ (∃ x ∈ q, x.i = i) ∨ (∃ x ∈ f, x.i = i)
  uniq : ∀ x ∈ f, ∀ y ∈ f, x.id = y.id → x.i = y.i
  len : n0 ≤ n

theorem Can.same {a0 a : Act} {n0 n : Nat} {Z : Nat → Prop} {done : List Nat} {q q' : List Obl} {f f' : List Fre} (h : Can P ops a0 n0 Z done a n q f) (hq : ∀ x, x ∈ q ↔ x ∈ q') (hf : ∀ x, x ∈ f ↔ x ∈ f') : Can P ops a0 n0 Z done a n q' f' :=
  ⟨h.chain, h.ja, fun x hx => h.qok x ((hq x).2 hx), fun x hx => h.fok x ((hf x).2 hx), fun i hi => (h.cover i hi).imp id fun h => h.imp (fun ⟨x, a, b⟩ => ⟨x, (hq x).1 a, b⟩) (fun ⟨x, a, b⟩ => ⟨x, (hf x).1 a, b⟩),
    fun x hx y hy => h.uniq x ((hf x).2 hx) y ((hf y).2 hy), h.len⟩

theorem mem_cons_fun (i : Nat) (done : List Nat) : (fun j => j ∈ i :: done) = (fun j => j ∈ done ∨ j = i) := by
  funext j; simp [or_comm]

theorem put_slot {a0 a : Act} (hsz : a.tmps.size = a0.tmps.size) (dst : Option Tmp) (v : Value) : ∀ t, dst = some t → t < a0.tmps.size → (a.put dst v).tmps[t]? = some v := by
  intro t ht hlt
  have hlt2 : t < a.tmps.size := by rw [hsz]; exact hlt
  rw [put_get, if_pos ht, if_pos hlt2]

theorem Can.quiet (hs : Slots ops) {a0 a : Act} {n0 n : Nat} {Z : Nat → Prop} {done : List Nat} {q : List Obl} {f : List Fre} (h : Can P ops a0 n0 Z done a n q f) {i : Nat} {o : Oper} (ho : ops[i]? = some o) (hi : i ∉ done) (hp : Preds ops i (· ∈ done))
    (hk : okind o.op = 0) {vo : Option Value} (hw : awanted ops o a = some vo.isSome) (hst : ∀ v, vo = some v → needs o.op = false → ∀ m, aop P a o m = some (.val v, m)) :
    Can P ops a0 n0 Z (i :: done) (a.put o.dst (vo.getD undef)) n (⟨i, a, vo⟩ :: q) f ∧ Keeps ops (· ∈ done) a (a.put o.dst (vo.getD undef)) := by
  have hkeep := Keeps.put hs (C := (· ∈ done)) (a := a) ho hi (vo.getD undef)
  have hsub : ∀ j, j ∈ done → j ∈ i :: done := fun j hj => List.mem_cons_of_mem _ hj
  refine ⟨⟨⟨(Array.getElem?_eq_some_iff.1 ho).1, hi, hp, h.chain⟩, ?_, ?_, ?_, ?_, h.uniq, h.len⟩, hkeep⟩
  · rw [mem_cons_fun]; exact h.ja.self ho _
  · intro x hx
    rcases List.mem_cons.1 hx with rfl | hx
    · exact ⟨(· ∈ done), o, h.chain.closed, hi, hp, hsub, List.mem_cons_self, h.ja.later (fun _ hj => hj) hkeep, ho, hk, put_slot h.ja.size _ _, hw, hst⟩
    · obtain ⟨C, o', hq⟩ := h.qok x hx
      exact ⟨C, o', hq.later hkeep hsub⟩
  · intro x hx
    obtain ⟨C, o', b, v, mb, hf⟩ := h.fok x hx
    exact ⟨C, o', b, v, mb, hf.later hkeep hsub (Nat.le_refl _)⟩
  · intro j hj
    rcases List.mem_cons.1 hj with rfl | hj
    · exact .inr (.inl ⟨_, List.mem_cons_self, rfl⟩)
    · exact (h.cover j hj).imp id fun h => h.imp (fun ⟨x, a, b⟩ => ⟨x, List.mem_cons_of_mem _ a, b⟩) id

theorem Can.fresh (hs : Slots ops) {a0 a : Act} {n0 : Nat} {m : AMem} {Z : Nat → Prop} {done : List Nat} {q : List Obl} {f : List Fre} (h : Can P ops a0 n0 Z done a m.length q f) {i : Nat} {o : Oper} (ho : ops[i]? = some o) (hi : i ∉ done) (hp : Preds ops i (· ∈ done))
    (hk : okind o.op = 1) {v : Value} {O : AObj} (hw : awanted ops o a = some true) (hm : aop P a o m = some (.val v, m ++ [O])) :
    Can P ops a0 n0 Z (i :: done) (a.put o.dst v) (m ++ [O]).length q (⟨i, m.length, O⟩ :: f) ∧ Keeps ops (· ∈ done) a (a.put o.dst v) := by
  have hkeep := Keeps.put hs (C := (· ∈ done)) (a := a) ho hi v
  have hsub : ∀ j, j ∈ done → j ∈ i :: done := fun j hj => List.mem_cons_of_mem _ hj
  have hhigh : ∀ x ∈ f, x.id < m.length := fun x hx => let ⟨_, _, _, _, _, hf⟩ := h.fok x hx; hf.high
  refine ⟨⟨⟨(Array.getElem?_eq_some_iff.1 ho).1, hi, hp, h.chain⟩, ?_, ?_, ?_, ?_, ?_, by have := h.len; simp; omega⟩, hkeep⟩
  · rw [mem_cons_fun]; exact h.ja.self ho _
  · intro x hx
    obtain ⟨C, o', hq⟩ := h.qok x hx
    exact ⟨C, o', hq.later hkeep hsub⟩
  · intro x hx
    rcases List.mem_cons.1 hx with rfl | hx
    · exact ⟨(· ∈ done), o, a, v, m, h.chain.closed, hi, hp, hsub, List.mem_cons_self, h.ja.later (fun _ hj => hj) hkeep, ho, hk, put_slot h.ja.size _ _, hw, hm, rfl, h.len, by simp⟩
    · obtain ⟨C, o', b, v', mb, hf⟩ := h.fok x hx
      exact ⟨C, o', b, v', mb, hf.later hkeep hsub (by simp)⟩
  · intro j hj
    rcases List.mem_cons.1 hj with rfl | hj
    · exact .inr (.inr ⟨_, List.mem_cons_self, rfl⟩)
    · exact (h.cover j hj).imp id fun h => h.imp id (fun ⟨x, a, b⟩ => ⟨x, List.mem_cons_of_mem _ a, b⟩)
  · intro x hx y hy he
    rcases List.mem_cons.1 hx with rfl | hx
    · rcases List.mem_cons.1 hy with rfl | hy
      · rfl
      · have := hhigh y hy; simp at he; omega
    · rcases List.mem_cons.1 hy with rfl | hy
      · have := hhigh x hx; simp at he; omega
      · exact h.uniq x hx y hy he

theorem aseg_can (hs : Slots ops) {a0 : Act} {n0 : Nat} {Z : Nat → Prop} : ∀ (is done : List Nat) (a : Act) (m : AMem) (d1 : List Nat) (a1 : Act) (m1 : AMem) (q1 : List Obl) (f1 : List Fre), aseg P ops is done a m = some (d1, a1, m1, q1, f1) →
    ∀ (q : List Obl) (f : List Fre), Can P ops a0 n0 Z done a m.length q f →
      Can P ops a0 n0 Z d1 a1 m1.length (q1 ++ q) (f1 ++ f) ∧ (∃ objs, m1 = m ++ objs) ∧ (∀ x ∈ f1, m.length ≤ x.id) ∧ (∀ i ∈ done, i ∈ d1) ∧ Keeps ops (· ∈ done) a a1
  | [], done, a, m, d1, a1, m1, q1, f1, he, q, f, h => by
    simp only [aseg, Option.some.injEq, Prod.mk.injEq] at he
    obtain ⟨rfl, rfl, rfl, rfl, rfl⟩ := he
    exact ⟨h, ⟨[], by simp⟩, by simp, fun i hi => hi, Keeps.refl _ _ _⟩
  | i :: is, done, a, m, d1, a1, m1, q1, f1, he, q, f, h => by
    unfold aseg at he
    have hsub : ∀ j, j ∈ done → j ∈ i :: done := fun j hj => List.mem_cons_of_mem _ hj
    have hquiet : ∀ (o : Oper) (vo : Option Value) (q2 : List Obl), ops[i]? = some o → predsIn o done = true → i ∉ done → okind o.op = 0 → awanted ops o a = some vo.isSome →
        (∀ v, vo = some v → needs o.op = false → ∀ m, aop P a o m = some (.val v, m)) → aseg P ops is (i :: done) (a.put o.dst (vo.getD undef)) m = some (d1, a1, m1, q2, f1) → q1 = ⟨i, a, vo⟩ :: q2 →
        Can P ops a0 n0 Z d1 a1 m1.length (q1 ++ q) (f1 ++ f) ∧ (∃ objs, m1 = m ++ objs) ∧ (∀ x ∈ f1, m.length ≤ x.id) ∧ (∀ i ∈ done, i ∈ d1) ∧ Keeps ops (· ∈ done) a a1 := by
      intro o vo q2 ho hp hn hk hw hst hr hq
      subst hq
      obtain ⟨hc, hkp⟩ := h.quiet hs ho hn (predsIn_spec ho hp) hk hw hst
      obtain ⟨g1, g2, g3, g4, g5⟩ := aseg_can hs is _ _ _ _ _ _ _ _ hr _ f hc
      exact ⟨g1.same (fun x => by simp only [List.mem_append, List.mem_cons, List.cons_append]; constructor <;> rintro (h | h | h) <;> simp [h]) (fun _ => Iff.rfl), g2, g3, fun j hj => g4 j (hsub j hj), hkp.trans hsub g5⟩
    split at he
    · cases he
    · rename_i o ho
      split at he
      · rename_i hcond
        simp only [Bool.and_eq_true, Bool.not_eq_true', List.contains_eq_mem, decide_eq_false_iff_not] at hcond
        obtain ⟨hp, hn⟩ := hcond
        split at he
        · cases he
        · rename_i hw
          split at he
          · rename_i hk
            split at he
            · rename_i d2 a2 m2 q2 f2 hr
              simp only [Option.some.injEq, Prod.mk.injEq] at he
              obtain ⟨rfl, rfl, rfl, rfl, rfl⟩ := he
              exact hquiet o none q2 ho hp hn (by simpa using hk) hw (fun v e => by cases e) hr rfl
            · cases he
          · cases he
        · rename_i hw
          split at he
          · rename_i v m' hop
            split at he
            · rename_i hk
              have hk0 : okind o.op = 0 := by simpa using hk
              split at he
              · rename_i d2 a2 m2 q2 f2 hr
                simp only [Option.some.injEq, Prod.mk.injEq] at he
                obtain ⟨rfl, rfl, rfl, rfl, rfl⟩ := he
                exact hquiet o (some v) q2 ho hp hn hk0 hw (fun u e hne m2 => by simp at e; subst e; exact aop_still hk0 hne hop m2) hr rfl
              · cases he
            · split at he
              · rename_i hk
                have hk1 : okind o.op = 1 := by simpa using hk
                split at he
                · rename_i x d2 a2 m2 q2 f2 hx hr
                  simp only [Option.some.injEq, Prod.mk.injEq] at he
                  obtain ⟨rfl, rfl, rfl, rfl, rfl⟩ := he
                  obtain ⟨O, rfl⟩ := aop_fresh hk1 hop
                  simp at hx; subst hx
                  obtain ⟨hc, hkp⟩ := h.fresh hs ho hn (predsIn_spec ho hp) hk1 hw hop
                  obtain ⟨g1, ⟨objs, g2⟩, g3, g4, g5⟩ := aseg_can hs is _ _ _ _ _ _ _ _ hr q _ hc
                  refine ⟨g1.same (fun _ => Iff.rfl) (fun x => by simp only [List.mem_append, List.mem_cons, List.cons_append]; constructor <;> rintro (h | h | h) <;> simp [h]), ⟨O :: objs, by rw [g2]; simp⟩, ?_, fun j hj => g4 j (hsub j hj), hkp.trans hsub g5⟩
                  intro y hy
                  rcases List.mem_cons.1 hy with rfl | hy
                  · exact Nat.le_refl _
                  · have := g3 y hy; simp at this; omega
                · cases he
              · cases he
          · cases he
      · cases he

end
end Go.Abs
