/- The quick machine, 4: it answers as the abstract machine: regions, code, calls. -/
import Derived.Test.YteajocebbmfdmaaGreatDoorFastC
namespace Go.Abs
section
variable {P : Program}

def CallRef (call : FCallF) (call' : CallF) : Prop := ∀ (f : FuncId) (args : Array Value) (m : FMem) (r : AEnd) (m' : FMem), call f args m = some (r, m') → call' f args m.toL = some (r, m'.toL)

theorem fwanted_eq (ops : Array Oper) (o : Oper) (a : FAct) : fwanted ops o a = awanted ops o a.toA := by
  unfold fwanted awanted
  simp only [FAct.toA_get]
  rfl

theorem fstep_ref {call : FCallF} {call' : CallF} (hc : CallRef call call') {ops : Array Oper} {o : Oper} {a a1 : FAct} {m m1 : FMem} {x : AExit} (h : fstep P call ops o a m = some (x, a1, m1)) : astep P call' ops o a.toA m.toL = some (x, a1.toA, m1.toL) := by
  unfold fstep at h
  unfold astep
  rw [fwanted_eq] at h
  split at h
  · rename_i hw
    simp only [Option.some.injEq, Prod.mk.injEq] at h; obtain ⟨rfl, rfl, rfl⟩ := h
    rw [hw, FAct.toA_put]
  · rename_i hw
    rw [hw]
    simp only
    unfold fcalled at h
    split at h
    · rename_i v m' hop
      simp only [Option.some.injEq, Prod.mk.injEq] at h; obtain ⟨rfl, rfl, rfl⟩ := h
      rw [fop_ref _ _ _ _ _ hop, FAct.toA_put]
    · rename_i m' hop
      simp only [Option.some.injEq, Prod.mk.injEq] at h; obtain ⟨rfl, rfl, rfl⟩ := h
      rw [fop_ref _ _ _ _ _ hop, FAct.toA_put]
    · rename_i d m' hop
      simp only [Option.some.injEq, Prod.mk.injEq] at h; obtain ⟨rfl, rfl, rfl⟩ := h
      rw [fop_ref _ _ _ _ _ hop, FAct.toA_put]
      rfl
    · rename_i f args m' hop
      rw [fop_ref _ _ _ _ _ hop]
      simp only
      split at h
      · rename_i v m2 hcall
        simp only [Option.some.injEq, Prod.mk.injEq] at h; obtain ⟨rfl, rfl, rfl⟩ := h
        rw [hc _ _ _ _ _ hcall, FAct.toA_put]
      · rename_i v m2 hcall
        simp only [Option.some.injEq, Prod.mk.injEq] at h; obtain ⟨rfl, rfl, rfl⟩ := h
        rw [hc _ _ _ _ _ hcall]
      · cases h
    · rename_i v m' hop
      simp only [Option.some.injEq, Prod.mk.injEq] at h; obtain ⟨rfl, rfl, rfl⟩ := h
      rw [fop_ref _ _ _ _ _ hop]
    · cases h
    · cases h
  · cases h

theorem flist_ref {call : FCallF} {call' : CallF} (hc : CallRef call call') {ops : Array Oper} : ∀ (l : List Oper) (a a1 : FAct) (m m1 : FMem) (x : AExit), flist P call ops l a m = some (x, a1, m1) → alist P call' ops l a.toA m.toL = some (x, a1.toA, m1.toL)
  | [], a, a1, m, m1, x, h => by
    simp only [flist, Option.some.injEq, Prod.mk.injEq] at h; obtain ⟨rfl, rfl, rfl⟩ := h; rfl
  | o :: rest, a, a1, m, m1, x, h => by
    unfold flist at h
    unfold alist
    split at h
    · rename_i a2 m2 hs
      rw [fstep_ref hc hs]
      exact flist_ref hc rest _ _ _ _ _ h
    · rename_i hne
      rw [fstep_ref hc h]
      cases x with
      | normal => exact absurd h (hne _ _)
      | _ => rfl

noncomputable def FObl.toO (x : FObl) : Obl := ⟨x.i, x.a.toA, x.v⟩

theorem foblOk_ref {ops : Array Oper} {m : FMem} {q : FObl} (hq : ops[q.i]? = some q.o) (h : foblOk P m q = true) : oblOk P ops m.toL q.toO = true := by
  unfold foblOk at h
  unfold oblOk
  simp only [FObl.toO]
  cases hv : q.v with
  | none => rfl
  | some v =>
    rw [hv] at h
    simp only [hq, Bool.or_eq_true] at h ⊢
    rcases h with h | h
    · exact .inl h
    · right
      unfold fobl1 at h
      split at h
      · rename_i u m' hop
        rw [fop_ref _ _ _ _ _ hop]
        exact h
      · cases h

theorem ffreOk_eq (m : FMem) (f : Fre) : ffreOk m f = freOk m.toL f := by
  unfold ffreOk freOk
  rw [FMem.toL_get]
  rfl

theorem fseg_ref {ops : Array Oper} : ∀ (is done d1 : List Nat) (a a1 : FAct) (m m1 : FMem) (q1 : List FObl) (f1 : List Fre), planSeg ops is done = some d1 → fseg P ops (pairs ops is) a m = some (a1, m1, q1, f1) →
    aseg P ops is done a.toA m.toL = some (d1, a1.toA, m1.toL, q1.map FObl.toO, f1) ∧ ∀ x ∈ q1, ops[x.i]? = some x.o
  | [], done, d1, a, a1, m, m1, q1, f1, hp, h => by
    simp only [planSeg, Option.some.injEq] at hp; subst hp
    simp only [pairs, fseg, Option.some.injEq, Prod.mk.injEq] at h
    obtain ⟨rfl, rfl, rfl, rfl⟩ := h
    exact ⟨rfl, by simp⟩
  | i :: is, done, d1, a, a1, m, m1, q1, f1, hp, h => by
    unfold planSeg at hp
    unfold pairs at h
    unfold aseg
    split at hp
    · rename_i o ho
      simp only [ho] at h ⊢
      split at hp
      · rename_i hcond
        rw [if_pos hcond]
        unfold fseg at h
        rw [fwanted_eq] at h
        split at h
        · cases h
        · rename_i hw
          simp only [hw]
          split at h
          · rename_i hk
            rw [if_pos hk]
            split at h
            · rename_i a2 m2 q2 f2 hr
              simp only [Option.some.injEq, Prod.mk.injEq] at h
              obtain ⟨rfl, rfl, rfl, rfl⟩ := h
              obtain ⟨g1, g2⟩ := fseg_ref is _ _ _ _ _ _ _ _ hp hr
              rw [FAct.toA_put] at g1
              rw [g1]
              refine ⟨rfl, fun x hx => ?_⟩
              rcases List.mem_cons.1 hx with rfl | hx
              · exact ho
              · exact g2 x hx
            · cases h
          · cases h
        · rename_i hw
          simp only [hw]
          split at h
          · rename_i v m' hop
            rw [fop_ref _ _ _ _ _ hop]
            simp only
            split at h
            · rename_i hk
              rw [if_pos hk]
              split at h
              · rename_i a2 m2 q2 f2 hr
                simp only [Option.some.injEq, Prod.mk.injEq] at h
                obtain ⟨rfl, rfl, rfl, rfl⟩ := h
                obtain ⟨g1, g2⟩ := fseg_ref is _ _ _ _ _ _ _ _ hp hr
                rw [FAct.toA_put] at g1
                rw [g1]
                refine ⟨rfl, fun x hx => ?_⟩
                rcases List.mem_cons.1 hx with rfl | hx
                · exact ho
                · exact g2 x hx
              · cases h
            · rename_i hk
              rw [if_neg hk]
              split at h
              · rename_i hk1
                rw [if_pos hk1]
                split at h
                · rename_i x a2 m2 q2 f2 hx hr
                  simp only [Option.some.injEq, Prod.mk.injEq] at h
                  obtain ⟨rfl, rfl, rfl, rfl⟩ := h
                  obtain ⟨g1, g2⟩ := fseg_ref is _ _ _ _ _ _ _ _ hp hr
                  rw [FAct.toA_put] at g1
                  rw [← FMem.toL_get] at hx
                  rw [g1, FMem.toL_length, hx]
                  exact ⟨rfl, g2⟩
                · cases h
              · cases h
          · cases h
      · cases hp
    · cases hp

theorem fjunkAll_eq : ∀ (l : List Oper) (a : FAct), (fjunkAll l a).toA = junkAll l a.toA
  | [], a => rfl
  | o :: l, a => by
    have := fjunkAll_eq l (a.put o.dst junk)
    rw [FAct.toA_put] at this
    exact this

theorem all_obl {ops : Array Oper} {m : FMem} {q : List FObl} (hq : ∀ x ∈ q, ops[x.i]? = some x.o) (h : q.all (foblOk P m) = true) : (q.map FObl.toO).all (oblOk P ops m.toL) = true := by
  rw [List.all_eq_true] at h ⊢
  intro y hy
  obtain ⟨x, hx, rfl⟩ := List.mem_map.1 hy
  exact foblOk_ref (hq x hx) (h x hx)

theorem all_fre {m : FMem} {f : List Fre} (h : f.all (ffreOk m) = true) : f.all (freOk m.toL) = true := by
  rw [List.all_eq_true] at h ⊢
  intro y hy
  rw [← ffreOk_eq]; exact h y hy

theorem fstages_ref {call : FCallF} {call' : CallF} (hc : CallRef call call') {ops : Array Oper} {bs all : List Nat} : ∀ (es : List Nat) (j : Nat) (done : List Nat) (a a1 : FAct) (m m1 : FMem) (q : List FObl) (f : List Fre) (x : AExit),
    planOk ops bs all j es done = true → fstages P call ops (planOf ops bs all j es) a m q f = some (x, a1, m1) → (∀ y ∈ q, ops[y.i]? = some y.o) →
    astages P call' ops bs all j es done a.toA m.toL (q.map FObl.toO) f = some (x, a1.toA, m1.toL)
  | [], j, done, a, a1, m, m1, q, f, x, hp, h, hq => by
    unfold planOk at hp
    unfold planOf at h
    unfold fstages at h
    unfold astages
    split at hp
    · rename_i d1 hseg
      split at h
      · rename_i a2 m2 q1 f1 hs
        obtain ⟨g1, g2⟩ := fseg_ref _ _ _ _ _ _ _ _ _ hseg hs
        simp only [g1]
        split at h
        · rename_i hcond
          simp only [Option.some.injEq, Prod.mk.injEq] at h; obtain ⟨rfl, rfl, rfl⟩ := h
          simp only [Bool.and_eq_true] at hcond
          have hqa : ∀ y ∈ q1 ++ q, ops[y.i]? = some y.o := fun y hy => (List.mem_append.1 hy).elim (g2 y) (hq y)
          rw [← List.map_append, if_pos]
          rw [Bool.and_eq_true, Bool.and_eq_true]
          exact ⟨⟨all_obl hqa hcond.1, all_fre hcond.2⟩, hp⟩
        · cases h
      · cases h
    · cases hp
  | e :: es, j, done, a, a1, m, m1, q, f, x, hp, h, hq => by
    unfold planOk at hp
    unfold planOf at h
    unfold astages
    split at hp
    · rename_i d1 hseg
      simp only [Bool.and_eq_true] at hp
      obtain ⟨⟨hp1, hp2⟩, hp3⟩ := hp
      split at hp2
      · rename_i oe hoe
        simp only [hoe] at h ⊢
        unfold fstages at h
        split at h
        · rename_i a2 m2 q1 f1 hs
          obtain ⟨g1, g2⟩ := fseg_ref _ _ _ _ _ _ _ _ _ hseg hs
          simp only [g1]
          split at h
          · rename_i hcond
            simp only [Bool.and_eq_true] at hcond
            have hqa : ∀ y ∈ q1 ++ q, ops[y.i]? = some y.o := fun y hy => (List.mem_append.1 hy).elim (g2 y) (hq y)
            rw [← List.map_append, if_pos (by rw [Bool.and_eq_true, Bool.and_eq_true]; exact ⟨⟨all_obl hqa hcond.1, all_fre hcond.2⟩, hp1⟩), if_pos hp2]
            split at h
            · rename_i a3 m3 hst
              rw [fstep_ref hc hst]
              simp only
              have hqf : ∀ y ∈ (q1 ++ q).filter (fun x => !(bs.getD e 0).testBit x.i), ops[y.i]? = some y.o := fun y hy => hqa y (List.mem_filter.1 hy).1
              have := fstages_ref hc es (j + 1) (e :: d1) _ _ _ _ _ _ _ hp3 h hqf
              rw [List.filter_map]
              exact this
            · rename_i v a3 m3 hst
              rw [fstep_ref hc hst]
              simp only [Option.some.injEq, Prod.mk.injEq] at h; obtain ⟨rfl, rfl, rfl⟩ := h
              simp only [fjunkAll_eq]
            · cases h
          · cases h
        · cases h
      · cases hp2
    · cases hp

theorem fregion_ref {call : FCallF} {call' : CallF} (hc : CallRef call call') {ops : Array Oper} {draw : Bool} {a a1 : FAct} {m m1 : FMem} {x : AExit} (h : fregion P call ops draw a m = some (x, a1, m1)) : aregion P call' ops draw a.toA m.toL = some (x, a1.toA, m1.toL) := by
  unfold fregion at h
  unfold aregion
  split at h
  · rename_i hd
    rw [if_pos hd]
    split at h
    · rename_i hok
      unfold okRegion at hok
      rw [Bool.and_eq_true] at hok
      rw [if_pos hok.1]
      exact fstages_ref hc _ _ _ _ _ _ _ [] _ _ hok.2 h (by simp)
    · cases h
  · rename_i hd
    rw [if_neg hd]
    exact flist_ref hc _ _ _ _ _ _ h

theorem floopN_ref {body : FAct → FMem → Option (AExit × FAct × FMem)} {body' : Act → AMem → Option (AExit × Act × AMem)} (hb : ∀ a a1 m m1 x, body a m = some (x, a1, m1) → body' a.toA m.toL = some (x, a1.toA, m1.toL)) :
    ∀ (n : Nat) (a a1 : FAct) (m m1 : FMem) (x : AExit), floopN body n a m = some (x, a1, m1) → loopN body' n a.toA m.toL = some (x, a1.toA, m1.toL)
  | 0, _, _, _, _, _, h => by simp [floopN] at h
  | n + 1, a, a1, m, m1, x, h => by
    unfold floopN at h
    unfold loopN
    split at h
    · rename_i a2 m2 hs
      rw [hb _ _ _ _ _ hs]
      exact floopN_ref hb n _ _ _ _ _ h
    · rename_i hne
      rw [hb _ _ _ _ _ h]
      cases x with
      | normal => exact absurd h (hne _ _)
      | _ => rfl

theorem fcode_ref {L : Nat} {call : FCallF} {call' : CallF} (hc : CallRef call call') : ∀ (c : Code) (a a1 : FAct) (m m1 : FMem) (x : AExit), fcode P L call c a m = some (x, a1, m1) → acode P L call' c a.toA m.toL = some (x, a1.toA, m1.toL) := by
  intro c
  induction c with
  | skip =>
    intro a a1 m m1 x h
    simp only [fcode, Option.some.injEq, Prod.mk.injEq] at h; obtain ⟨rfl, rfl, rfl⟩ := h; rfl
  | region id ops draw =>
    intro a a1 m m1 x h
    exact fregion_ref hc h
  | seq y z ih1 ih2 =>
    intro a a1 m m1 x h
    unfold fcode at h
    unfold acode
    split at h
    · rename_i a2 m2 hs
      rw [ih1 _ _ _ _ _ hs]
      exact ih2 _ _ _ _ _ h
    · rename_i hne
      rw [ih1 _ _ _ _ _ h]
      cases x with
      | normal => exact absurd h (hne _ _)
      | _ => rfl
  | cond c y z ih1 ih2 =>
    intro a a1 m m1 x h
    unfold fcode at h
    unfold acode
    rw [fev_eq] at h
    split at h
    · rename_i hv
      rw [hv]; exact ih1 _ _ _ _ _ h
    · rename_i hv
      rw [hv]; exact ih2 _ _ _ _ _ h
    · cases h
  | block id b ih =>
    intro a a1 m m1 x h
    unfold fcode at h
    unfold acode
    split at h
    · rename_i i a2 m2 hs
      rw [ih _ _ _ _ _ hs]
      simp only
      split at h
      · rename_i hi
        rw [if_pos hi]
        simp only [Option.some.injEq, Prod.mk.injEq] at h; obtain ⟨rfl, rfl, rfl⟩ := h; rfl
      · rename_i hi
        rw [if_neg hi]
        simp only [Option.some.injEq, Prod.mk.injEq] at h; obtain ⟨rfl, rfl, rfl⟩ := h; rfl
    · rename_i hne
      rw [ih _ _ _ _ _ h]
      cases x with
      | exit i => exact absurd h (hne _ _ _)
      | _ => rfl
  | loop b ih =>
    intro a a1 m m1 x h
    unfold fcode at h
    exact floopN_ref (fun a a1 m m1 x => ih a a1 m m1 x) L _ _ _ _ _ h
  | exit id =>
    intro a a1 m m1 x h
    simp only [fcode, Option.some.injEq, Prod.mk.injEq] at h; obtain ⟨rfl, rfl, rfl⟩ := h; rfl
  | ret =>
    intro a a1 m m1 x h
    simp only [fcode, Option.some.injEq, Prod.mk.injEq] at h; obtain ⟨rfl, rfl, rfl⟩ := h; rfl
  | _ => intro a a1 m m1 x h; simp [fcode] at h

theorem flistS_ref {call : FCallF} {call' : CallF} (hc : CallRef call call') {ops : Array Oper} : ∀ (l : List Oper) (a a1 : FAct) (u u1 : AMode) (m m1 : FMem) (x : AExit), flistS P call ops l a u m = some (x, a1, u1, m1) → alistS P call' ops l a.toA u m.toL = some (x, a1.toA, u1, m1.toL)
  | [], a, a1, u, u1, m, m1, x, h => by
    simp only [flistS, Option.some.injEq, Prod.mk.injEq] at h; obtain ⟨rfl, rfl, rfl, rfl⟩ := h; rfl
  | o :: rest, a, a1, u, u1, m, m1, x, h => by
    unfold flistS at h
    unfold alistS
    split at h
    · rename_i args ats hop
      simp only [hop]
      rw [fwanted_eq] at h
      split at h
      · rename_i hargs
        rw [if_pos hargs]
        split at h
        · rename_i hw
          rw [hw]
          have := flistS_ref hc rest _ _ _ _ _ _ _ h
          rw [FAct.toA_put] at this
          exact this
        · rename_i hw
          rw [hw]
          simp only
          split at h
          · have := flistS_ref hc rest _ _ _ _ _ _ _ h
            rw [FAct.toA_put] at this
            exact this
          · rename_i hne
            have := flistS_ref hc rest _ _ _ _ _ _ _ h
            rw [FAct.toA_put] at this
            split
            · exact absurd rfl (hne _)
            · exact this
        · cases h
      · cases h
    · rename_i hne
      split
      · rename_i args ats hop
        exact absurd hop (hne _ _)
      · split at h
        · rename_i a2 m2 hs
          rw [fstep_ref hc hs]
          exact flistS_ref hc rest _ _ _ _ _ _ _ h
        · rename_i e2 a2 m2 hne2 hs
          simp only [Option.some.injEq, Prod.mk.injEq] at h; obtain ⟨rfl, rfl, rfl, rfl⟩ := h
          rw [fstep_ref hc hs]
          cases e2 with
          | normal => exact (hne2 rfl).elim
          | _ => rfl
        · cases h

theorem fcodeS_ref {L : Nat} {call : FCallF} {call' : CallF} (hc : CallRef call call') : ∀ (c : Code) (a a1 : FAct) (u u1 : AMode) (m m1 : FMem) (x : AExit), fcodeS P L call c a u m = some (x, a1, u1, m1) → acodeS P L call' c a.toA u m.toL = some (x, a1.toA, u1, m1.toL) := by
  intro c
  induction c with
  | seq y z ih1 ih2 =>
    intro a a1 u u1 m m1 x h
    unfold fcodeS at h
    unfold acodeS
    split at h
    · rename_i a2 u2 m2 hs
      rw [ih1 _ _ _ _ _ _ _ hs]
      exact ih2 _ _ _ _ _ _ _ h
    · rename_i hne
      rw [ih1 _ _ _ _ _ _ _ h]
      cases x with
      | normal => exact absurd h (hne _ _ _)
      | _ => rfl
  | cond c y z ih1 ih2 =>
    intro a a1 u u1 m m1 x h
    unfold fcodeS at h
    unfold acodeS
    rw [fev_eq] at h
    split at h
    · rename_i hv
      rw [hv]; exact ih1 _ _ _ _ _ _ _ h
    · rename_i hv
      rw [hv]; exact ih2 _ _ _ _ _ _ _ h
    · cases h
  | region id ops draw =>
    intro a a1 u u1 m m1 x h
    cases draw with
    | true =>
      unfold fcodeS at h
      unfold acodeS
      split at h
      · rename_i e2 a2 m2 hs
        simp only [Option.some.injEq, Prod.mk.injEq] at h; obtain ⟨rfl, rfl, rfl, rfl⟩ := h
        rw [fcode_ref hc _ _ _ _ _ _ hs]
      · cases h
    | false =>
      simp only [fcodeS] at h
      simp only [acodeS]
      exact flistS_ref hc _ _ _ _ _ _ _ _ h
  | _ =>
    intro a a1 u u1 m m1 x h
    unfold fcodeS at h
    unfold acodeS
    split at h
    · rename_i e2 a2 m2 hs
      simp only [Option.some.injEq, Prod.mk.injEq] at h; obtain ⟨rfl, rfl, rfl, rfl⟩ := h
      rw [fcode_ref hc _ _ _ _ _ _ hs]
    · cases h

/-! ### Calls -/

theorem fresult_eq (a : FAct) (m : FMem) (r : ResultVar) : fresult P a m r = aresult P a.toA.tmps m.toL r := by
  cases r <;> simp only [fresult, aresult, FAct.toA_get, fload_eq]
  rfl

theorem fresults_eq (a : FAct) (m : FMem) : ∀ (rs : List ResultVar), fresults P a m rs = aresults P a.toA.tmps m.toL rs
  | [] => rfl
  | r :: rs => by
    unfold fresults aresults
    rw [fresult_eq, fresults_eq a m rs]
    rfl

theorem fillT_get : ∀ (vs : List Value) (t : T Value) (i k : Nat), i + vs.length ≤ 1022 → k < 1022 → T.get 10 (fillT t i vs) k = if i ≤ k ∧ k < i + vs.length then vs[k - i]? else T.get 10 t k
  | [], t, i, k, _, _ => by
    simp only [fillT, List.length_nil]
    rw [if_neg (by omega)]
  | v :: vs, t, i, k, h, hk => by
    simp only [List.length_cons] at h
    unfold fillT
    rw [fillT_get vs _ _ _ (by omega) hk, T.get_set 10 _ _ _ _ (by omega) (by omega)]
    by_cases e : k = i
    · subst e
      rw [if_neg (by omega), if_pos rfl, if_pos (by simp)]
      simp
    · rw [if_neg e]
      by_cases h2 : i + 1 ≤ k ∧ k < i + 1 + vs.length
      · rw [if_pos h2, if_pos (by simp only [List.length_cons]; omega)]
        rw [show k - i = (k - (i + 1)) + 1 from by omega, List.getElem?_cons_succ]
      · rw [if_neg h2, if_neg (by simp only [List.length_cons]; omega)]

theorem fenter_ref {fn : Func} {args : Array Value} {a0 : FAct} (h : fenter fn args = some a0) : a0.toA = aenter fn args := by
  unfold fenter at h
  split at h
  · rename_i hle
    simp only [Option.some.injEq] at h
    subst h
    have hmax : Nat.max fn.ntmps args.toList.length = max fn.ntmps args.size := by simp [Nat.max_def, Max.max]
    have ht : ∀ (k : Nat), (FAct.toA ⟨Nat.max fn.ntmps args.toList.length, fillT .nil 0 args.toList, [], hle⟩).tmps[k]? = (aenter fn args).tmps[k]? := by
      intro k
      rw [FAct.toA_get]
      unfold FAct.get aenter
      simp only
      by_cases hk : k < Nat.max fn.ntmps args.toList.length
      · have : Nat.blt k (Nat.max fn.ntmps args.toList.length) = true := by simpa [Nat.blt_eq] using hk
        rw [this]
        simp only [cond_true]
        have hal : args.toList.length ≤ Nat.max fn.ntmps args.toList.length := Nat.le_max_right _ _
        rw [fillT_get _ _ _ _ (by omega) (by omega), T.get_nil]
        rw [Array.getElem?_append]
        by_cases hks : k < args.size
        · rw [if_pos (by simpa using hks), if_pos hks]
          simp [hks]
        · rw [if_neg (by simpa using hks), if_neg hks]
          rw [Array.getElem?_replicate, if_pos (by rw [hmax] at hk; omega)]
          rfl
      · have : Nat.blt k (Nat.max fn.ntmps args.toList.length) = false := by
          cases hb : Nat.blt k (Nat.max fn.ntmps args.toList.length)
          · rfl
          · exact absurd (by simpa [Nat.blt_eq] using hb) hk
        rw [this]
        simp only [cond_false]
        rw [Array.getElem?_eq_none]
        rw [hmax] at hk
        simp; omega
    have hx : ∀ (x y : Act), (∀ (k : Nat), x.tmps[k]? = y.tmps[k]?) → x.defers = y.defers → x = y := by
      intro x y h1 h2
      have : x.tmps = y.tmps := Array.ext_getElem? h1
      cases x; cases y; simp_all
    exact hx _ _ ht rfl
  · cases h

theorem fcallD_ref {L : Nat} {call : FCallF} {call' : CallF} (hc : CallRef call call') {f : FuncId} {args : Array Value} {u u1 : AMode} {m m1 : FMem} {r : AEnd} (h : fcallD P L call f args u m = some (r, u1, m1)) : acallD P L call' f args u m.toL = some (r, u1, m1.toL) := by
  unfold fcallD at h
  unfold acallD
  split at h
  · rename_i fn hf
    simp only [hf]
    split at h
    · rename_i c a0 hb hen
      simp only [hb]
      rw [← fenter_ref hen]
      split at h
      · rename_i e a2 u2 m2 hs
        rw [fcodeS_ref hc _ _ _ _ _ _ _ _ hs]
        simp only
        split at h
        · rename_i hd
          rw [if_pos (show a2.toA.defers.isEmpty = true from hd)]
          simp only [fresults_eq] at h
          split at h
          · split at h
            · rename_i vs hvs
              simp only [Option.some.injEq, Prod.mk.injEq] at h; obtain ⟨rfl, rfl, rfl⟩ := h
              simp only [hvs]
            · cases h
          · split at h
            · rename_i vs hvs
              simp only [Option.some.injEq, Prod.mk.injEq] at h; obtain ⟨rfl, rfl, rfl⟩ := h
              simp only [hvs]
            · cases h
          · simp only [Option.some.injEq, Prod.mk.injEq] at h; obtain ⟨rfl, rfl, rfl⟩ := h; rfl
          · cases h
        · cases h
      · cases h
    · cases h
  · cases h

theorem fleave_ref {L : Nat} {call : FCallF} {call' : CallF} (hc : CallRef call call') {fn : Func} {a : FAct} : ∀ (ds : List Deferred) (u : AMode) (m m1 : FMem) (r : AEnd), fleave P L call fn a ds u m = some (r, m1) → aleave P L call' fn a.toA.tmps ds u m.toL = some (r, m1.toL)
  | [], u, m, m1, r, h => by
    cases u with
    | ret =>
      simp only [fleave] at h
      simp only [aleave]
      rw [fresults_eq] at h
      split at h
      · rename_i vs hvs
        simp only [Option.some.injEq, Prod.mk.injEq] at h; obtain ⟨rfl, rfl⟩ := h
        simp only [hvs]
      · cases h
    | pan v rc =>
      cases rc with
      | true => simp [fleave] at h
      | false =>
        simp only [fleave, Option.some.injEq, Prod.mk.injEq] at h; obtain ⟨rfl, rfl⟩ := h; rfl
  | d :: ds, u, m, m1, r, h => by
    unfold fleave at h
    unfold aleave
    split at h
    · rename_i f captured ht
      simp only [ht]
      split at h
      · rename_i g hg
        simp only [hg]
        split at h
        · rename_i hcond
          rw [if_pos hcond]
          split at h
          · rename_i v u2 m2 hs
            rw [fcallD_ref hc hs]
            exact fleave_ref hc ds _ _ _ _ h
          · rename_i v m2 hs
            rw [fcallD_ref hc hs]
            exact fleave_ref hc ds _ _ _ _ h
          · cases h
        · cases h
      · cases h
    · cases h

/-- The contracts that are given by themselves answer alike. -/
def OvRef (ov : FOvF) (ov' : OvF) : Prop := (∀ f, ov f = none → ov' f = none) ∧ ∀ f g, ov f = some g → ∃ g', ov' f = some g' ∧ ∀ args m r m', g args m = some (r, m') → g' args m.toL = some (r, m'.toL)

theorem fcall_ref {ov : FOvF} {ov' : OvF} (ho : OvRef ov ov') : ∀ n, CallRef (fcall P ov n) (acall P ov' n)
  | 0 => fun f args m r m' h => by simp [fcall] at h
  | n + 1 => by
    intro f args m r m' h
    have ih := fcall_ref ho n
    unfold fcall at h
    unfold acall
    split at h
    · rename_i g hg
      obtain ⟨g', h1, h2⟩ := ho.2 f g hg
      rw [h1]
      exact h2 _ _ _ _ h
    · rename_i hg
      rw [ho.1 f hg]
      simp only
      split at h
      · rename_i fn hf
        simp only [hf]
        split at h
        · rename_i a0 hen
          unfold fbody at h
          split at h
          · rename_i c hb
            simp only [hb]
            rw [← fenter_ref hen]
            split at h
            · rename_i a2 m2 hs
              rw [fcode_ref ih _ _ _ _ _ _ hs]
              exact fleave_ref ih _ _ _ _ _ h
            · rename_i a2 m2 hs
              rw [fcode_ref ih _ _ _ _ _ _ hs]
              exact fleave_ref ih _ _ _ _ _ h
            · rename_i v a2 m2 hs
              rw [fcode_ref ih _ _ _ _ _ _ hs]
              exact fleave_ref ih _ _ _ _ _ h
            · cases h
          · cases h
        · cases h
      · cases h

end
end Go.Abs
