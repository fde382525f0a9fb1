/- The abstract machine, 13: every operation. -/
import Derived.Test.YteajocebbmfdmaaGreatDoorAbsL
namespace Go.Abs
section
variable {P : Program} {ι : Iota} {m : AMem} {w : World}

def SRel (ι : Iota) (v v' : Value) : Prop := (∃ x, v = .chan x) ∨ VRel ι v v'

def DRel (ι : Iota) (d d' : Deferred) : Prop := ∃ f c c', d.target = .fn (.func f) c ∧ d'.target = .fn (.func f) c' ∧ LRel ι c.toList c'.toList ∧ LRel ι d.args.toList d'.args.toList

structure ARel (ι : Iota) (a a' : Act) : Prop where
  size : a.tmps.size = a'.tmps.size
  slot : ∀ (t : Nat) (v v' : Value), a.tmps[t]? = some v → a'.tmps[t]? = some v' → SRel ι v v'
  dlen : a.defers.length = a'.defers.length
  defer : ∀ (i : Nat) (d d' : Deferred), a.defers[i]? = some d → a'.defers[i]? = some d' → DRel ι d d'

theorem SRel.mono {ι κ : Iota} (hl : Le ι κ) {v v' : Value} (h : SRel ι v v') : SRel κ v v' := h.imp id (fun h => h.mono hl)

theorem DRel.mono {ι κ : Iota} (hl : Le ι κ) {d d' : Deferred} (h : DRel ι d d') : DRel κ d d' := by
  obtain ⟨f, c, c', h1, h2, h3, h4⟩ := h
  exact ⟨f, c, c', h1, h2, h3.mono hl, h4.mono hl⟩

theorem ARel.mono {ι κ : Iota} (hl : Le ι κ) {a a' : Act} (h : ARel ι a a') : ARel κ a a' :=
  ⟨h.size, fun t v v' x y => (h.slot t v v' x y).mono hl, h.dlen, fun i d d' x y => (h.defer i d d' x y).mono hl⟩

theorem put_get (a : Act) (dst : Option Tmp) (v : Value) (t : Nat) : (a.put dst v).tmps[t]? = if dst = some t then (if t < a.tmps.size then some v else none) else a.tmps[t]? := by
  cases dst with
  | none => simp [Act.put]
  | some d =>
    simp only [Act.put, Array.getElem?_setIfInBounds, Option.some.injEq]
    by_cases e : d = t
    · subst e; rfl
    · rw [if_neg e, if_neg e]

theorem ARel.put {a a' : Act} (h : ARel ι a a') (dst : Option Tmp) {v v' : Value} (hv : SRel ι v v') : ARel ι (a.put dst v) (a'.put dst v') := by
  refine ⟨?_, ?_, ?_, ?_⟩
  · cases dst <;> simp [Act.put, h.size]
  · intro t u u' hu hu'
    rw [put_get] at hu hu'
    split at hu
    · rename_i e
      rw [if_pos e, ← h.size] at hu'
      split at hu
      · rename_i hlt; rw [if_pos hlt] at hu'; simp at hu hu'; subst hu; subst hu'; exact hv
      · cases hu
    · rename_i e; rw [if_neg e] at hu'; exact h.slot t u u' hu hu'
  · cases dst <;> simp [Act.put, h.dlen]
  · intro i d d' hd hd'
    refine h.defer i d d' ?_ ?_ <;> cases dst <;> assumption

theorem ARel.get {a a' : Act} (h : ARel ι a a') {t : Nat} {v : Value} (hv : a.tmps[t]? = some v) : ∃ v', a'.tmps[t]? = some v' ∧ SRel ι v v' := by
  have hlt := (Array.getElem?_eq_some_iff.1 hv).1
  have hlt' : t < a'.tmps.size := h.size ▸ hlt
  exact ⟨_, Array.getElem?_eq_getElem hlt', h.slot t v _ hv (Array.getElem?_eq_getElem hlt')⟩

theorem unjunk_some {o : Option Value} {v : Value} (h : unjunk o = some v) : o = some v ∧ ∀ x, v ≠ .chan x := by
  unfold unjunk at h
  split at h
  · cases h
  · rename_i hn
    subst h
    exact ⟨rfl, fun x e => hn x (by rw [e])⟩

theorem SRel.val {v v' : Value} (h : SRel ι v v') (hn : ∀ x, v ≠ .chan x) : VRel ι v v' := h.resolve_left (fun ⟨x, e⟩ => hn x e)

theorem aev_sound (hg : ∀ g, g < P.globals.size → ι g = some (g, 0, 0)) {a a' : Act} (h : ARel ι a a') {x : Operand} {v : Value} (he : aev P a x = some v) : VRel ι v (a'.eval x) := by
  unfold aev at he
  split at he
  · rename_i t
    obtain ⟨h1, h2⟩ := unjunk_some he
    obtain ⟨v', h3, h4⟩ := h.get h1
    have : a'.eval (.tmp t) = v' := by
      have hlt := (Array.getElem?_eq_some_iff.1 h3).1
      simp only [Act.eval, Array.getD, hlt, dif_pos]
      simpa [hlt] using h3
    rw [this]
    exact h4.val h2
  · split at he
    · rename_i hs; simp at he; subst he; exact .of_shut hs
    · cases he
  · simp at he; subst he
    exact .func _ rfl (fun i v v' a => by simp at a) rfl (fun i v v' a => by simp at a)
  · rename_i g
    split at he
    · rename_i hlt
      simp at he; subst he
      have := VRel.ptr (ι := ι) (off := 0) (hg g hlt)
      simpa [Act.eval] using this
    · cases he

theorem aevs_sound (hg : ∀ g, g < P.globals.size → ι g = some (g, 0, 0)) {a a' : Act} (h : ARel ι a a') : ∀ {xs : List Operand} {vs : List Value}, aevs P a xs = some vs → LRel ι vs (xs.map a'.eval)
  | [], vs, he => by simp [aevs] at he; subst he; exact LRel.nil ι
  | x :: xs, vs, he => by
    unfold aevs at he
    split at he
    · rename_i v hv
      split at he
      · rename_i us hu
        simp at he; subst he
        exact .cons (aev_sound hg h hv) (aevs_sound hg h hu)
      · cases he
    · cases he

theorem aevPairs_sound (hg : ∀ g, g < P.globals.size → ι g = some (g, 0, 0)) {a a' : Act} (h : ARel ι a a') : ∀ {xs : List (Nat × Operand)} {vs : List (Nat × Value)}, aevPairs P a xs = some vs →
    (vs.length = (xs.map fun (i, x) => (i, a'.eval x)).length ∧ ∀ (i : Nat) (p p' : Nat × Value), vs[i]? = some p → (xs.map fun (i, x) => (i, a'.eval x))[i]? = some p' → p'.1 = p.1 ∧ VRel ι p.2 p'.2)
  | [], vs, he => by simp [aevPairs] at he; subst he; simp
  | (j, x) :: xs, vs, he => by
    unfold aevPairs at he
    split at he
    · rename_i v hv
      split at he
      · rename_i us hu
        simp at he; subst he
        have ih := aevPairs_sound hg h hu
        refine ⟨by simpa using ih.1, fun i p p' hp hp' => ?_⟩
        cases i with
        | zero => simp at hp hp'; subst hp; subst hp'; exact ⟨rfl, aev_sound hg h hv⟩
        | succ i => exact ih.2 i p p' (by simpa using hp) (by simpa using hp')
      · cases he
    · cases he

theorem aevO_sound (hg : ∀ g, g < P.globals.size → ι g = some (g, 0, 0)) {a a' : Act} (h : ARel ι a a') {x : Option Operand} {v : Option Value} (he : aevO P a x = some v) : ORelV ι v (x.map a'.eval) := by
  unfold aevO at he
  split at he
  · simp at he; subst he; trivial
  · split at he
    · rename_i hv; simp at he; subst he; exact aev_sound hg h hv
    · cases he

/-- What an operation comes to, in the world. -/
def OpOut (ι' : Iota) (w' : World) : ARes → Result Next → Prop
  | .val v, r => ∃ v', r = .ok (.value v') w' ∧ VRel ι' v v'
  | .skip, r => r = .ok .skip w'
  | .defer d, r => ∃ d', r = .ok (.defer d') w' ∧ DRel ι' d d'
  | .enter f args, r => ∃ args', r = .ok (.enter f args') w' ∧ LRel ι' args.toList args'.toList
  | .panic v, r => ∃ v', r = .halt (.panic v') w' ∧ VRel ι' v v'
  | .recover, r => r = .ok .recover w'

def Sound (P : Program) (ι : Iota) (m : AMem) (w : World) (r : ARes) (m' : AMem) (R : Result Next) : Prop := ∃ ι' w', MRel P ι' m' w' ∧ Step m ι w m' ι' w' ∧ OpOut ι' w' r R

theorem some1_sound (h : MRel P ι m w) {o : Option Value} {r : ARes} {m' : AMem} {s : Sem Value} (he : some1 m o = some (r, m')) (hs : ∀ v, o = some v → ∃ v', s.run P w = .ok v' w ∧ VRel ι v v') :
    Sound P ι m w r m' ((do pure (.value (← s)) : Sem Next).run P w) := by
  unfold some1 at he
  split at he
  · rename_i v
    simp at he; obtain ⟨rfl, rfl⟩ := he
    obtain ⟨v', h1, h2⟩ := hs v rfl
    exact ⟨ι, w, h, Step.refl _ _ _, v', by simp [h1], h2⟩
  · cases he

theorem skip1_sound {o : Option AMem} {r : ARes} {m' : AMem} {s : Sem Unit} (he : skip1 o = some (r, m')) (hs : ∀ m2, o = some m2 → ∃ w', s.run P w = .ok () w' ∧ MRel P ι m2 w' ∧ Step m ι w m2 ι w') :
    Sound P ι m w r m' ((do s; pure .skip : Sem Next).run P w) := by
  unfold skip1 at he
  split at he
  · rename_i m2
    simp at he; obtain ⟨rfl, rfl⟩ := he
    obtain ⟨w', h1, h2, h3⟩ := hs m2 rfl
    exact ⟨ι, w', h2, h3, by simp [OpOut, h1]⟩
  · cases he

theorem val_sound {ι' : Iota} {w' : World} {m' : AMem} {v v' : Value} {s : Sem Value} (h1 : s.run P w = .ok v' w') (h2 : VRel ι' v v') (h3 : MRel P ι' m' w') (h4 : Step m ι w m' ι' w') :
    Sound P ι m w (.val v) m' ((do pure (.value (← s)) : Sem Next).run P w) := ⟨ι', w', h3, h4, v', by simp [h1], h2⟩

theorem abuiltin_sound (h : MRel P ι m w) {b : Builtin} {ts : Array TypeId} {ty : TypeId} {consts : Array Bool} {args : List Value} {args' : List Value} {r : ARes} {m' : AMem} (hl : LRel ι args args') (he : abuiltin P b ts.toList args m = some (r, m')) :
    Sound P ι m w r m' ((builtin b ts ty consts args'.toArray).run P w) := by
  unfold abuiltin at he
  split at he
  · rename_i s x
    obtain ⟨s', r1, rfl, hs, hr1⟩ := hl.uncons
    obtain ⟨x', r2, rfl, hx, hr2⟩ := hr1.uncons
    have := hr2.unnil; subst this
    obtain ⟨ι', w', v, v', rfl, h1, h2, h3, h4⟩ := aappend_sound (ty := ty) h hs hx he
    exact val_sound h1 h2 h3 h4
  · rename_i s x
    obtain ⟨s', r1, rfl, hs, hr1⟩ := hl.uncons
    obtain ⟨x', r2, rfl, hx, hr2⟩ := hr1.uncons
    have := hr2.unnil; subst this
    obtain ⟨w', v, rfl, h1, h2, h3, h4⟩ := acopy_sound (ty := ty) h hs hx he
    exact val_sound h1 h2 h3 h4
  · rename_i s x
    obtain ⟨s', r1, rfl, hs, hr1⟩ := hl.uncons
    obtain ⟨x', r2, rfl, hx, hr2⟩ := hr1.uncons
    have := hr2.unnil; subst this
    split at he
    · rename_i t tr hts
      have ht0 : ts[0]? = some t := by rw [← Array.getElem?_toList, hts]; rfl
      split at he
      · rename_i m2 hd
        simp at he; obtain ⟨rfl, rfl⟩ := he
        obtain ⟨w', h1, h3, h4⟩ := adelete_sound (ty := ty) h ht0 hs hx hd
        exact val_sound h1 (.tuple rfl (fun i v v' a => by simp at a)) h3 h4
      · cases he
    · cases he
  · rename_i v
    obtain ⟨v', r1, rfl, hv, hr1⟩ := hl.uncons
    have := hr1.unnil; subst this
    split at he
    · rename_i t tr hts
      have ht0 : ts[0]? = some t := by rw [← Array.getElem?_toList, hts]; rfl
      split at he
      · rename_i u hu
        simp at he; obtain ⟨rfl, rfl⟩ := he
        obtain ⟨h1, h2⟩ := alenOf_sound (ty := ty) h ht0 hv hu
        exact val_sound h1 h2 h (Step.refl _ _ _)
      · cases he
    · cases he
  · split at he
    · rename_i u hu
      simp at he; obtain ⟨rfl, rfl⟩ := he
      obtain ⟨h1, h2⟩ := aminmax_sound (P := P) (w := w) (ts := ts) (ty := ty) hl hu
      exact val_sound (by simpa using h1) h2 h (Step.refl _ _ _)
    · cases he
  · split at he
    · rename_i u hu
      simp at he; obtain ⟨rfl, rfl⟩ := he
      obtain ⟨h1, h2⟩ := aminmax_sound (P := P) (w := w) (ts := ts) (ty := ty) hl hu
      exact val_sound (by simpa using h1) h2 h (Step.refl _ _ _)
    · cases he
  · simp at he; obtain ⟨rfl, rfl⟩ := he
    have := hl.unnil; subst this
    exact ⟨ι, w, h, Step.refl _ _ _, by simp [OpOut, builtin]⟩
  · rename_i b off len c
    split at he
    · rename_i hlen
      simp at he; obtain ⟨rfl, rfl⟩ := he
      obtain ⟨v', r1, rfl, hv, hr1⟩ := hl.uncons
      have := hr1.unnil; subst this
      cases hv with
      | sl hb hle hcp hk =>
        rename_i c0 sh cp cap
        have hcap : cap ≠ 0 := by omega
        refine val_sound (s := Builtin.unsafeSliceData_ ts ty #[.slice (some ⟨c0, sh + off, none⟩) len cap]) ?_ (.ptr hb) h (Step.refl _ _ _)
        have : Builtin.unsafeSliceData_ ts ty #[.slice (some ⟨c0, sh + off, none⟩) len cap] = (if cap ≠ 0 then pure (.pointer (some ⟨c0, sh + off, none⟩)) else do
            if (← viewAt c0).isSome then pure (.pointer (some ⟨c0, sh + off, none⟩)) else pure (.pointer (some ⟨← newObj (.view ⟨c0, sh + off, none⟩ (← elemOf ty)), 0, none⟩))) := rfl
        rw [this, if_pos hcap]
        simp
      | slq hb => omega
    · cases he
  · rename_i p n
    obtain ⟨p', r1, rfl, hp, hr1⟩ := hl.uncons
    obtain ⟨n', r2, rfl, hn, hr2⟩ := hr1.uncons
    have := hr2.unnil; subst this
    split at he
    · rename_i t tr hts
      have ht0 : ts[0]? = some t := by rw [← Array.getElem?_toList, hts]; rfl
      obtain ⟨w', v, rfl, h1, h2, h3, h4⟩ := aunsafeString_sound (ty := ty) h ht0 hp hn he
      exact val_sound h1 h2 h3 h4
    · cases he
  · cases he

/-- The library's functions without a body that the machine knows. -/
def ExternOk (P : Program) : Prop := ∀ (f : FuncId) (fn : Func), P.funcs[f]? = some fn → fn.body = none → fn.name = "internal/abi.NoEscape" → Extern.findNext fn = none ∧ Extern.find fn = some Extern.AbiNoEscape.same

theorem acallee_sound (hx : ExternOk P) (h : MRel P ι m w) {f : FuncId} {args : List Value} {args' : List Value} {r : ARes} {m' : AMem} (hl : LRel ι args args') (he : acallee P f args m = some (r, m')) :
    Sound P ι m w r m' ((callFunc f args'.toArray).run P w) := by
  unfold acallee at he
  split at he
  · rename_i fn hf
    split at he
    · rename_i c hb
      split at he
      · cases he
      · rename_i hn
        simp at he; obtain ⟨rfl, rfl⟩ := he
        refine ⟨ι, w, h, Step.refl _ _ _, args'.toArray, ?_, by simpa using hl⟩
        unfold callFunc
        simp only [Sem.run_bind, run_program, Result.andThen_ok, hf, hb, Option.isNone_some, Bool.false_eq_true, if_false]
        simp at hn
        simp [hn]
    · rename_i hb
      split at he
      · rename_i hname
        split at he
        · rename_i x
          simp at he; obtain ⟨rfl, rfl⟩ := he
          obtain ⟨x', r1, rfl, hxx, hr1⟩ := hl.uncons
          have := hr1.unnil; subst this
          have hname' : fn.name = "internal/abi.NoEscape" := by simpa using hname
          obtain ⟨e1, e2⟩ := hx f fn hf hb hname'
          refine ⟨ι, w, h, Step.refl _ _ _, x', ?_, hxx⟩
          unfold callFunc
          have hne : (fn.name == "runtime.NumGoroutine") = false := by rw [hname']; decide
          simp only [Sem.run_bind, run_program, Result.andThen_ok, hf, hb, hne, Option.isNone_none, Bool.false_eq_true, if_false, if_true, run_mark, e1, e2]
          rw [show Extern.AbiNoEscape.same [x'].toArray = pure x' from rfl]
          simp
        · cases he
      · cases he
  · cases he

theorem aop_sound (hz : ZeroOk P) (hxt : ExternOk P) (h : MRel P ι m w) {a a' : Act} (ha : ARel ι a a') {o : Oper} {r : ARes} {m' : AMem} (he : aop P a o m = some (r, m')) : Sound P ι m w r m' ((execOp a'.eval o).run P w) := by
  have hg := h.glob
  have ev : ∀ {x : Operand} {v : Value}, aev P a x = some v → VRel ι v (a'.eval x) := fun q => aev_sound hg ha q
  unfold aop at he
  unfold execOp
  split at he
  case h_1 x e | h_2 x e =>
    simp only [e]
    unfold some1 at he
    split at he
    · rename_i v hv
      simp at he; obtain ⟨rfl, rfl⟩ := he
      exact ⟨ι, w, h, Step.refl _ _ _, _, rfl, ev hv⟩
    · cases he
  case h_3 c x y e =>
    simp only [e]
    split at he
    · rename_i t hc
      have hcv := ev hc
      generalize a'.eval c = cv at hcv
      cases hcv
      unfold some1 at he
      split at he
      · rename_i v hv
        simp at he; obtain ⟨rfl, rfl⟩ := he
        refine ⟨ι, w, h, Step.refl _ _ _, if t then a'.eval x else a'.eval y, by simp [asBool], ?_⟩
        cases t
        · exact ev (by simpa using hv)
        · exact ev (by simpa using hv)
      · cases he
    · cases he
  case h_4 t e =>
    simp only [e]
    split at he
    · rename_i z hzv
      obtain ⟨i, hi, hzi⟩ := azero_info hzv
      unfold anew at he
      split at he
      · rename_i b m2 hb
        split at hb
        · rename_i hf
          simp at hb; obtain ⟨rfl, rfl⟩ := hb
          split at he
          · rename_i hs
            simp only [Option.some.injEq, Prod.mk.injEq] at he; obtain ⟨rfl, rfl⟩ := he
            have hnew := new_var h (e := t) (cs := z.cells.toList) (cs' := z.cells) (.of_shut hs) hf
            have hp := VRel.ptr (ι := ι.add m.length (w.heap.size, 0, 0)) (i := m.length) (off := 0) (Iota.add_self _ _ _)
            refine val_sound (v' := .pointer (some ⟨w.heap.size, 0, none⟩)) ?_ (by simpa using hp) hnew.1 hnew.2
            simp [Instr.alloc, run_zeroValue' hi hzi, newVar, run_newRow]
          · cases he
        · cases hb
      · cases he
    · cases he
  case h_5 t x e =>
    simp only [e]
    split at he
    · rename_i v hv
      unfold anew at he
      split at he
      · rename_i b m2 hb
        split at hb
        · rename_i hf
          simp at hb; obtain ⟨rfl, rfl⟩ := hb
          simp only [Option.some.injEq, Prod.mk.injEq] at he; obtain ⟨rfl, rfl⟩ := he
          have hnew := new_var h (e := t) (cs := v.cells.toList) (cs' := (a'.eval x).cells) (ev hv).cells hf
          have hp := VRel.ptr (ι := ι.add m.length (w.heap.size, 0, 0)) (i := m.length) (off := 0) (Iota.add_self _ _ _)
          refine val_sound (v' := .pointer (some ⟨w.heap.size, 0, none⟩)) ?_ (by simpa using hp) hnew.1 hnew.2
          simp [Instr.box, newVar, run_newRow]
        · cases hb
      · cases he
    · cases he
  case h_6 t parts e =>
    simp only [e]
    split at he
    · rename_i ps hps
      refine some1_sound h he fun v hv => ?_
      have hl := aevPairs_sound hg ha hps
      obtain ⟨r', h1, h2⟩ := abuild_sound (P := P) (w := w) hz hl hv
      refine ⟨r', ?_, h2⟩
      rw [← h1]; congr 2
      apply Array.ext'; simp
    · cases he
  case h_7 t len parts e =>
    simp only [e]
    split at he
    · rename_i ps hps
      have hl := aevPairs_sound hg ha hps
      obtain ⟨ι', w', v, v', rfl, h1, h2, h3, h4⟩ := abuildSlice_sound hz h hl he
      refine val_sound ?_ h2 h3 h4
      rw [← h1]; congr 2
      apply Array.ext'; simp
    · cases he
  case h_8 t x e =>
    simp only [e]
    split at he
    · rename_i v hv
      exact some1_sound h he fun u hu => aload_sound h (ev hv) hu
    · cases he
  case h_9 t x y e =>
    simp only [e]
    split at he
    · rename_i v u hv hu
      exact skip1_sound he fun m2 hm2 => astore_sound h (ev hv) (ev hu) hm2
    · cases he
  case h_10 x e =>
    simp only [e]
    split at he
    · rename_i p hv
      simp at he; obtain ⟨rfl, rfl⟩ := he
      have hvv := ev hv
      obtain ⟨b, off, s⟩ := p
      obtain ⟨rfl, c, sh, cp, hi, hx⟩ := hvv.ptr_inv
      rw [hx]
      exact ⟨ι, w, h, Step.refl _ _ _, _, rfl, .ptr hi⟩
    · rename_i f u v hv
      simp at he; obtain ⟨rfl, rfl⟩ := he
      have hvv := ev hv
      obtain ⟨xs', ys', hx, h1, h2⟩ := hvv.func_inv
      rw [hx] at hvv ⊢
      exact ⟨ι, w, h, Step.refl _ _ _, _, rfl, hvv⟩
    · cases he
  case h_11 op t x y yt e =>
    simp only [e]
    split at he
    · rename_i u v hu hv
      exact some1_sound h he fun r hr => abin_sound h (ev hu) (ev hv) hr
    · cases he
  case h_12 op t x e =>
    simp only [e]
    split at he
    · rename_i v hv
      exact some1_sound h he fun r hr => ⟨r, (aun_sound (P := P) (w := w) (ev hv) hr).1, (aun_sound (P := P) (w := w) (ev hv) hr).2⟩
    · cases he
  case h_13 s d x e =>
    simp only [e]
    split at he
    · rename_i v hv
      exact some1_sound h he fun r hr => aconv_sound h (ev hv) hr
    · cases he
  case h_14 t x e =>
    simp only [e]
    split at he
    · cases he
    · rename_i d v hni hu hv
      simp at he; obtain ⟨rfl, rfl⟩ := he
      refine val_sound (v' := .iface t (a'.eval x)) ?_ (.iface t (ev hv)) h (Step.refl _ _ _)
      unfold Instr.makeInterface
      simp only [Sem.run_bind, run_underlying' hu, Result.andThen_ok]
      cases d <;> first | exact (hni _ rfl).elim | rfl
    · cases he
  case h_15 fn first captured e =>
    simp only [e]
    split at he
    · rename_i u v hu hv
      simp at he; obtain ⟨rfl, rfl⟩ := he
      have h1 := aevs_sound hg ha hu
      have h2 := aevs_sound hg ha hv
      refine val_sound (v' := .func fn (first.map a'.eval) (captured.map a'.eval)) ?_ ?_ h (Step.refl _ _ _)
      · simp [Instr.makeFunc]
      · exact .func fn (by simpa using h1.1) (by simpa using h1.2) (by simpa using h2.1) (by simpa using h2.2)
    · cases he
  case h_16 t rr e =>
    simp only [e]
    have hnew := h.alloc (o' := .map [] 0) (X := .map #[] 0) (w' := { w with heap := w.heap.push (.map #[] 0) }) 0 rfl rfl rfl rfl ⟨rfl, #[], by simp, rfl, fun i e e' a => by simp at a⟩
    have hv : VRel (ι.add m.length (w.heap.size, 0, 0)) (.map (some m.length)) (.map (some w.heap.size)) := .map (Iota.add_self _ _ _)
    split at he
    · simp at he; obtain ⟨rfl, rfl⟩ := he
      refine val_sound (v' := .map (some w.heap.size)) ?_ hv hnew.1 hnew.2
      simp [Instr.makeMap]
    · rename_i x
      split at he
      · rename_i k el ik n hu hx
        simp at he; obtain ⟨rfl, rfl⟩ := he
        have hxx := ev hx
        refine val_sound (v' := .map (some w.heap.size)) ?_ hv hnew.1 hnew.2
        simp only [Option.map_some]
        generalize a'.eval x = xv at hxx
        cases hxx
        simp [Instr.makeMap, run_underlying' hu, asInt, asIntOf]
      · cases he
  case h_17 t l c e =>
    simp only [e]
    split at he
    · rename_i u v hu hv
      obtain ⟨ι', w', v2, v', rfl, h1, h2, h3, h4⟩ := amakeSlice_sound hz h (ev hu) (ev hv) he
      exact val_sound h1 h2 h3 h4
    · cases he
  case h_18 t x lo hi mx e =>
    simp only [e]
    split at he
    · rename_i v l hh k hv hl hhi hmx
      exact some1_sound h he fun r hr => aslice_sound (ev hv) (aevO_sound hg ha hl) (aevO_sound hg ha hhi) (aevO_sound hg ha hmx) hr
    · cases he
  case h_19 s x f e =>
    simp only [e]
    split at he
    · rename_i v hv
      exact some1_sound h he fun r hr => afieldAddr_sound (ev hv) hr
    · cases he
  case h_20 t x f e =>
    simp only [e]
    split at he
    · rename_i v hv
      exact some1_sound h he fun r hr => afield_sound (ev hv) hr
    · cases he
  case h_21 t x i e =>
    simp only [e]
    split at he
    · rename_i u v hu hv
      exact some1_sound h he fun r hr => aindexAddr_sound (ev hu) (ev hv) hr
    · cases he
  case h_22 t x i e =>
    simp only [e]
    split at he
    · rename_i u v hu hv
      exact some1_sound h he fun r hr => aindex_sound (ev hu) (ev hv) hr
    · cases he
  case h_23 t x k ok e =>
    simp only [e]
    split at he
    · rename_i u v hu hv
      exact some1_sound h he fun r hr => alookup_sound h (ev hu) (ev hv) hr
    · cases he
  case h_24 t x k v e | h_25 t x k v e =>
    simp only [e]
    split at he
    · rename_i xv kv vv hx hk hv
      exact skip1_sound he fun m2 hm2 => amapUpdate_sound h (ev hx) (ev hk) (ev hv) hm2
    · cases he
  case h_26 t x k e =>
    simp only [e]
    split at he
    · rename_i xv kv hx hk
      obtain ⟨w', u, u', rfl, h1, h2, h3, h4⟩ := amapEntry_sound h (ev hx) (ev hk) he
      exact val_sound h1 h2 h3 h4
    · cases he
  case h_27 t x s v e =>
    simp only [e]
    split at he
    · rename_i xv sv vv hx hs hv
      exact skip1_sound he fun m2 hm2 => aentryStore_sound h (ev hx) (ev hs) (ev hv) hm2
    · cases he
  case h_28 t x e =>
    simp only [e]
    split at he
    · rename_i s hu hx
      simp at he; obtain ⟨rfl, rfl⟩ := he
      have hxx := ev hx
      generalize a'.eval x = xv at hxx
      cases hxx
      have hnew := h.alloc (o' := .sIter s 0) (X := .stringIter s 0) (w' := { w with heap := w.heap.push (.stringIter s 0) }) 0 rfl rfl rfl rfl ⟨rfl, by simp⟩
      have hp := VRel.ptr (ι := ι.add m.length (w.heap.size, 0, 0)) (i := m.length) (off := 0) (Iota.add_self _ _ _)
      refine val_sound (v' := .pointer (some ⟨w.heap.size, 0, none⟩)) ?_ (by simpa using hp) hnew.1 hnew.2
      simp [Instr.range, run_underlying' hu]
    · cases he
  case h_29 it e =>
    simp only [e]
    split at he
    · rename_i r0 sp hx
      have hxx := ev hx
      obtain ⟨rfl, c, sh, cp, hi, hxe⟩ := hxx.ptr_inv
      rw [hxe]
      split at he
      · rename_i s pos hm
        obtain ⟨rfl, hX⟩ := h.obj r0 c sh cp _ hi hm
        split at he
        · rename_i hlt
          split at he
          rename_i ch width hdec
          simp only [Option.some.injEq, Prod.mk.injEq] at he; obtain ⟨rfl, rfl⟩ := he
          have hset := h.setObj hi hm rfl (o' := .sIter s (pos + width)) rfl hX (X' := .stringIter s (pos + width)) ⟨rfl, set_self hX⟩
          refine val_sound (v' := .tuple #[.bool true, goInt pos, .int .i32 ch]) ?_ ?_ hset.1 hset.2
          · unfold Instr.next
            simp only [Nat.zero_add, Sem.run_bind, run_getObj' hX (by simp), Result.andThen_ok, hlt, if_true, hdec]
            rw [run_setObj' hX (by simp)]
            simp
          · exact VRel.tuple_of (cs := [.bool true, goInt pos, .int .i32 ch]) (cs' := [.bool true, goInt pos, .int .i32 ch]) (.cons (.bool _) (.cons (.int _ _) (.cons (.int _ _) (LRel.nil ι))))
        · rename_i hlt
          simp only [Option.some.injEq, Prod.mk.injEq] at he; obtain ⟨rfl, rfl⟩ := he
          refine val_sound (v' := .tuple #[.bool false]) ?_ (VRel.tuple_of (cs := [.bool false]) (cs' := [.bool false]) (.cons (.bool _) (LRel.nil ι))) h (Step.refl _ _ _)
          unfold Instr.next
          simp only [Nat.zero_add, Sem.run_bind, run_getObj' hX (by simp), Result.andThen_ok, if_neg hlt, Sem.run_pure]
      · cases he
    · cases he
  case h_30 x xt t ok e =>
    simp only [e]
    split at he
    · rename_i v hv
      exact some1_sound h he fun r hr => atypeAssert_sound (ev hv) hr
    · cases he
  case h_31 x i e =>
    simp only [e]
    split at he
    · rename_i vs hv
      obtain ⟨vs', hx, hl⟩ := (ev hv).tuple_inv
      rw [hx]
      refine some1_sound h he fun r hr => ?_
      obtain ⟨r', h1, h2⟩ := hl.get (i := i) (v := r) (by simpa using hr)
      exact ⟨r', by have : vs'[i]? = some r' := by simpa using h1
                    simp [Instr.extract, this], h2⟩
    · cases he
  case h_32 c e =>
    simp only [e]
    split at he
    · rename_i b args hcl hargs
      have hl := aevs_sound hg ha hargs
      have := abuiltin_sound (ty := o.type) (consts := c.args.map fun | .const _ => true | _ => false) h hl he
      unfold resolve
      simp only [hcl, pure_bind, invoke]
      rw [show c.args.map a'.eval = (c.args.toList.map a'.eval).toArray from by apply Array.ext'; simp]
      exact this
    · rename_i f args hcl hargs
      split at he
      · rename_i g first captured hf
        have hl := aevs_sound hg ha hargs
        obtain ⟨f1, c1, hx, l1, l2⟩ := (ev hf).func_inv
        have := acallee_sound hxt h ((l1.append hl).append l2) he
        unfold resolve
        simp only [hcl, hx, Deferred.ofValue, pure_bind, invoke]
        rw [show f1 ++ c.args.map a'.eval ++ c1 = (f1.toList ++ c.args.toList.map a'.eval ++ c1.toList).toArray from by apply Array.ext'; simp]
        exact this
      · cases he
    · cases he
  case h_33 c e =>
    simp only [e]
    split at he
    · rename_i f args hcl hargs
      split at he
      · rename_i g first captured hf
        simp at he; obtain ⟨rfl, rfl⟩ := he
        have hl := aevs_sound hg ha hargs
        obtain ⟨f1, c1, hx, l1, l2⟩ := (ev hf).func_inv
        refine ⟨ι, w, h, Step.refl _ _ _, { target := .fn (.func g) c1, args := f1 ++ c.args.map a'.eval }, ?_, ⟨g, captured, c1, rfl, rfl, l2, ?_⟩⟩
        · unfold resolve
          simp [hcl, hx, Deferred.ofValue]
        · simpa using l1.append hl
      · cases he
    · cases he
  case h_34 x e =>
    simp only [e]
    split at he
    · rename_i t v hv
      simp at he; obtain ⟨rfl, rfl⟩ := he
      have hvv := ev hv
      generalize a'.eval x = xv at hvv
      cases hvv with
      | iface t hv' =>
        exact ⟨ι, w, h, Step.refl _ _ _, _, by simp [Instr.panic], .iface t hv'⟩
    · cases he
  case h_35 => cases he

end
end Go.Abs
