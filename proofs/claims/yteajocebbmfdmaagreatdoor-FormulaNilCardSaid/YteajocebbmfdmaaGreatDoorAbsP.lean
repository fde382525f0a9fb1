/- The abstract machine, 16: what is made anew inside a region that draws. -/
import Derived.Test.YteajocebbmfdmaaGreatDoorAbsO
namespace Go.Abs
section
variable {P : Program}

theorem sl_obj {ι : Iota} {e : TypeId} {cs : List Value} {cs' : Array Value} {cp : Nat} (hsz : cs'.size = cp * P.cellsOf e) (hle : cs.length ≤ cs'.size) (hr : LRel ι cs (cs'.toList.take cs.length)) (hf : cs.all flat = true) (c : Nat) :
    ∀ (κ : Iota) (w' : World), Le ι κ → w'.heap[c]? = some (.cells cs' e) → ORel P κ w' c 0 cp (.row .sl e cs) :=
  fun _ _ hl hX => ⟨rfl, hf, cs', hX, hsz, hle, hr.mono hl⟩

theorem abuildSlice_run (hz : ZeroOk P) {ι : Iota} {m m' : AMem} {t : TypeId} {len : Nat} {ps ps' : List (Nat × Value)} {r : ARes} (hl : (ps.length = ps'.length ∧ ∀ (i : Nat) (p p' : Nat × Value), ps[i]? = some p → ps'[i]? = some p' → p'.1 = p.1 ∧ VRel ι p.2 p'.2))
    (he : abuildSlice P t len ps m = some (r, m')) (w : World) : ∃ O X cp v v', r = .val v ∧ m' = m ++ [O] ∧ O.own = true ∧ (Instr.buildSlice t len ps'.toArray).run P w = .ok v' { w with heap := w.heap.push X } ∧
      (∀ (κ : Iota) (w' : World), Le ι κ → w'.heap[w.heap.size]? = some X → ORel P κ w' w.heap.size 0 cp O) ∧ (∀ κ : Iota, κ m.length = some (w.heap.size, 0, cp) → VRel κ v v') := by
  unfold abuildSlice at he
  split at he
  · rename_i e hu
    split at he
    · rename_i n zs hn hzs
      split at he
      · cases he
      · rename_i hbig
        split at he
        · rename_i cs hf
          unfold anew at he
          split at he
          · rename_i b m2 hb
            split at hb
            · rename_i hflat
              simp at hb he
              obtain ⟨rfl, rfl⟩ := hb
              obtain ⟨rfl, rfl⟩ := he
              obtain ⟨i, z, hi, hzv, hsz, hpos, hzl, hrange, hlen⟩ := zeros_eq hzs
              have hni : n = i.size := by obtain ⟨i', hi', rfl⟩ := tsize_info hn; rw [hi] at hi'; simp at hi'; rw [hi']
              subst hni
              obtain ⟨r', h1, h2⟩ := fill_sound _ ps ps' _ _ _ hl (.of_shut (zeros_shut hz hzs)) hf
              have hsize : r'.size = len * P.cellsOf e := by
                have e1 := LRel.size_eq h2
                have := fill_size hf
                have e3 : cs.size = zs.length := by simpa using this
                rw [← e1, e3, hlen, tsize_cells hn]
              refine ⟨_, .cells r' e, len, _, .slice (some ⟨w.heap.size, 0, none⟩) len len, rfl, rfl, rfl, ?_, ?_, ?_⟩
              · unfold Instr.buildSlice
                simp only [Sem.run_bind, run_underlying' hu, run_sizeOf' hn, Result.andThen_ok, if_neg hbig]
                by_cases h0 : len * i.size = 0
                · have : zs = [] := by apply List.eq_nil_of_length_eq_zero; omega
                  subst this
                  simp only [h0, if_true, pure_bind]
                  have e0 : ((Array.range 0).map fun x => (#[] : Array Value)[x % (#[] : Array Value).size]!) = #[] := by simp
                  rw [e0]
                  have h1' : Instr.fill (fun i_1 => some (i_1 * i.size, i.size)) #[] ps' = some r' := h1
                  simp [h1', run_newRow]
                · simp only [h0, if_false, Sem.run_bind, run_zeroValue' hi hzv, Result.andThen_ok, Sem.run_pure, hrange, h1, run_newRow]
              · exact sl_obj hsize (by have := LRel.size_eq h2; simp; omega) (by
                  have e1 := LRel.size_eq h2
                  rw [List.take_of_length_le (by simp; omega)]
                  exact h2) hflat _
              · intro κ hκ
                have := VRel.sl (ι := κ) (i := m.length) (off := 0) (c := w.heap.size) (sh := 0) (cp := len) (len := len) (k := len) (cap := len) hκ (Nat.le_refl _) (fun _ => Nat.le_refl _) (.inl ⟨rfl, rfl⟩)
                simpa using this
            · cases hb
          · cases he
        · cases he
    · cases he
  · cases he

theorem amakeSlice_run (hz : ZeroOk P) {ι : Iota} {m m' : AMem} {t : TypeId} {l l' c c' : Value} {r : ARes} (hl : VRel ι l l') (hc : VRel ι c c') (he : amakeSlice P t l c m = some (r, m')) (w : World) :
    ∃ O X cp v v', r = .val v ∧ m' = m ++ [O] ∧ O.own = true ∧ (Instr.makeSlice t l' c').run P w = .ok v' { w with heap := w.heap.push X } ∧
      (∀ (κ : Iota) (w' : World), Le ι κ → w'.heap[w.heap.size]? = some X → ORel P κ w' w.heap.size 0 cp O) ∧ (∀ κ : Iota, κ m.length = some (w.heap.size, 0, cp) → VRel κ v v') := by
  unfold amakeSlice at he
  split at he
  · rename_i e k1 ln k2 cn hu
    cases hl; cases hc
    split at he
    · rename_i i hi
      split at he
      · rename_i hcond
        obtain ⟨h0, h1, h2, h3⟩ := hcond
        split at he
        · rename_i zs hzs
          unfold anew at he
          split at he
          · rename_i b m2 hb
            split at hb
            · rename_i hflat
              simp at hb; obtain ⟨rfl, rfl⟩ := hb
              simp only [Option.some.injEq, Prod.mk.injEq] at he; obtain ⟨rfl, rfl⟩ := he
              obtain ⟨i2, z, hi2, hzv, hsz, hpos, _, hrange, hlen⟩ := zeros_eq hzs
              rw [hi] at hi2; simp at hi2; subst hi2
              have hts' : tsize P e = some i.size := by simp [tsize, hi]
              have hshut := zeros_shut hz hzs
              have w1 : IntKind.i64.wrap ln = ln := wrap64_small (by omega) (by omega)
              have w2 : IntKind.i64.wrap cn = cn := wrap64_small (by omega) (by omega)
              refine ⟨_, .cells zs.toArray e, cn.toNat, _, .slice (some ⟨w.heap.size, 0, none⟩) ln.toNat cn.toNat, rfl, rfl, rfl, ?_, ?_, ?_⟩
              · unfold Instr.makeSlice
                have hb1 : ((i.bytes : Int) * cn > 2 ^ 48) = False := by
                  simp only [eq_iff_iff, iff_false, Int.not_lt]
                  rw [Int.mul_comm]; omega
                have hng : (cn < 0) = False := by simp; omega
                have hng2 : (ln < 0) = False := by simp; omega
                have hng3 : (ln > cn) = False := by simp; omega
                simp only [Sem.run_bind, run_underlying' hu, Result.andThen_ok, asInt, asIntOf, pure_bind, run_typeInfo' hi, w1, w2, hb1, hng, hng2, hng3, decide_false, Bool.or_false, Bool.false_eq_true, if_false, run_askRoom, run_sizeOf' hts']
                by_cases hc0 : cn.toNat * i.size = 0
                · have hzs0 : zs = [] := by apply List.eq_nil_of_length_eq_zero; omega
                  subst hzs0
                  simp only [hc0, if_true, Sem.run_bind]
                  have e0 : ((Array.range 0).map fun x => (#[] : Array Value)[x % (#[] : Array Value).size]!) = #[] := by simp
                  rw [e0]
                  simp [run_newRow]
                · simp only [hc0, if_false, Sem.run_bind, run_zeroValue' hi hzv, Result.andThen_ok, Sem.run_pure, hrange, run_newRow]
              · exact sl_obj (by simp [hlen, tsize_cells hts']) (by simp) (by simpa using LRel.of_shut hshut) hflat _
              · intro κ hκ
                have := VRel.sl (ι := κ) (i := m.length) (off := 0) (c := w.heap.size) (sh := 0) (cp := cn.toNat) (len := ln.toNat) (k := if ln = cn then ln.toNat else ln.toNat + 1) (cap := cn.toNat) hκ
                  (by omega) (fun _ => Nat.le_refl _) (by split <;> omega)
                simpa using this
            · cases hb
          · cases he
        · cases he
      · cases he
    · cases he
  · cases he

/-- What a making operation comes to, in whatever world. -/
theorem fresh_run (hz : ZeroOk P) {ι : Iota} (hg : ∀ g, g < P.globals.size → ι g = some (g, 0, 0)) {a a' : Act} (ha : ARel ι a a') {o : Oper} {m m' : AMem} {v : Value} (hk : okind o.op = 1) (he : aop P a o m = some (.val v, m')) (w : World) :
    ∃ O X cp v', m' = m ++ [O] ∧ O.own = true ∧ (execOp a'.eval o).run P w = .ok (.value v') { w with heap := w.heap.push X } ∧
      (∀ (κ : Iota) (w' : World), Le ι κ → w'.heap[w.heap.size]? = some X → ORel P κ w' w.heap.size 0 cp O) ∧ (∀ κ : Iota, κ m.length = some (w.heap.size, 0, cp) → VRel κ v v') := by
  have ev : ∀ {x : Operand} {v : Value}, aev P a x = some v → VRel ι v (a'.eval x) := fun q => aev_sound hg ha q
  have hp : ∀ κ : Iota, κ m.length = some (w.heap.size, 0, 0) → VRel κ (.pointer (some ⟨m.length, 0, none⟩)) (.pointer (some ⟨w.heap.size, 0, none⟩)) := fun κ h => by
    have := VRel.ptr (ι := κ) (i := m.length) (off := 0) h
    simpa using this
  unfold aop at he
  unfold execOp
  cases hop : o.op <;> simp only [hop, okind] at hk he ⊢ <;> try (first | cases hk | skip)
  case alloc t =>
    split at he
    · rename_i z hzv
      obtain ⟨i, hi, hzi⟩ := azero_info hzv
      unfold anew at he
      split at he
      · rename_i b m2 hb
        split at hb
        · rename_i hf
          simp at hb; obtain ⟨rfl, rfl⟩ := hb
          split at he
          · rename_i hs
            simp only [Option.some.injEq, Prod.mk.injEq, ARes.val.injEq] at he; obtain ⟨rfl, rfl⟩ := he
            exact ⟨_, .cells z.cells t, 0, .pointer (some ⟨w.heap.size, 0, none⟩), rfl, rfl, by simp [Instr.alloc, run_zeroValue' hi hzi, newVar, run_newRow], fun κ w' hl hX => ⟨rfl, hf, z.cells, hX, .of_shut hs⟩, hp⟩
          · cases he
        · cases hb
      · cases he
    · cases he
  case box t x =>
    split at he
    · rename_i u hv
      unfold anew at he
      split at he
      · rename_i b m2 hb
        split at hb
        · rename_i hf
          simp at hb; obtain ⟨rfl, rfl⟩ := hb
          simp only [Option.some.injEq, Prod.mk.injEq, ARes.val.injEq] at he; obtain ⟨rfl, rfl⟩ := he
          exact ⟨_, .cells (a'.eval x).cells t, 0, .pointer (some ⟨w.heap.size, 0, none⟩), rfl, rfl, by simp [Instr.box, newVar, run_newRow], fun κ w' hl hX => ⟨rfl, hf, _, hX, (ev hv).cells.mono hl⟩, hp⟩
        · cases hb
      · cases he
    · cases he
  case buildSlice t len parts =>
    split at he
    · rename_i ps hps
      have hl := aevPairs_sound hg ha hps
      obtain ⟨O, X, cp, v1, v', h0, h1, h2, h3, h4, h5⟩ := abuildSlice_run hz hl he w
      simp only [ARes.val.injEq] at h0; subst h0
      refine ⟨O, X, cp, v', h1, h2, ?_, h4, h5⟩
      have e : (Array.map (fun x => (x.fst, a'.eval x.snd)) parts) = (parts.toList.map fun (i, x) => (i, a'.eval x)).toArray := by apply Array.ext'; simp
      rw [e]
      simp [h3]
    · cases he
  case makeMap t rr =>
    have hv : ∀ κ : Iota, κ m.length = some (w.heap.size, 0, 0) → VRel κ (.map (some m.length)) (.map (some w.heap.size)) := fun κ h => .map h
    have ho : ∀ (κ : Iota) (w' : World), Le ι κ → w'.heap[w.heap.size]? = some (.map #[] 0) → ORel P κ w' w.heap.size 0 0 (.map [] 0) := fun κ w' _ hX => ⟨rfl, #[], hX, rfl, fun i e e' a => by simp at a⟩
    split at he
    · simp only [Option.some.injEq, Prod.mk.injEq, ARes.val.injEq] at he; obtain ⟨rfl, rfl⟩ := he
      exact ⟨_, .map #[] 0, 0, .map (some w.heap.size), rfl, rfl, by simp [Instr.makeMap], ho, hv⟩
    · rename_i x
      split at he
      · rename_i k el ik n hu hx
        simp only [Option.some.injEq, Prod.mk.injEq, ARes.val.injEq] at he; obtain ⟨rfl, rfl⟩ := he
        have hxx := ev hx
        refine ⟨_, .map #[] 0, 0, .map (some w.heap.size), rfl, rfl, ?_, ho, hv⟩
        simp only [Option.map_some]
        generalize a'.eval x = xv at hxx
        cases hxx
        simp [Instr.makeMap, run_underlying' hu, asInt, asIntOf]
      · cases he
  case makeSlice t l c =>
    split at he
    · rename_i u1 v1 hu hv
      obtain ⟨O, X, cp, v2, v', h0, h1, h2, h3, h4, h5⟩ := amakeSlice_run hz (ev hu) (ev hv) he w
      simp only [ARes.val.injEq] at h0; subst h0
      exact ⟨O, X, cp, v', h1, h2, by simp [h3], h4, h5⟩
    · cases he
  case call c =>
    exfalso
    obtain ⟨callee, args, ats⟩ := c
    cases callee with
    | builtin b => cases b <;> simp at hk
    | value f => simp at hk
    | invoke r n => simp at hk

/-- A hole is filled. -/
theorem MRel.fill {ι : Iota} {m : AMem} {w w' : World} (h : MRel P ι m w) {id cp : Nat} {O : AObj} {X : Obj} (hid : m[id]? = some O) (hh : ι id = none) (hw : w'.heap = w.heap.push X)
    (hr : ORel P (ι.add id (w.heap.size, 0, cp)) w' w.heap.size 0 cp O) : MRel P (ι.add id (w.heap.size, 0, cp)) m w' ∧ Le ι (ι.add id (w.heap.size, 0, cp)) := by
  have hle : Le ι (ι.add id (w.heap.size, 0, cp)) := by
    intro i x hx
    simp only [Iota.add]
    split
    · rename_i e; subst e; rw [hh] at hx; cases hx
    · exact hx
  have hold : ∀ b, b < w.heap.size → w'.heap[b]? = w.heap[b]? := by
    intro b hb
    rw [hw, Array.getElem?_push, if_neg (by omega)]
  have hcase : ∀ (j : Nat) (y : Nat × Nat × Nat), (ι.add id (w.heap.size, 0, cp)) j = some y → (j = id ∧ y = (w.heap.size, 0, cp)) ∨ (j ≠ id ∧ ι j = some y) := by
    intro j y hj
    simp only [Iota.add] at hj
    split at hj
    · rename_i e; simp at hj; exact .inl ⟨e, hj.symm⟩
    · rename_i e; exact .inr ⟨e, hj⟩
  have hlow : ∀ (j c sh cp' : Nat) (x : AObj), ι j = some (c, sh, cp') → m[j]? = some x → x.alive = true → c < w.heap.size := by
    intro j c sh cp' x hj hx hal
    cases hox : x.own with
    | true => exact h.lt hj hx hox
    | false =>
      have := h.obj j c sh cp' x hj hx
      cases x with
      | dead => simp [AObj.alive] at hal
      | row kk e cs => cases kk with
        | ro => exact this.1
        | _ => simp [AObj.own] at hox
      | _ => simp [AObj.own] at hox
  refine ⟨⟨?_, ?_, ?_, ?_⟩, hle⟩
  · intro j y hj
    rcases hcase j y hj with ⟨rfl, _⟩ | ⟨_, hj⟩
    · exact (List.getElem?_eq_some_iff.1 hid).1
    · exact h.dom j y hj
  · intro j c sh cp' x hj hx
    rcases hcase j _ hj with ⟨rfl, e⟩ | ⟨hne, hj⟩
    · simp at e; obtain ⟨rfl, rfl, rfl⟩ := e
      rw [hid] at hx; simp at hx; subst hx; exact hr
    · have ho := h.obj j c sh cp' x hj hx
      cases hal : x.alive with
      | false => cases x with
        | dead => trivial
        | _ => simp [AObj.alive] at hal
      | true => exact (ho.congr (hold c (hlow j c sh cp' x hj hx hal))).mono hle
  · intro j k c sh1 cp1 sh2 cp2 x y hj hk hx hy hox hay
    have hax : x.alive = true := by cases x <;> simp_all [AObj.own, AObj.alive]
    rcases hcase j _ hj with ⟨ej, e⟩ | ⟨hne, hj2⟩
    · rcases hcase k _ hk with ⟨ek, _⟩ | ⟨hne', hk2⟩
      · rw [ej, ek]
      · simp at e; obtain ⟨e1, rfl, rfl⟩ := e
        have := hlow k _ _ _ y hk2 hy hay; omega
    · rcases hcase k _ hk with ⟨ek, e⟩ | ⟨hne', hk2⟩
      · simp at e; obtain ⟨e1, rfl, rfl⟩ := e
        have := hlow j _ _ _ x hj2 hx hax; omega
      · exact h.inj j k c sh1 cp1 sh2 cp2 x y hj2 hk2 hx hy hox hay
  · intro g hg; exact hle _ _ (h.glob g hg)

/-- The step from a region's begin, a hole filled more. -/
theorem Step.fill {ι0 ι : Iota} {m0 m : AMem} {w0 w w' : World} (h : Step m0 ι0 w0 m ι w) {id cp : Nat} {X : Obj} (hid : m0.length ≤ id) (hh : ι id = none) (hw : w'.heap = w.heap.push X) (hos : w'.os = w.os) (htape : w'.tape = w.tape) (hout : w'.output = w.output) :
    Step m0 ι0 w0 m (ι.add id (w.heap.size, 0, cp)) w' := by
  have hold : ∀ b, b < w.heap.size → w'.heap[b]? = w.heap[b]? := by
    intro b hb
    rw [hw, Array.getElem?_push, if_neg (by omega)]
  refine ⟨?_, hos.trans h.os, htape.trans h.tape, hout.trans h.output, by rw [hw]; simp; have := h.size; omega, h.len, ?_, ?_, ?_⟩
  · intro i x hx
    have := h.le i x hx
    simp only [Iota.add]
    split
    · rename_i e; subst e; rw [hh] at this; cases this
    · exact this
  · intro b hb hn
    rw [hold b (Nat.lt_of_lt_of_le hb h.size)]
    exact h.frame b hb hn
  · rintro b hb ⟨i, sh, cp', o, hi, ho, hown⟩
    simp only [Iota.add] at hi
    split at hi
    · simp at hi
      have := h.size
      omega
    · exact h.own b hb ⟨i, sh, cp', o, hi, ho, hown⟩
  · intro i hi
    simp only [Iota.add]
    rw [if_neg (by omega)]
    exact h.old i hi

theorem MRel.extend {ι : Iota} {m : AMem} {w : World} (h : MRel P ι m w) (objs : AMem) : MRel P ι (m ++ objs) w := by
  have hget : ∀ (i : Nat) (x : Nat × Nat × Nat), ι i = some x → (m ++ objs)[i]? = m[i]? := fun i x hx => List.getElem?_append_left (h.dom i x hx)
  refine ⟨fun i x hx => by have := h.dom i x hx; simp; omega, ?_, ?_, h.glob⟩
  · intro i c sh cp o hi ho
    rw [hget i _ hi] at ho
    exact h.obj i c sh cp o hi ho
  · intro i j c sh cp sh' cp' o o' hi hj ho ho' a b
    rw [hget i _ hi] at ho
    rw [hget j _ hj] at ho'
    exact h.inj i j c sh cp sh' cp' o o' hi hj ho ho' a b

theorem Step.extend {ι0 ι : Iota} {m0 m : AMem} {w0 w : World} (h : Step m0 ι0 w0 m ι w) (hd : ∀ i x, ι i = some x → i < m.length) (objs : AMem) : Step m0 ι0 w0 (m ++ objs) ι w :=
  ⟨h.le, h.os, h.tape, h.output, h.size, by simp; have := h.len; omega, h.frame, fun b hb ⟨i, sh, cp, o, hi, ho, hown⟩ => h.own b hb ⟨i, sh, cp, o, hi, by rw [List.getElem?_append_left (hd i _ hi)] at ho; exact ho, hown⟩, h.old⟩

end
end Go.Abs
