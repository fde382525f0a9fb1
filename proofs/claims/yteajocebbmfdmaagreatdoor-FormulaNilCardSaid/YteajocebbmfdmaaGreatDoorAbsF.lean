/- The abstract machine, 6: equality, keys, numbers: what the operations do in the world. -/
import Derived.Test.YteajocebbmfdmaaGreatDoorAbsE
import Derived.ChangeKeysEq
import Derived.Laws.StructEq
namespace Go.Abs
section
variable {P : Program} {ι : Iota} {m : AMem} {w : World}

theorem tsize_cells {t : TypeId} {n : Nat} (h : tsize P t = some n) : P.cellsOf t = n := by
  obtain ⟨i, hi, rfl⟩ := tsize_info h
  simp [Program.cellsOf, hi]

theorem eqFields_sound (d : Nat) (ih : ∀ (t : TypeId) (x y x' y' : Value) (r : Bool), eqAt P d t x y = some r → VRel ι x x' → VRel ι y y' → (Op.equalIn d t x' y').run P w = .ok r w)
    {xs ys xs' ys' : Array Value} (hx : LRel ι xs.toList xs'.toList) (hfx : xs.toList.all flat = true) (hy : LRel ι ys.toList ys'.toList) (hfy : ys.toList.all flat = true) :
    ∀ (fs : List Field) (r : Bool), eqFields P (eqAt P d) xs ys fs = some r → (Op.eqFields d xs' ys' fs).run P w = .ok r w
  | [], r, h => by simp [eqFields] at h; subst h; simp [Op.eqFields]
  | f :: fs, r, h => by
    unfold eqFields at h
    unfold Op.eqFields
    split at h
    · rename_i hn
      rw [if_neg (by simp [hn])]
      exact eqFields_sound d ih hx hfx hy hfy fs r h
    · rename_i hn
      rw [if_pos hn]
      split at h
      · rename_i u v hu hv
        obtain ⟨u', hu', ru⟩ := apart_sound (w := w) hx hfx hu
        obtain ⟨v', hv', rv⟩ := apart_sound (w := w) hy hfy hv
        simp only [Sem.run_bind, hu', hv', Result.andThen_ok]
        split at h
        · rename_i he
          rw [ih f.type u v u' v' true he ru rv]
          simp only [Result.andThen_ok, Bool.not_true, Bool.false_eq_true, if_false]
          exact eqFields_sound d ih hx hfx hy hfy fs r h
        · rename_i he
          simp at h; subst h
          rw [ih f.type u v u' v' false he ru rv]
          simp
        · cases h
      · cases h

theorem eqElems_sound (d : Nat) (ih : ∀ (t : TypeId) (x y x' y' : Value) (r : Bool), eqAt P d t x y = some r → VRel ι x x' → VRel ι y y' → (Op.equalIn d t x' y').run P w = .ok r w)
    {xs ys xs' ys' : Array Value} (hx : LRel ι xs.toList xs'.toList) (hfx : xs.toList.all flat = true) (hy : LRel ι ys.toList ys'.toList) (hfy : ys.toList.all flat = true) (e : TypeId) (n : Nat) :
    ∀ (k i : Nat) (r : Bool), eqElems P (eqAt P d) e n xs ys k i = some r → (Op.eqItems d e n xs' ys' (List.range' i k)).run P w = .ok r w
  | 0, i, r, h => by simp [eqElems] at h; subst h; simp [Op.eqItems]
  | k + 1, i, r, h => by
    unfold eqElems at h
    rw [List.range'_succ]
    unfold Op.eqItems
    split at h
    · rename_i u v hu hv
      obtain ⟨u', hu', ru⟩ := apart_sound (w := w) hx hfx hu
      obtain ⟨v', hv', rv⟩ := apart_sound (w := w) hy hfy hv
      simp only [Sem.run_bind, hu', hv', Result.andThen_ok]
      split at h
      · rename_i he
        rw [ih e u v u' v' true he ru rv]
        simp only [Result.andThen_ok, Bool.not_true, Bool.false_eq_true, if_false]
        exact eqElems_sound d ih hx hfx hy hfy e n k (i + 1) r h
      · rename_i he
        simp at h; subst h
        rw [ih e u v u' v' false he ru rv]
        simp
      · cases h
    · cases h

theorem eqAt_sound : ∀ (d : Nat) (t : TypeId) (x y x' y' : Value) (r : Bool), eqAt P d t x y = some r → VRel ι x x' → VRel ι y y' → (Op.equalIn d t x' y').run P w = .ok r w
  | 0, _, _, _, _, _, _, h, _, _ => by simp [eqAt] at h
  | d + 1, t, x, y, x', y', r, h, hx, hy => by
    unfold eqAt at h
    split at h
    · rename_i a b hu
      cases hx; cases hy; simp at h; subst h
      simp [Op.equalIn, run_underlying' hu]
    · rename_i k a k' b kk hu
      cases hx; cases hy
      split at h
      · rename_i e; subst e; simp at h; subst h
        simp [Op.equalIn, run_underlying' hu]
      · cases h
    · rename_i a b hu
      cases hx; cases hy; simp at h; subst h
      simp [Op.equalIn, run_underlying' hu]
    · rename_i fields xs ys hu
      split at h
      · cases h
      · rename_i hs
        obtain ⟨xs', rfl, rx, fx⟩ := hx.agg_inv
        obtain ⟨ys', rfl, ry, fy⟩ := hy.agg_inv
        have hfo : P.fieldsOf t = fields := by simp [Program.fieldsOf, hu]
        rw [run_equalIn_struct w d t xs' ys' (by rw [hfo]; exact hu) (by simpa using hs), hfo]
        exact eqFields_sound d (eqAt_sound d) rx fx ry fy _ r h
    · rename_i len elem xs ys hu
      split at h
      · rename_i n hn
        obtain ⟨xs', rfl, rx, fx⟩ := hx.agg_inv
        obtain ⟨ys', rfl, ry, fy⟩ := hy.agg_inv
        obtain ⟨i, hi, _⟩ := tsize_info hn
        rw [run_equalIn_array w d xs' ys' hu hi, tsize_cells hn, List.range_eq_range']
        exact eqElems_sound d (eqAt_sound d) rx fx ry fy elem n len 0 r h
      · cases h
    · cases h

/-! ### Keys -/

theorem keyElems_sound (d : Nat) (em : Bool) (ih : ∀ (t : TypeId) (v v' : Value), keyOk P d t v = true → VRel ι v v' → (Instr.checkKey em d t v').run P w = .ok () w)
    {xs xs' : Array Value} (hx : LRel ι xs.toList xs'.toList) (hfx : xs.toList.all flat = true) {e : TypeId} {n : Nat} (hn : tsize P e = some n) : ∀ (k i : Nat), keyElems P (keyOk P d) e n xs k i = true →
    Sem.run P (forIn (List.range' i k) PUnit.unit fun i _ => (do Instr.checkKey em d e (← part e xs' (i * (← sizeOf e))); pure (ForInStep.yield PUnit.unit) : Sem (ForInStep PUnit))) w = .ok PUnit.unit w
  | 0, _, _ => by simp
  | k + 1, i, h => by
    simp only [keyElems, Bool.and_eq_true] at h
    obtain ⟨h1, h2⟩ := h
    have ih' := keyElems_sound d em ih hx hfx hn k (i + 1) h2
    split at h1
    · rename_i v hv
      obtain ⟨v', hv', rv⟩ := apart_sound (w := w) hx hfx hv
      simp only [List.range'_succ, List.forIn_cons, Sem.run_bind, run_sizeOf' hn, Result.andThen_ok, hv', ih e v v' h1 rv, Sem.run_pure]
      simpa using ih'
    · cases h1

theorem keyOk_sound : ∀ (d : Nat) (em : Bool) (t : TypeId) (v v' : Value), keyOk P d t v = true → VRel ι v v' → (Instr.checkKey em d t v').run P w = .ok () w
  | 0, _, _, _, _, h, _ => by simp [keyOk] at h
  | d + 1, em, t, v, v', h, hv => by
    unfold keyOk at h
    split at h
    · cases h
    · rename_i len e cs hu
      obtain ⟨xs', rfl, rx, fx⟩ := hv.agg_inv
      split at h
      · rename_i n hn
        have := keyElems_sound (P := P) (w := w) d em (fun t v v' a b => keyOk_sound d em t v v' a b) rx fx hn len 0 h
        unfold Instr.checkKey
        simp only [Sem.run_bind, run_underlying' hu, Result.andThen_ok]
        simp only [Std.Legacy.Range.forIn_eq_forIn_range', Std.Legacy.Range.size, Nat.sub_zero, Nat.add_one_sub_one, Nat.div_one]
        have := congrArg (fun r => r.andThen fun _ w' => Result.ok () w') this
        simpa using this
      · cases h
    · rename_i fs cs hu
      obtain ⟨xs', rfl, rx, fx⟩ := hv.agg_inv
      unfold Instr.checkKey
      simp only [Sem.run_bind, run_underlying' hu, Result.andThen_ok]
      rw [← Array.forIn_toList]
      generalize fs.toList = l at h
      clear hu
      induction l with
      | nil => simp
      | cons f l ihl =>
        simp only [keyFields, Bool.and_eq_true, Bool.or_eq_true, beq_iff_eq] at h
        obtain ⟨h1, h2⟩ := h
        have ih' := ihl h2
        simp only [List.forIn_cons, Sem.run_bind]
        by_cases hn : f.name = "_"
        · simp only [hn, ne_eq, not_true_eq_false, if_false, Sem.run_pure, Result.andThen_ok]
          exact ih'
        · rcases h1 with h1 | h1
          · exact absurd h1 hn
          · split at h1
            · rename_i v hv
              obtain ⟨v', hv', rv⟩ := apart_sound (w := w) rx fx hv
              simp only [ne_eq, hn, not_false_eq_true, if_true, Sem.run_bind, hv', Result.andThen_ok, keyOk_sound d em f.type v v' h1 rv, Sem.run_pure]
              exact ih'
            · cases h1
    · cases h
    · cases h
    · rename_i dd h1 h2 h3 h4 h5 h6
      have hu : P.underlying t = some dd := by first | exact h1 | exact h2 | exact h3 | exact h4 | exact h5 | exact h6
      unfold Instr.checkKey
      simp only [Sem.run_bind, run_underlying' hu, Result.andThen_ok]
      split <;> simp_all
    · cases h

/-- What is found, and what stands there. -/
def FRel (ι : Iota) : Option (Nat × Value) → Option (Nat × Value) → Prop
  | none, none => True
  | some (i, v), some (j, v') => i = j ∧ VRel ι v v'
  | _, _ => False

theorem afind_at {t : TypeId} {k : Value} : ∀ (es : List MapEntry) (i j : Nat) (v : Value), afind P t k es i = some (some (j, v)) → i ≤ j ∧ ∃ e, es[j - i]? = some e ∧ e.val = v
  | [], i, j, v, h => by simp [afind] at h
  | e :: es, i, j, v, h => by
    unfold afind at h
    split at h
    · simp at h; obtain ⟨rfl, rfl⟩ := h
      exact ⟨Nat.le_refl _, e, by simp, rfl⟩
    · obtain ⟨h1, e', h2, h3⟩ := afind_at es (i + 1) j v h
      refine ⟨by omega, e', ?_, h3⟩
      rw [show j - i = (j - (i + 1)) + 1 by omega]
      simpa using h2
    · cases h

theorem findAsking_sound {t : TypeId} {k : Value} (hk : VRel ι k k) : ∀ (es es' : List MapEntry) (i : Nat) (r : Option (Nat × Value)), (es.length = es'.length ∧ ∀ (i : Nat) (e e' : MapEntry), es[i]? = some e → es'[i]? = some e' → e'.key = e.key ∧ VRel ι e.key e.key ∧ VRel ι e.val e'.val) →
    afind P t k es i = some r → ∃ r', (Instr.findAsking t k es' i).run P w = .ok r' w ∧ FRel ι r r'
  | [], es', i, r, hl, h => by
    simp [afind] at h; subst h
    have : es' = [] := by simpa using hl.1.symm
    subst this
    exact ⟨none, by simp [Instr.findAsking], trivial⟩
  | e :: es, [], i, r, hl, h => by simp at hl
  | e :: es, e' :: es', i, r, hl, h => by
    obtain ⟨hkey, hkk, hval⟩ := hl.2 0 e e' rfl rfl
    have htail : (es.length = es'.length ∧ ∀ (i : Nat) (e e' : MapEntry), es[i]? = some e → es'[i]? = some e' → e'.key = e.key ∧ VRel ι e.key e.key ∧ VRel ι e.val e'.val) :=
      ⟨by simpa using hl.1, fun i a b ha hb => hl.2 (i + 1) a b (by simpa using ha) (by simpa using hb)⟩
    unfold afind at h
    unfold Instr.findAsking
    simp only [Sem.run_bind, Op.equal, Op.maxDepth, hkey]
    split at h
    · rename_i he
      simp at h; subst h
      rw [eqAt_sound 10000 t k e.key k e.key true he hk hkk]
      exact ⟨some (i, e'.val), by simp, rfl, hval⟩
    · rename_i he
      obtain ⟨r', h1, h2⟩ := findAsking_sound hk es es' (i + 1) r htail h
      rw [eqAt_sound 10000 t k e.key k e.key false he hk hkk]
      exact ⟨r', by simpa using h1, h2⟩
    · cases h

theorem sameNow_eqAt {t : TypeId} {d : TypeDesc} {k u : Value} {b r : Bool} (hd : P.underlying t = some d) (h : Instr.sameNow d k u = some b) (he : eqAt P 10000 t k u = some r) : r = b := by
  unfold Instr.sameNow at h
  split at h
  · split at h
    · rename_i e; subst e
      simp at h; subst h
      simp [eqAt, hd] at he
      exact he.symm
    · cases h
  · simp at h; subst h
    simp [eqAt, hd] at he
    exact he.symm
  · simp at h; subst h
    simp [eqAt, hd] at he
    exact he.symm
  · cases h

theorem findNow_afind {t : TypeId} {d : TypeDesc} {k : Value} (hd : P.underlying t = some d) : ∀ (es es' : List MapEntry) (i : Nat) (r r' : Option (Nat × Value)), (es.length = es'.length ∧ ∀ (i : Nat) (e e' : MapEntry), es[i]? = some e → es'[i]? = some e' → e'.key = e.key ∧ VRel ι e.key e.key ∧ VRel ι e.val e'.val) →
    afind P t k es i = some r → Instr.findNow d k es' i = some r' → FRel ι r r'
  | [], es', i, r, r', hl, h, hn => by
    have : es' = [] := by simpa using hl.1.symm
    subst this
    simp [afind] at h; simp [Instr.findNow] at hn; subst h; subst hn; trivial
  | e :: es, [], i, r, r', hl, h, hn => by simp at hl
  | e :: es, e' :: es', i, r, r', hl, h, hn => by
    obtain ⟨hkey, hkk, hval⟩ := hl.2 0 e e' rfl rfl
    have htail : (es.length = es'.length ∧ ∀ (i : Nat) (e e' : MapEntry), es[i]? = some e → es'[i]? = some e' → e'.key = e.key ∧ VRel ι e.key e.key ∧ VRel ι e.val e'.val) :=
      ⟨by simpa using hl.1, fun i a b ha hb => hl.2 (i + 1) a b (by simpa using ha) (by simpa using hb)⟩
    unfold afind at h
    unfold Instr.findNow at hn
    rw [hkey] at hn
    split at hn
    · rename_i hs
      simp at hn; subst hn
      split at h
      · simp at h; subst h; exact ⟨rfl, hval⟩
      · rename_i he; have := sameNow_eqAt hd hs he; cases this
      · cases h
    · rename_i hs
      split at h
      · rename_i he; have := sameNow_eqAt hd hs he; cases this
      · exact findNow_afind hd es es' (i + 1) r r' htail h hn
      · cases h
    · cases hn

theorem findKey_sound {t : TypeId} {d : TypeDesc} {k : Value} (hd : P.underlying t = some d) (hk : VRel ι k k) {es : List MapEntry} {es' : Array MapEntry} {r : Option (Nat × Value)}
    (hl : (es.length = es'.toList.length ∧ ∀ (i : Nat) (e e' : MapEntry), es[i]? = some e → es'.toList[i]? = some e' → e'.key = e.key ∧ VRel ι e.key e.key ∧ VRel ι e.val e'.val))
    (h : afind P t k es 0 = some r) : ∃ r', (Instr.findKey t k es'.toList).run P w = .ok r' w ∧ FRel ι r r' := by
  unfold Instr.findKey
  simp only [Sem.run_bind, run_underlying' hd, Result.andThen_ok]
  split
  · rename_i r' hn
    exact ⟨r', by simp, findNow_afind hd _ _ 0 r r' hl h hn⟩
  · exact findAsking_sound hk _ _ 0 r hl h

theorem VRel.of_plain {k : Value} (h : plainKey k = true) : VRel ι k k := by
  unfold plainKey at h
  split at h
  · exact .bool _
  · exact .int _ _
  · exact .string _
  · rename_i cs
    refine .agg rfl (fun i v v' a b => ?_) ?_
    · rw [a] at b; simp at b; subst b
      have := all_get h a
      split at this <;> first | exact .bool _ | exact .int _ _ | exact .string _ | cases this
    · rw [List.all_eq_true] at *
      intro x hx
      have := h x hx
      split at this <;> first | rfl | cases this
  · cases h

end
end Go.Abs
