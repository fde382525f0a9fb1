/- The abstract machine, 8: conversions, literals, fields, indexes, slices. -/
import Derived.Test.YteajocebbmfdmaaGreatDoorAbsG
namespace Go.Abs
section
variable {P : Program} {ι : Iota} {m : AMem} {w : World}

theorem bytesOf_run : ∀ {cs cs' : List Value} {bs : List UInt8}, bytesOf cs = some bs → LRel ι cs cs' → cs' = cs
  | [], cs', bs, h, hl => hl.unnil
  | v :: r, cs', bs, h, hl => by
    obtain ⟨v', r', rfl, hv, hr⟩ := hl.uncons
    unfold bytesOf at h
    split at h
    · rename_i he; cases he
    · rename_i n r2 he
      simp at he; obtain ⟨rfl, rfl⟩ := he
      cases hv
      split at h
      · rename_i b hb
        rw [bytesOf_run hb hr]
      · cases h
    · cases h

theorem aconv_sound (h : MRel P ι m w) {s d : TypeId} {x x' r : Value} (hx : VRel ι x x') (he : aconv P s d x m = some r) : ∃ r', (convert s d x').run P w = .ok r' w ∧ VRel ι r r' := by
  unfold aconv at he
  split at he
  · rename_i k kk n hs hd
    cases hx
    simp at he; subst he
    exact ⟨_, by simp [convert, run_underlying' hs, run_underlying' hd, Conv.intToInt], .int _ _⟩
  · rename_i sd str hs hd
    cases hx
    simp at he; subst he
    exact ⟨_, by simp [convert, run_underlying' hs, run_underlying' hd], .string _⟩
  · rename_i e n c hs hd
    cases hx
    split at he
    · rename_i hu
      simp at he; subst he
      exact ⟨_, by simp [convert, run_underlying' hs, run_underlying' hd, run_underlying' hu, Conv.bytesToString], .string _⟩
    · cases he
  · rename_i e b off n c hs hd
    split at he
    · rename_i hu
      split at he
      · rename_i cs hcs
        split at he
        · rename_i bs hbs
          simp at he; subst he
          have key : ∀ (cc sh cp : Nat) (cap : Nat), ι b = some (cc, sh, cp) → (Conv.bytesToString (.slice (some ⟨cc, sh + off, none⟩) n cap)).run P w = .ok (.string ⟨bs.toArray⟩) w := by
            intro cc sh cp cap hi
            obtain ⟨cs', h1, h2, hfl, hln⟩ := loadN_sound h hi hcs
            have := bytesOf_run hbs h2; subst this
            unfold Conv.bytesToString
            simp only [Sem.run_bind, h1, Result.andThen_ok]
            rw [← Array.forIn_toList]
            simp only
            rw [show (⟨bs.toArray⟩ : ByteArray) = ⟨(ByteArray.empty.data.toList ++ bs).toArray⟩ from by simp]
            generalize ByteArray.empty = acc
            clear h1 h2 hcs hfl hln
            induction cs' generalizing bs acc with
            | nil => simp [bytesOf] at hbs; subst hbs; simp
            | cons v r ih =>
              unfold bytesOf at hbs
              split at hbs
              · rename_i he; cases he
              · rename_i n r2 he
                simp at he; obtain ⟨rfl, rfl⟩ := he
                split at hbs
                · rename_i b hb
                  simp at hbs; subst hbs
                  simp only [List.forIn_cons, Sem.run_bind, Sem.run_pure, Result.andThen_ok]
                  rw [show (⟨(acc.data.toList ++ UInt8.ofNat n.toNat :: b).toArray⟩ : ByteArray) = ⟨((acc.push (UInt8.ofNat n.toNat)).data.toList ++ b).toArray⟩ from by simp [ByteArray.push]]
                  exact ih b hb _
                · cases hbs
              · cases hbs
          cases hx with
          | sl hi _ _ hk =>
            refine ⟨_, ?_, .string _⟩
            simp only [convert, Sem.run_bind, run_underlying' hs, run_underlying' hd, run_underlying' hu, Result.andThen_ok]
            exact key _ _ _ _ hi
          | slq hi =>
            have hb0 : bs = [] := by
              unfold loadN at hcs
              split at hcs
              · split at hcs
                · simp at hcs; subst hcs; simp [bytesOf] at hbs; exact hbs
                · cases hcs
              · cases hcs
            subst hb0
            refine ⟨_, ?_, .string _⟩
            simp only [convert, Sem.run_bind, run_underlying' hs, run_underlying' hd, run_underlying' hu, Result.andThen_ok, Conv.bytesToString]
            simp [loadCells, loadCellsFrom]
            rfl
        · cases he
      · cases he
    · cases he
  · rename_i t b off hs hd
    obtain ⟨_, c, sh, cp, hi, rfl⟩ := hx.ptr_inv
    split at he
    · rename_i n e cs hn hm
      split at he
      · rename_i hc
        simp at he; subst he
        obtain ⟨rfl, cells, hcell, hle⟩ := h.live_row hi hm (by simp)
        have hsh : w.shape? c = some (e, cells.size) := by simp [World.shape?, hcell]
        refine ⟨_, ?_, .ptr hi⟩
        simp only [convert, Conv.unsafePointer, Sem.run_bind, run_underlying' hs, run_underlying' hd, Result.andThen_ok, Conv.seenAt, viewAt, run_shape, hsh, Option.isSome_some, if_true, Sem.run_pure, cellsIn, run_sizeOf' hn]
        simp [hc.1]
        omega
      · cases he
    · cases he
  · rename_i u b off hs hd
    obtain ⟨_, c, sh, cp, hi, rfl⟩ := hx.ptr_inv
    split at he
    · rename_i nu e cs hnu hm
      split at he
      · rename_i hc
        simp at he; subst he
        have hobj := h.obj _ _ _ _ _ hi hm
        obtain ⟨rfl, _, cells, hcell, hl⟩ := hobj
        have hsz : cells.size = cs.length := by have := hl.1; simpa using this.symm
        have hsh : w.shape? c = some (e, cells.size) := by simp [World.shape?, hcell]
        refine ⟨_, ?_, .ptr hi⟩
        simp only [convert, Conv.unsafePointer, Sem.run_bind, run_underlying' hs, run_underlying' hd, Result.andThen_ok, Conv.seenAt, viewAt, run_shape, hsh, Option.isSome_some, if_true, Sem.run_pure, run_sizeOf' hnu,
          variablesAt, run_program, hsz, Nat.zero_add, hc, Bool.or_true]
      · cases he
    · cases he
  · cases he

/-! ### Literals -/

theorem fill_sound (place : Nat → Option (Nat × Nat)) : ∀ (ps ps' : List (Nat × Value)) (cs cs' r : Array Value), (ps.length = ps'.length ∧ ∀ (i : Nat) (p p' : Nat × Value), ps[i]? = some p → ps'[i]? = some p' → p'.1 = p.1 ∧ VRel ι p.2 p'.2) →
    LRel ι cs.toList cs'.toList → Instr.fill place cs ps = some r → ∃ r', Instr.fill place cs' ps' = some r' ∧ LRel ι r.toList r'.toList
  | [], ps', cs, cs', r, hl, hc, h => by
    have : ps' = [] := by simpa using hl.1.symm
    subst this
    simp [Instr.fill] at h; subst h
    exact ⟨cs', by simp [Instr.fill], hc⟩
  | p :: ps, [], cs, cs', r, hl, hc, h => by simp at hl
  | (i, v) :: ps, (i', v') :: ps', cs, cs', r, hl, hc, h => by
    obtain ⟨hi, hv⟩ := hl.2 0 _ _ rfl rfl
    simp only at hi hv
    subst hi
    have htail : (ps.length = ps'.length ∧ ∀ (i : Nat) (p p' : Nat × Value), ps[i]? = some p → ps'[i]? = some p' → p'.1 = p.1 ∧ VRel ι p.2 p'.2) :=
      ⟨by simpa using hl.1, fun i a b ha hb => hl.2 (i + 1) a b (by simpa using ha) (by simpa using hb)⟩
    unfold Instr.fill at h ⊢
    split at h
    · cases h
    · rename_i off size hp
      split at h
      · cases h
      · rename_i hcond
        have e1 := LRel.size_eq hv.cells
        have e2 := LRel.size_eq hc
        rw [← e1, ← e2, if_neg hcond]
        refine fill_sound place ps ps' _ _ r htail ?_ h
        have hcells := hv.cells
        rw [← Array.foldl_toList, ← Array.foldl_toList]
        simp only [Array.toList_zipIdx]
        generalize v.cells.toList = xs at hcells
        generalize v'.cells.toList = xs' at hcells
        clear h hcond e1 e2 hv hp
        revert xs' cs cs'
        generalize 0 = k
        induction xs generalizing k with
        | nil => intro cs cs' hc xs' hx; rw [hx.unnil]; simpa using hc
        | cons x xs ih =>
          intro cs cs' hc xs' hx
          obtain ⟨x', r', rfl, hx1, hx2⟩ := hx.uncons
          simp only [List.zipIdx_cons, List.foldl_cons]
          refine ih (k + 1) _ _ ?_ r' hx2
          simpa using hc.set (off + k) hx1

theorem foldl_set_size (off : Nat) : ∀ (l : List (Value × Nat)) (c : Array Value), (l.foldl (fun cs x => cs.setIfInBounds (off + x.2) x.1) c).size = c.size
  | [], c => rfl
  | q :: l, c => by simp only [List.foldl_cons]; rw [foldl_set_size off l]; simp

theorem fill_size {place : Nat → Option (Nat × Nat)} : ∀ {ps : List (Nat × Value)} {c0 c1 : Array Value}, Instr.fill place c0 ps = some c1 → c1.size = c0.size
  | [], c0, c1, h => by simp [Instr.fill] at h; subst h; rfl
  | (a, v) :: ps, c0, c1, h => by
    simp only [Instr.fill] at h
    split at h
    · cases h
    · split at h
      · cases h
      · rw [fill_size h, ← Array.foldl_toList]
        exact foldl_set_size _ _ _

theorem fieldPlaces_sound : ∀ (fs : List Field) (ps : List (Nat × Nat)), fieldPlaces P fs = some ps → (fs.mapM fun f => (do pure (f.offset, ← sizeOf f.type) : Sem (Nat × Nat))).run P w = .ok ps w
  | [], ps, h => by simp [fieldPlaces] at h; subst h; simp
  | f :: fs, ps, h => by
    unfold fieldPlaces at h
    split at h
    · rename_i n hn
      split at h
      · rename_i qs hq
        simp at h; subst h
        simp only [List.mapM_cons, Sem.run_bind, run_sizeOf' hn, Result.andThen_ok, Sem.run_pure, fieldPlaces_sound fs qs hq]
      · cases h
    · cases h

/-- What was once asked of the zero values: the machine now looks itself. -/
def ZeroOk (_ : Program) : Prop := True

theorem abuild_sound (_ : ZeroOk P) {t : TypeId} {ps ps' : List (Nat × Value)} {r : Value} (hl : (ps.length = ps'.length ∧ ∀ (i : Nat) (p p' : Nat × Value), ps[i]? = some p → ps'[i]? = some p' → p'.1 = p.1 ∧ VRel ι p.2 p'.2))
    (h : abuild P t ps = some r) : ∃ r', (Instr.build t ps'.toArray).run P w = .ok r' w ∧ VRel ι r r' := by
  unfold abuild at h
  split at h
  · rename_i i hi
    split at h
    · rename_i z hzv
      split at h
      · cases h
      rename_i hshut
      have hzz : LRel ι z.cells.toList z.cells.toList := .of_shut (by simpa only [Bool.not_eq_false] using hshut)
      split at h
      · rename_i fields hu
        split at h
        · rename_i pl hpl
          split at h
          · rename_i cs hf
            split at h
            · rename_i hflat
              simp at h; subst h
              obtain ⟨r', h1, h2⟩ := fill_sound _ ps ps' _ _ _ hl hzz hf
              refine ⟨.agg r', ?_, .agg h2.1 h2.2 hflat⟩
              have hm := fieldPlaces_sound (P := P) (w := w) _ _ hpl
              unfold Instr.build
              simp only [Sem.run_bind, run_zeroValue' hi hzv, run_underlying' hu, Result.andThen_ok]
              rw [show (fields.mapM fun f => (do pure (f.offset, ← sizeOf f.type) : Sem (Nat × Nat))) = (List.toArray <$> fields.toList.mapM fun f => (do pure (f.offset, ← sizeOf f.type) : Sem (Nat × Nat))) from by rw [Array.mapM_eq_mapM_toList]]
              simp only [Sem.run_map, hm, Result.andThen_ok]
              simp only [List.getElem?_toArray, h1, Sem.run_pure]
            · cases h
          · cases h
        · cases h
      · rename_i len elem hu
        split at h
        · rename_i n hn
          split at h
          · rename_i cs hf
            split at h
            · rename_i hflat
              simp at h; subst h
              obtain ⟨r', h1, h2⟩ := fill_sound _ ps ps' _ _ _ hl hzz hf
              refine ⟨.agg r', ?_, .agg h2.1 h2.2 hflat⟩
              unfold Instr.build
              simp only [Sem.run_bind, run_zeroValue' hi hzv, run_underlying' hu, run_sizeOf' hn, Result.andThen_ok, h1, Sem.run_pure]
            · cases h
          · cases h
        · cases h
      · cases h
    · cases h
  · cases h

theorem zeros_eq {e : TypeId} {n : Nat} {zs : List Value} (h : zeros P e n = some zs) : ∃ i z, P.info? e = some i ∧ i.zero = some z ∧ z.cells.size = i.size ∧ 0 < i.size ∧ zs = (List.replicate n z.cells.toList).flatten ∧
    ((Array.range (n * i.size)).map fun j => z.cells[j % z.cells.size]!) = zs.toArray ∧ zs.length = n * i.size := by
  unfold zeros at h
  split at h
  · rename_i i hi
    split at h
    · rename_i z hz
      split at h
      · cases h
      split at h
      · rename_i hc
        simp at h; subst h
        refine ⟨i, z, hi, hz, hc.1, hc.2, rfl, ?_, by simp [← hc.1]⟩
        apply Array.ext'
        simp only [Array.toList_map, Array.toList_range]
        rw [← hc.1]
        have hpos : 0 < z.cells.size := by omega
        clear hi hz
        induction n with
        | zero => simp
        | succ n ih =>
          rw [List.replicate_succ', List.flatten_append, ← ih, Nat.succ_mul, List.range_add, List.map_append]
          congr 1
          simp only [List.flatten_cons, List.flatten_nil, List.append_nil, List.map_map]
          apply List.ext_getElem
          · simp
          · intro j h1 h2
            simp only [List.length_map, List.length_range] at h1
            simp only [List.getElem_map, List.getElem_range, Function.comp, Nat.mul_add_mod_self_right, Nat.mod_eq_of_lt h1]
            simp [getElem!_pos, h1]
      · cases h
    · cases h
  · cases h

theorem zeros_shut (_ : ZeroOk P) {e : TypeId} {n : Nat} {zs : List Value} (h : zeros P e n = some zs) : zs.all shutV = true := by
  unfold zeros at h
  split at h
  · split at h
    · rename_i z hz
      split at h
      · cases h
      rename_i hshut
      split at h
      · simp only [Option.some.injEq] at h; subst h
        have : z.cells.toList.all shutV = true := by simpa only [Bool.not_eq_false] using hshut
        rw [List.all_eq_true] at *
        intro x hx
        obtain ⟨l, hl, hxl⟩ := List.mem_flatten.1 hx
        have e := List.eq_of_mem_replicate hl
        subst e
        exact this x hxl
      · cases h
    · cases h
  · cases h

theorem abuildSlice_sound (hz : ZeroOk P) (h : MRel P ι m w) {t : TypeId} {len : Nat} {ps ps' : List (Nat × Value)} {r : ARes} {m' : AMem} (hl : (ps.length = ps'.length ∧ ∀ (i : Nat) (p p' : Nat × Value), ps[i]? = some p → ps'[i]? = some p' → p'.1 = p.1 ∧ VRel ι p.2 p'.2))
    (he : abuildSlice P t len ps m = some (r, m')) : ∃ ι' w' v v', r = .val v ∧ (Instr.buildSlice t len ps'.toArray).run P w = .ok v' w' ∧ VRel ι' v v' ∧ MRel P ι' m' w' ∧ Step m ι w m' ι' w' := by
  unfold abuildSlice at he
  split at he
  · rename_i e hu
    split at he
    · rename_i n zs hn hzs
      split at he
      · cases he
      · rename_i hbig
        split at he
        · rename_i cs hf
          unfold anew at he
          split at he
          · rename_i b m2 hb
            split at hb
            · rename_i hflat
              simp at hb he
              obtain ⟨rfl, rfl⟩ := hb
              obtain ⟨rfl, rfl⟩ := he
              obtain ⟨i, z, hi, hzv, hsz, hpos, hzl, hrange, hlen⟩ := zeros_eq hzs
              have hni : n = i.size := by obtain ⟨i', hi', rfl⟩ := tsize_info hn; rw [hi] at hi'; simp at hi'; rw [hi']
              subst hni
              obtain ⟨r', h1, h2⟩ := fill_sound _ ps ps' _ _ _ hl (.of_shut (zeros_shut hz hzs)) hf
              have hsize : r'.size = len * P.cellsOf e := by
                have e1 := LRel.size_eq h2
                have e3 : cs.size = zs.length := by
                  have := fill_size hf
                  simpa using this
                rw [← e1, e3, hlen, tsize_cells hn]
              have hnew := new_sl (P := P) h (e := e) (cs := cs.toList) (cs' := r') len hsize (by have := LRel.size_eq h2; simp; omega) (by
                have e1 := LRel.size_eq h2
                rw [List.take_of_length_le (by simp; omega)]
                exact h2) hflat
              refine ⟨_, _, _, .slice (some ⟨w.heap.size, 0, none⟩) len len, rfl, ?_, ?_, hnew.1, hnew.2⟩
              · unfold Instr.buildSlice
                simp only [Sem.run_bind, run_underlying' hu, run_sizeOf' hn, Result.andThen_ok, if_neg hbig]
                by_cases h0 : len * i.size = 0
                · have : zs = [] := by apply List.eq_nil_of_length_eq_zero; omega
                  subst this
                  simp only [h0, if_true, pure_bind]
                  have e0 : ((Array.range 0).map fun x => (#[] : Array Value)[x % (#[] : Array Value).size]!) = #[] := by simp
                  rw [e0]
                  have h1' : Instr.fill (fun i_1 => some (i_1 * i.size, i.size)) #[] ps' = some r' := h1
                  simp [h1', run_newRow]
                · simp only [h0, if_false, Sem.run_bind, run_zeroValue' hi hzv, Result.andThen_ok, Sem.run_pure, hrange, h1, run_newRow]
              · have := VRel.sl (ι := ι.add m.length (w.heap.size, 0, len)) (i := m.length) (off := 0) (c := w.heap.size) (sh := 0) (cp := len) (len := len) (k := len) (cap := len) (Iota.add_self _ _ _) (Nat.le_refl _) (fun _ => Nat.le_refl _) (.inl ⟨rfl, rfl⟩)
                simpa using this
            · cases hb
          · cases he
        · cases he
    · cases he
  · cases he

end
end Go.Abs
