/- The abstract machine, 5: loads, stores, parts, numbers: what the operations do in the world. -/
import Derived.Test.YteajocebbmfdmaaGreatDoorAbsD
namespace Go.Abs
section
variable {P : Program} {ι : Iota} {m : AMem} {w : World}

theorem run_typeInfo' {t : TypeId} {i : TypeInfo} (h : P.info? t = some i) : (typeInfo t).run P w = .ok i w := by
  simp [typeInfo, h]

theorem tsize_info {t : TypeId} {n : Nat} (h : tsize P t = some n) : ∃ i, P.info? t = some i ∧ i.size = n := by
  unfold tsize at h
  split at h
  · rename_i i hi; simp at h; exact ⟨i, hi, h⟩
  · cases h

theorem run_sizeOf' {t : TypeId} {n : Nat} (h : tsize P t = some n) : (sizeOf t).run P w = .ok n w := by
  obtain ⟨i, hi, rfl⟩ := tsize_info h
  simp [sizeOf, run_typeInfo' hi]

theorem run_underlying' {t : TypeId} {d : TypeDesc} (h : P.underlying t = some d) : (underlying t).run P w = .ok d w := by
  simp [underlying, h]

theorem run_zeroValue' {t : TypeId} {i : TypeInfo} {z : Value} (h : P.info? t = some i) (hz : i.zero = some z) : (zeroValue t).run P w = .ok z w := by
  simp [zeroValue, run_typeInfo' h, hz]

theorem azero_info {t : TypeId} {z : Value} (h : azero P t = some z) : ∃ i, P.info? t = some i ∧ i.zero = some z := by
  unfold azero at h
  split at h
  · rename_i i hi; exact ⟨i, hi, h⟩
  · cases h

theorem run_isAgg' {t : TypeId} {b : Bool} (h : isAggT P t = some b) : (isAgg t).run P w = .ok b w := by
  unfold isAggT at h
  split at h
  · rename_i f hf; simp at h; subst h; simp [isAgg, run_underlying' hf]
  · rename_i f g hf; simp at h; subst h; simp [isAgg, run_underlying' hf]
  · rename_i d h1 h2 hf
    simp at h; subst h
    simp only [isAgg, Sem.run_bind, run_underlying' hf, Result.andThen_ok]
    first
      | (split <;> simp_all)
      | (cases d <;> simp_all)
  · cases h

theorem add_none (c off n : Nat) : (⟨c, off, none⟩ : Addr).add n = ⟨c, off + n, none⟩ := by
  unfold Addr.add
  split
  · rename_i h; subst h; rfl
  · rfl

theorem run_load' {a : Addr} {v : Value} (h : w.cell? a = some v) (md : Mode) : (load a md).run P w = .ok v w := by
  rw [run_load, h]

/-- Cells that stand there, loaded. -/
theorem run_loadCellsFrom {c off : Nat} {cs : List Value} : ∀ (n i : Nat) (acc : Array Value), (∀ k, k < n → ∃ v, cs[i + k]? = some v ∧ w.cell? ⟨c, off + (i + k), none⟩ = some v) →
    (loadCellsFrom ⟨c, off, none⟩ i n acc).run P w = .ok (acc ++ ((cs.drop i).take n).toArray) w := by
  intro n
  induction n with
  | zero => intro i acc _; simp [loadCellsFrom]
  | succ n ih =>
    intro i acc h
    obtain ⟨v, hv, hc⟩ := h 0 (by omega)
    simp only [Nat.add_zero] at hv hc
    simp only [loadCellsFrom, Sem.run_bind, add_none]
    rw [run_load' hc]
    simp only [Result.andThen_ok]
    rw [ih (i + 1) _ (fun k hk => by have := h (k + 1) (by omega); simpa [Nat.add_assoc, Nat.add_comm 1 k] using this)]
    congr 1
    have hlt : i < cs.length := (List.getElem?_eq_some_iff.1 hv).1
    have hd : cs.drop i = v :: cs.drop (i + 1) := by
      rw [List.drop_eq_getElem_cons hlt]
      congr 1
      exact (List.getElem?_eq_some_iff.1 hv).2
    rw [hd]
    simp

theorem run_loadCells' {c off n : Nat} {cs : List Value} (hl : cs.length = n) (h : ∀ k v, cs[k]? = some v → w.cell? ⟨c, off + k, none⟩ = some v) :
    (loadCells ⟨c, off, none⟩ n).run P w = .ok cs.toArray w := by
  unfold loadCells
  rw [run_loadCellsFrom (cs := cs) n 0 #[] (fun k hk => ⟨cs[k]'(by omega), by rw [Nat.zero_add]; exact List.getElem?_eq_getElem _, by rw [Nat.zero_add]; exact h k _ (List.getElem?_eq_getElem _)⟩)]
  simp [← hl]

theorem all_get {p : Value → Bool} {l : List Value} (h : l.all p = true) {i : Nat} {v : Value} (hv : l[i]? = some v) : p v = true :=
  List.all_eq_true.1 h v (List.mem_of_getElem? hv)

/-- A cell of a row. -/
theorem MRel.cell (h : MRel P ι m w) {i c sh cp : Nat} {k : RowKind} {e : TypeId} {cs : List Value} (hi : ι i = some (c, sh, cp)) (ho : m[i]? = some (.row k e cs)) {j : Nat} {v : Value} (hv : cs[j]? = some v) :
    ∃ v', w.cell? ⟨c, sh + j, none⟩ = some v' ∧ VRel ι v v' := by
  have := h.obj i c sh cp _ hi ho
  cases k with
  | ro => exact this.2.2 j v hv
  | var =>
    obtain ⟨rfl, _, cells, hc, hl⟩ := this
    obtain ⟨v', hv', hr⟩ := hl.get hv
    refine ⟨v', ?_, hr⟩
    simp only [World.cell?, hc, Nat.zero_add, Option.isSome_none, Bool.false_eq_true, if_false]
    simpa using hv'
  | sl =>
    obtain ⟨rfl, _, cells, hc, _, hle, hl⟩ := this
    obtain ⟨v', hv', hr⟩ := hl.get hv
    refine ⟨v', ?_, hr⟩
    simp only [World.cell?, hc, Nat.zero_add, Option.isSome_none, Bool.false_eq_true, if_false]
    rw [List.getElem?_take] at hv'
    split at hv'
    · simpa using hv'
    · cases hv'

theorem MRel.row_flat (h : MRel P ι m w) {i c sh cp : Nat} {k : RowKind} {e : TypeId} {cs : List Value} (hi : ι i = some (c, sh, cp)) (ho : m[i]? = some (.row k e cs)) : cs.all flat = true := by
  have := h.obj i c sh cp _ hi ho
  cases k with
  | ro => exact this.2.1
  | var => exact this.2.1
  | sl => exact this.2.1

theorem loadN_sound (h : MRel P ι m w) {b off n c sh cp : Nat} {cs : List Value} (hi : ι b = some (c, sh, cp)) (hl : loadN m b off n = some cs) :
    ∃ cs', (loadCells ⟨c, sh + off, none⟩ n).run P w = .ok cs'.toArray w ∧ LRel ι cs cs' ∧ cs.all flat = true ∧ cs.length = n := by
  unfold loadN at hl
  split at hl
  · rename_i k e all ho
    split at hl
    · rename_i hle
      simp at hl
      subst hl
      have hlen : ((all.drop off).take n).length = n := by simp; omega
      have key : ∀ j, j < n → ∃ v v', all[off + j]? = some v ∧ w.cell? ⟨c, sh + off + j, none⟩ = some v' ∧ VRel ι v v' := by
        intro j hj
        have hlt : off + j < all.length := by omega
        obtain ⟨v', h1, h2⟩ := h.cell hi ho (List.getElem?_eq_getElem hlt)
        exact ⟨_, v', List.getElem?_eq_getElem hlt, by rw [Nat.add_assoc]; exact h1, h2⟩
      let f : Nat → Value := fun j => ((w.cell? ⟨c, sh + off + j, none⟩).getD undef)
      refine ⟨(List.range n).map f, ?_, ⟨by simp; omega, ?_⟩, ?_, hlen⟩
      · apply run_loadCells'
        · simp
        · intro j v hv
          simp only [List.getElem?_map] at hv
          by_cases hj : j < n
          · rw [List.getElem?_range hj] at hv
            simp only [Option.map_some, Option.some.injEq] at hv
            obtain ⟨_, v', _, h1, _⟩ := key j hj
            subst hv
            simp only [f, h1, Option.getD_some]
          · rw [List.getElem?_eq_none (by simpa using hj)] at hv
            cases hv
      · intro j v v' hv hv'
        rw [List.getElem?_take] at hv
        split at hv
        · rename_i hj
          rw [List.getElem?_drop] at hv
          obtain ⟨u, u', h1, h2, h3⟩ := key j hj
          rw [h1] at hv
          simp only [List.getElem?_map, List.getElem?_range hj, Option.map_some, Option.some.injEq] at hv'
          simp at hv
          subst hv; subst hv'
          simpa [f, h2] using h3
        · cases hv
      · have hf := h.row_flat hi ho
        rw [List.all_eq_true] at *
        exact fun x hx => hf x (List.mem_of_mem_drop (List.mem_of_mem_take hx))
    · cases hl
  · cases hl

theorem VRel.agg_of {cs cs' : List Value} (h : LRel ι cs cs') (hf : cs.all flat = true) : VRel ι (.agg cs.toArray) (.agg cs'.toArray) := .agg h.1 h.2 hf

theorem VRel.agg_inv {xs : Array Value} {v' : Value} (h : VRel ι (.agg xs) v') : ∃ xs', v' = .agg xs' ∧ LRel ι xs.toList xs'.toList ∧ xs.toList.all flat = true := by
  cases h with
  | agg h1 h2 hf => exact ⟨_, rfl, ⟨h1, h2⟩, hf⟩

theorem VRel.tuple_inv {xs : Array Value} {v' : Value} (h : VRel ι (.tuple xs) v') : ∃ xs', v' = .tuple xs' ∧ LRel ι xs.toList xs'.toList := by
  cases h with
  | tuple h1 h2 => exact ⟨_, rfl, ⟨h1, h2⟩⟩

theorem VRel.tuple_of {cs cs' : List Value} (h : LRel ι cs cs') : VRel ι (.tuple cs.toArray) (.tuple cs'.toArray) := .tuple h.1 h.2

theorem VRel.func_inv {fn : Fn} {xs ys : Array Value} {v' : Value} (h : VRel ι (.func fn xs ys) v') : ∃ xs' ys', v' = .func fn xs' ys' ∧ LRel ι xs.toList xs'.toList ∧ LRel ι ys.toList ys'.toList := by
  cases h with
  | func fn h1 h2 h3 h4 => exact ⟨_, _, rfl, ⟨h1, h2⟩, ⟨h3, h4⟩⟩

theorem VRel.ptr_inv {b off : Nat} {s : Option Nat} {v' : Value} (h : VRel ι (.pointer (some ⟨b, off, s⟩)) v') : s = none ∧ ∃ c sh cp, ι b = some (c, sh, cp) ∧ v' = .pointer (some ⟨c, sh + off, none⟩) := by
  cases h with
  | ptr h => exact ⟨rfl, _, _, _, h, rfl⟩

/-- The cells of a value. -/
theorem VRel.cells {v v' : Value} (h : VRel ι v v') : LRel ι v.cells.toList v'.cells.toList := by
  cases h with
  | agg h1 h2 hf => exact ⟨h1, h2⟩
  | bool b => exact .cons (.bool b) (LRel.nil ι)
  | int k n => exact .cons (.int k n) (LRel.nil ι)
  | float k n => exact .cons (.float k n) (LRel.nil ι)
  | complex k n m => exact .cons (.complex k n m) (LRel.nil ι)
  | string s => exact .cons (.string s) (LRel.nil ι)
  | pnil => exact .cons .pnil (LRel.nil ι)
  | ptr h => exact .cons (.ptr h) (LRel.nil ι)
  | snil => exact .cons .snil (LRel.nil ι)
  | sl h a b hk => exact .cons (.sl h a b hk) (LRel.nil ι)
  | slq h => exact .cons (.slq h) (LRel.nil ι)
  | mnil => exact .cons .mnil (LRel.nil ι)
  | map h => exact .cons (.map h) (LRel.nil ι)
  | func fn h1 h2 h3 h4 => exact .cons (.func fn h1 h2 h3 h4) (LRel.nil ι)
  | nilFunc => exact .cons .nilFunc (LRel.nil ι)
  | iface t h => exact .cons (.iface t h) (LRel.nil ι)
  | nilIface => exact .cons .nilIface (LRel.nil ι)
  | tuple h1 h2 => exact .cons (.tuple h1 h2) (LRel.nil ι)

theorem aload_sound (h : MRel P ι m w) {t : TypeId} {v v' u : Value} (hv : VRel ι v v') (hl : aload P t v m = some u) :
    ∃ u', (Instr.loadAt t v').run P w = .ok u' w ∧ VRel ι u u' := by
  unfold aload at hl
  split at hl
  · rename_i b off
    obtain ⟨_, c, sh, cp, hi, rfl⟩ := hv.ptr_inv
    simp only [Instr.loadAt, Instr.sureAddr, pure_bind, loadVar, Sem.run_bind]
    split at hl
    · rename_i ha
      rw [run_isAgg' ha]
      split at hl
      · rename_i n hn
        split at hl
        · rename_i cs hcs
          simp at hl; subst hl
          obtain ⟨cs', hr, hrel, hf, _⟩ := loadN_sound h hi hcs
          refine ⟨.agg cs'.toArray, ?_, .agg_of hrel hf⟩
          simp [run_sizeOf' hn, hr]
        · cases hl
      · cases hl
    · rename_i ha
      rw [run_isAgg' ha]
      unfold load1 at hl
      split at hl
      · rename_i k e cs ho
        obtain ⟨v', hc, hrel⟩ := h.cell hi ho hl
        refine ⟨v', ?_, hrel⟩
        simp only [Result.andThen_ok, Bool.false_eq_true, if_false]
        exact run_load' hc _
      · cases hl
    · cases hl
  · cases hl

/-! ### Stores -/

theorem setCell_heap (w : World) (c off : Nat) (v : Value) (b : Nat) : (w.setCell ⟨c, off, none⟩ v).heap[b]? = if b = c then (w.heap[c]?).map (fun | .cells cs e f => .cells (cs.setIfInBounds off v) e f | o => o) else w.heap[b]? := by
  by_cases e : b = c
  · subst e
    simp only [World.setCell, Array.getElem?_modify, if_true]
    cases w.heap[b]? with
    | none => rfl
    | some o => cases o <;> simp
  · simp only [World.setCell, Array.getElem?_modify]
    rw [if_neg (fun h => e h.symm), if_neg e]

theorem flat_one {v : Value} (h : flat v = true) : v.oneCell' = true := by
  cases v <;> simp_all [flat, Value.oneCell']

theorem frozen_none {c off : Nat} {cells : Array Value} {e : TypeId} (h : w.heap[c]? = some (.cells cells e (0, 0))) : w.frozen? ⟨c, off, none⟩ = false := by
  simp [World.frozen?, h]

/-- One cell of a row is written. -/
theorem store1_sound (h : MRel P ι m w) {i off c sh cp : Nat} {k : RowKind} {e : TypeId} {cs : List Value} (hi : ι i = some (c, sh, cp)) (ho : m[i]? = some (.row k e cs)) (hk : k ≠ .ro) (hlt : off < cs.length)
    {v v' : Value} (hv : VRel ι v v') (hf : flat v = true) :
    ∃ w', (store ⟨c, sh + off, none⟩ v').run P w = .ok () w' ∧ MRel P ι (m.set i (.row k e (cs.set off v))) w' ∧ Step m ι w (m.set i (.row k e (cs.set off v))) ι w' := by
  have hown : (AObj.row k e cs).own = true := by cases k <;> simp_all [AObj.own]
  have hobj := h.obj i c sh cp _ hi ho
  obtain ⟨u, hu, _⟩ := h.cell hi ho (List.getElem?_eq_getElem hlt)
  have hflat : (cs.set off v).all flat = true := by
    have := h.row_flat hi ho
    rw [List.all_eq_true] at *
    intro x hx
    rcases List.mem_or_eq_of_mem_set hx with hx | rfl
    · exact this x hx
    · exact hf
  have hfr : w.frozen? ⟨c, sh + off, none⟩ = false := by
    cases k with
    | ro => exact absurd rfl hk
    | var => obtain ⟨_, _, cells, hc, _⟩ := hobj; exact frozen_none hc
    | sl => obtain ⟨_, _, cells, hc, _⟩ := hobj; exact frozen_none hc
  refine ⟨w.setCell ⟨c, sh + off, none⟩ v', ?_, ?_⟩
  · rw [run_store P w _ v' .plain (by have := hv.flat_eq; exact flat_one (by rw [← this]; exact hf)), hu]
    simp [hfr]
  · refine h.update hi ho hown (.inl ?_) (fun b hb => by rw [setCell_heap, if_neg hb]) ?_ rfl rfl rfl (by simp [World.setCell])
    · cases k <;> simp_all [AObj.own]
    · cases k with
      | ro => exact absurd rfl hk
      | var =>
        obtain ⟨rfl, _, cells, hc, hl⟩ := hobj
        refine ⟨rfl, hflat, cells.setIfInBounds off v', ?_, ?_⟩
        · rw [setCell_heap, if_pos rfl, hc]; simp
        · simpa using hl.set off hv
      | sl =>
        obtain ⟨rfl, _, cells, hc, hsz, hle, hl⟩ := hobj
        refine ⟨rfl, hflat, cells.setIfInBounds off v', ?_, by simpa using hsz, by simpa using hle, ?_⟩
        · rw [setCell_heap, if_pos rfl, hc]; simp
        · have := hl.set off hv
          simpa [List.take_set] using this

theorem put_length : ∀ (vs cs : List Value) (off : Nat), (put cs off vs).length = cs.length
  | [], _, _ => rfl
  | v :: vs, cs, off => by rw [put, put_length vs]; simp

theorem storeCells_sound : ∀ (vs vs' : List Value) (m : AMem) (w : World) (i off c sh cp j : Nat) (k : RowKind) (e : TypeId) (cs : List Value), MRel P ι m w → ι i = some (c, sh, cp) → m[i]? = some (.row k e cs) → k ≠ .ro →
    off + j + vs.length ≤ cs.length → LRel ι vs vs' → vs.all flat = true →
    ∃ w', (storeCells ⟨c, sh + off, none⟩ vs' j).run P w = .ok () w' ∧ MRel P ι (m.set i (.row k e (put cs (off + j) vs))) w' ∧ Step m ι w (m.set i (.row k e (put cs (off + j) vs))) ι w'
  | [], vs', m, w, i, off, c, sh, cp, j, k, e, cs, h, hi, ho, hk, hle, hr, hf => by
    have := hr.unnil; subst this
    have hset : m.set i (.row k e cs) = m := by
      apply List.ext_getElem?
      intro x
      rw [List.getElem?_set]
      split
      · rename_i e'; subst e'; split
        · exact ho.symm
        · rename_i hn; rw [List.getElem?_eq_none (by omega)]
      · rfl
    refine ⟨w, by simp [storeCells], ?_, ?_⟩
    · simp only [put, hset]; exact h
    · simp only [put, hset]; exact Step.refl _ _ _
  | v :: vs, vs', m, w, i, off, c, sh, cp, j, k, e, cs, h, hi, ho, hk, hle, hr, hf => by
    obtain ⟨v', r', rfl, hv, hr'⟩ := hr.uncons
    simp only [List.length_cons] at hle
    simp only [List.all_cons, Bool.and_eq_true] at hf
    obtain ⟨w1, h1, h2, h3⟩ := store1_sound h hi ho hk (off := off + j) (by omega) hv hf.1
    have ho1 : (m.set i (.row k e (cs.set (off + j) v)))[i]? = some (.row k e (cs.set (off + j) v)) := by
      rw [List.getElem?_set_self (List.getElem?_eq_some_iff.1 ho).1]
    obtain ⟨w2, h4, h5, h6⟩ := storeCells_sound vs r' _ w1 i off c sh cp (j + 1) k e _ h2 hi ho1 hk (by simp; omega) hr' hf.2
    refine ⟨w2, ?_, ?_, ?_⟩
    · simp only [storeCells, Sem.run_bind, add_none]
      rw [Nat.add_assoc sh off j, h1]
      simpa using h4
    · simpa [put, Nat.add_assoc] using h5
    · have := h3.trans h6
      simpa [put, Nat.add_assoc] using this

theorem storeN_sound (h : MRel P ι m w) {b off c sh cp : Nat} {vs vs' : List Value} {m' : AMem} (hi : ι b = some (c, sh, cp)) (hs : storeN m b off vs = some m') (hr : LRel ι vs vs') :
    ∃ w', (storeCells ⟨c, sh + off, none⟩ vs').run P w = .ok () w' ∧ MRel P ι m' w' ∧ Step m ι w m' ι w' := by
  unfold storeN at hs
  split at hs
  · rename_i k e cs ho
    split at hs
    · rename_i hc
      simp at hs; subst hs
      obtain ⟨w', h1, h2, h3⟩ := storeCells_sound vs vs' m w b off c sh cp 0 k e cs h hi ho hc.1 (by omega) hr hc.2.2
      exact ⟨w', h1, h2, h3⟩
    · cases hs
  · cases hs

theorem LRel.size_eq {xs xs' : Array Value} (h : LRel ι xs.toList xs'.toList) : xs.size = xs'.size := by
  have := h.1; simpa using this

theorem astore_sound (h : MRel P ι m w) {t : TypeId} {v v' x x' : Value} {m' : AMem} (hv : VRel ι v v') (hx : VRel ι x x') (hs : astore P t v x m = some m') :
    ∃ w', (Instr.storeAt t v' x').run P w = .ok () w' ∧ MRel P ι m' w' ∧ Step m ι w m' ι w' := by
  unfold astore at hs
  split at hs
  · rename_i b off
    obtain ⟨_, c, sh, cp, hi, rfl⟩ := hv.ptr_inv
    split at hs
    · rename_i n hn
      split at hs
      · rename_i hsz
        obtain ⟨w', h1, h2, h3⟩ := storeN_sound h hi hs hx.cells
        refine ⟨w', ?_, h2, h3⟩
        simp only [Instr.storeAt, Instr.sureAddr, pure_bind, storeVar, Sem.run_bind, run_sizeOf' hn, Result.andThen_ok]
        have : x'.cells.size = n := by rw [← LRel.size_eq hx.cells]; exact hsz
        simp [this, h1]
      · cases hs
    · cases hs
  · cases hs

/-! ### New rows -/

theorem new_var (h : MRel P ι m w) {e : TypeId} {cs : List Value} {cs' : Array Value} (hr : LRel ι cs cs'.toList) (hf : cs.all flat = true) :
    MRel P (ι.add m.length (w.heap.size, 0, 0)) (m ++ [.row .var e cs]) { w with heap := w.heap.push (.cells cs' e) } ∧
    Step m ι w (m ++ [.row .var e cs]) (ι.add m.length (w.heap.size, 0, 0)) { w with heap := w.heap.push (.cells cs' e) } := by
  refine h.alloc 0 rfl rfl rfl rfl ⟨rfl, hf, cs', by simp, hr.mono (Iota.add_le h _)⟩

theorem new_sl (h : MRel P ι m w) {e : TypeId} {cs : List Value} {cs' : Array Value} (cp : Nat) (hsz : cs'.size = cp * P.cellsOf e) (hle : cs.length ≤ cs'.size) (hr : LRel ι cs (cs'.toList.take cs.length)) (hf : cs.all flat = true) :
    MRel P (ι.add m.length (w.heap.size, 0, cp)) (m ++ [.row .sl e cs]) { w with heap := w.heap.push (.cells cs' e) } ∧
    Step m ι w (m ++ [.row .sl e cs]) (ι.add m.length (w.heap.size, 0, cp)) { w with heap := w.heap.push (.cells cs' e) } := by
  refine h.alloc cp rfl rfl rfl rfl ⟨rfl, hf, cs', by simp, hsz, hle, hr.mono (Iota.add_le h _)⟩

theorem run_newRow (e : TypeId) (cs : Array Value) : (newRow e cs).run P w = .ok ⟨w.heap.size, 0, none⟩ { w with heap := w.heap.push (.cells cs e) } := by
  simp [newRow]

/-! ### Parts of a value -/

theorem apart_sound {t : TypeId} {xs xs' : Array Value} {off : Nat} {u : Value} (h : LRel ι xs.toList xs'.toList) (hf : xs.toList.all flat = true) (ha : apart P t xs off = some u) :
    ∃ u', (part t xs' off).run P w = .ok u' w ∧ VRel ι u u' := by
  unfold apart at ha
  split at ha
  · rename_i hag
    split at ha
    · rename_i n hn
      simp at ha; subst ha
      refine ⟨.agg (xs'.extract off (off + n)), ?_, ?_⟩
      · simp [part, run_isAgg' hag, run_sizeOf' hn]
      · have h1 : LRel ι ((xs.toList.drop off).take n) ((xs'.toList.drop off).take n) := (h.drop off).take n
        have e1 : (xs.extract off (off + n)).toList = (xs.toList.drop off).take n := by simp
        have e2 : (xs'.extract off (off + n)).toList = (xs'.toList.drop off).take n := by simp
        refine .agg (by rw [e1, e2]; exact h1.1) (by rw [e1, e2]; exact h1.2) ?_
        rw [e1, List.all_eq_true]
        rw [List.all_eq_true] at hf
        exact fun x hx => hf x (List.mem_of_mem_drop (List.mem_of_mem_take hx))
    · cases ha
  · rename_i hag
    obtain ⟨u', hu', hr⟩ := h.get (i := off) (v := u) (by simpa using ha)
    refine ⟨u', ?_, hr⟩
    have : xs'[off]? = some u' := by simpa using hu'
    simp [part, run_isAgg' hag, this]
  · cases ha

end
end Go.Abs
