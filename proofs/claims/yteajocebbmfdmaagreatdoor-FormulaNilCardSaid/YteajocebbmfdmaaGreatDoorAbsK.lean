/- The abstract machine, 11: append, copy, make and their kin. -/
import Derived.Test.YteajocebbmfdmaaGreatDoorAbsJ
namespace Go.Abs
section
variable {P : Program} {ι : Iota} {m : AMem} {w : World}

theorem put_take : ∀ (vs cs : List Value) (off : Nat), off + vs.length ≤ cs.length → (put cs off vs).take (off + vs.length) = cs.take off ++ vs
  | [], cs, off, _ => by simp [put]
  | v :: vs, cs, off, h => by
    simp only [List.length_cons] at h
    have := put_take vs (cs.set off v) (off + 1) (by simp; omega)
    simp only [put, List.length_cons]
    rw [show off + (vs.length + 1) = off + 1 + vs.length by omega, this]
    rw [List.take_add_one, List.take_set_of_le (Nat.le_refl _), List.getElem?_set_self (by omega)]
    simp

/-- Cells of one block, stored one behind the other. -/
theorem run_storeCells' : ∀ (vs : List Value) (j : Nat) (w : World) (c off : Nat) (e : TypeId) (cells : Array Value), w.heap[c]? = some (.cells cells e (0, 0)) → off + j + vs.length ≤ cells.size → vs.all flat = true →
    ∃ w', (storeCells ⟨c, off, none⟩ vs j).run P w = .ok () w' ∧ w'.heap[c]? = some (.cells ⟨put cells.toList (off + j) vs⟩ e (0, 0)) ∧ (∀ b, b ≠ c → w'.heap[b]? = w.heap[b]?) ∧ w'.os = w.os ∧ w'.tape = w.tape ∧ w'.output = w.output ∧ w'.heap.size = w.heap.size
  | [], j, w, c, off, e, cells, h, hle, hf => ⟨w, by simp [storeCells], by simpa [put] using h, fun _ _ => rfl, rfl, rfl, rfl, rfl⟩
  | v :: vs, j, w, c, off, e, cells, h, hle, hf => by
    simp only [List.length_cons] at hle
    simp only [List.all_cons, Bool.and_eq_true] at hf
    have hlt : off + j < cells.size := by omega
    have hcell : w.cell? ⟨c, off + j, none⟩ = some cells[off + j] := by
      simp [World.cell?, h, hlt]
    have h1 : (w.setCell ⟨c, off + j, none⟩ v).heap[c]? = some (.cells (cells.setIfInBounds (off + j) v) e (0, 0)) := by
      rw [setCell_heap, if_pos rfl, h]; simp
    obtain ⟨w', a1, a2, a3, a4, a5, a6, a7⟩ := run_storeCells' vs (j + 1) (w.setCell ⟨c, off + j, none⟩ v) c off e _ h1 (by simp; omega) hf.2
    refine ⟨w', ?_, ?_, ?_, a4, a5, a6, by rw [a7]; simp [World.setCell]⟩
    · simp only [storeCells, Sem.run_bind, add_none]
      rw [run_store P w _ v .plain (flat_one hf.1), hcell]
      simp only [frozen_none h, Bool.false_eq_true, if_false, Result.andThen_ok]
      exact a1
    · simpa [put, Nat.add_assoc] using a2
    · intro b hb
      rw [a3 b hb, setCell_heap, if_neg hb]

theorem afirst_sound (h : MRel P ι m w) {size n : Nat} {v v' : Value} {cs : List Value} (hv : VRel ι v v') (he : afirst size n v m = some cs) : ∃ cs', (Builtin.firstCells size n v').run P w = .ok cs'.toArray w ∧ LRel ι cs cs' ∧ cs.all flat = true := by
  unfold afirst at he
  split at he
  · split at he
    · rename_i hn
      simp at he; subst he; subst hn
      cases hv
      exact ⟨[], by simp [Builtin.firstCells], LRel.nil ι, rfl⟩
    · cases he
  · rename_i b off len c
    split at he
    · split at he
      · rename_i hn
        simp at he; subst he; subst hn
        cases hv <;> exact ⟨[], by simp [Builtin.firstCells, loadCells, loadCellsFrom], LRel.nil ι, rfl⟩
      · rename_i hn
        cases hv with
        | sl hb _ _ _ =>
          obtain ⟨cs', h1, h2, h3, _⟩ := loadN_sound h hb he
          exact ⟨cs', by simpa [Builtin.firstCells] using h1, h2, h3⟩
        | slq hb => omega
    · cases he
  · rename_i s
    split at he
    · rename_i hc
      simp only [Option.some.injEq] at he; subst he
      cases hv
      refine ⟨_, ?_, ⟨rfl, fun i v v' a b => ?_⟩, ?_⟩
      · simp only [Builtin.firstCells, Sem.run_pure]
        congr 1
        apply Array.ext'
        simp only [Array.toList_map]
      · rw [a] at b; simp at b; subst b
        simp only [List.getElem?_map] at a
        obtain ⟨x, _, hx⟩ := Option.map_eq_some_iff.1 a
        subst hx; exact .int _ _
      · rw [List.all_eq_true]; intro x hx; obtain ⟨y, _, rfl⟩ := List.mem_map.1 hx; rfl
    · cases he
  · cases he

theorem alen1_sound {v v' : Value} {n : Nat} (hv : VRel ι v v') (he : alen1 v = some n) : (Builtin.lenOf v').run P w = .ok n w := by
  unfold alen1 at he
  split at he
  · simp at he; subst he
    cases hv <;> simp [Builtin.lenOf]
  · simp at he; subst he
    cases hv; simp [Builtin.lenOf]
  · cases he

theorem growBy_le (n : Nat) : ∀ (k c : Nat), 256 ≤ c → c ≤ 2 * n → Builtin.growBy n k c ≤ 2 * n
  | 0, c, _, h => by simpa [Builtin.growBy] using h
  | k + 1, c, h1, h2 => by
    unfold Builtin.growBy
    split
    · exact h2
    · exact growBy_le n k _ (by omega) (by omega)

theorem nextslicecap_le {n c : Nat} (h : c < n) : Builtin.nextslicecap n c ≤ 2 * n := by
  unfold Builtin.nextslicecap
  split
  · omega
  · split
    · omega
    · exact growBy_le n 4 c (by omega) (by omega)

/-- A place gives its block to a new place. -/
theorem MRel.move (h : MRel P ι m w) {i c sh cp : Nat} {o o' : AObj} {w' : World} (hi : ι i = some (c, sh, cp)) (ho : m[i]? = some o) (hown : o.own = true) (hw : ∀ b, b ≠ c → w'.heap[b]? = w.heap[b]?)
    (hr : ORel P ι w' c 0 cp o') (hos : w'.os = w.os) (htape : w'.tape = w.tape) (hout : w'.output = w.output) (hsz : w'.heap.size = w.heap.size) :
    MRel P (ι.add m.length (c, 0, cp)) (m.set i .dead ++ [o']) w' ∧ Step m ι w (m.set i .dead ++ [o']) (ι.add m.length (c, 0, cp)) w' := by
  obtain ⟨hu1, hu2⟩ := h.update hi ho hown (.inr rfl) hw (o' := .dead) (w' := w') trivial hos htape hout hsz
  have hlen : (m.set i .dead).length = m.length := by simp
  have hle : Le ι (ι.add m.length (c, 0, cp)) := Iota.add_le h _
  have hclt := h.lt hi ho hown
  have hdead : ∀ (j sh' cp' : Nat) (x : AObj), ι j = some (c, sh', cp') → (m.set i .dead)[j]? = some x → x.alive = false := by
    intro j sh' cp' x hj hx
    cases hal : x.alive with
    | false => rfl
    | true =>
      exfalso
      rw [List.getElem?_set] at hx
      split at hx
      · split at hx
        · simp at hx; subst hx; simp [AObj.alive] at hal
        · cases hx
      · rename_i hne
        exact hne (h.inj i j c sh cp sh' cp' o x hi hj ho hx hown hal)
  have hcase : ∀ (j : Nat) (x : AObj) (y : Nat × Nat × Nat), (ι.add m.length (c, 0, cp)) j = some y → (m.set i .dead ++ [o'])[j]? = some x → (j = m.length ∧ x = o' ∧ y = (c, 0, cp)) ∨ (j < m.length ∧ (m.set i .dead)[j]? = some x ∧ ι j = some y) := by
    intro j x y hj hx
    by_cases e : j = m.length
    · subst e
      rw [List.getElem?_append_right (by simp)] at hx
      simp at hx
      simp [Iota.add] at hj
      exact .inl ⟨rfl, hx.symm, hj.symm⟩
    · simp only [Iota.add, if_neg e] at hj
      have := h.dom j y hj
      rw [List.getElem?_append_left (by simpa using this)] at hx
      exact .inr ⟨this, hx, hj⟩
  refine ⟨⟨?_, ?_, ?_, ?_⟩, ⟨hle, hos, htape, hout, by omega, by simp, hu2.frame, ?_, fun i hi => by simp only [Iota.add]; rw [if_neg (by omega)]⟩⟩
  · intro j x hj
    by_cases e : j = m.length
    · simp [e]
    · simp only [Iota.add, if_neg e] at hj
      have := h.dom j x hj
      simp; omega
  · intro j d sh' cp' x hj hx
    rcases hcase j x _ hj hx with ⟨rfl, rfl, e⟩ | ⟨hlt, hx, hj⟩
    · simp at e; obtain ⟨rfl, rfl, rfl⟩ := e; exact hr.mono hle
    · exact (hu1.obj j d sh' cp' x hj hx).mono hle
  · intro j k d sh1 cp1 sh2 cp2 x y hj hk hx hy hox hay
    rcases hcase j x _ hj hx with ⟨rfl, rfl, e⟩ | ⟨hlt, hx2, hj2⟩
    · simp at e; obtain ⟨rfl, rfl, rfl⟩ := e
      rcases hcase k y _ hk hy with ⟨rfl, rfl, e⟩ | ⟨hlt', hy2, hk2⟩
      · rfl
      · have := hdead k _ _ y hk2 hy2; rw [hay] at this; cases this
    · rcases hcase k y _ hk hy with ⟨rfl, rfl, e⟩ | ⟨hlt', hy2, hk2⟩
      · simp at e; obtain ⟨rfl, rfl, rfl⟩ := e
        have := hdead j _ _ x hj2 hx2
        have : x.own = false := by cases x <;> simp_all [AObj.alive, AObj.own]
        rw [hox] at this; cases this
      · exact hu1.inj j k d sh1 cp1 sh2 cp2 x y hj2 hk2 hx2 hy2 hox hay
  · intro g hg; exact hle _ _ (h.glob g hg)
  · rintro b hb ⟨j, sh', cp', x, hj, hx, hox⟩
    rcases hcase j x _ hj hx with ⟨rfl, rfl, e⟩ | ⟨hlt, hx2, hj2⟩
    · simp at e; obtain ⟨rfl, _, _⟩ := e; exact ⟨i, sh, cp, o, hi, ho, hown⟩
    · exact hu2.own b hb ⟨j, sh', cp', x, hj2, hx2, hox⟩

theorem zeroCells_size {z : Array Value} {n : Nat} : (Builtin.zeroCells z n).size = n * z.size := by simp [Builtin.zeroCells]

theorem first0 {size : Nat} {x x' : Value} (hx : VRel ι x x') (hn : alen1 x = some 0) : (Builtin.firstCells size 0 x').run P w = .ok #[] w := by
  unfold alen1 at hn
  split at hn
  · cases hx <;> simp [Builtin.firstCells, loadCells, loadCellsFrom]
  · cases hx
    simp only [Builtin.firstCells, Sem.run_pure]
    congr 1
    apply Array.ext'
    simp
  · cases hn

theorem afirst_len {size n : Nat} {v : Value} {cs : List Value} (he : afirst size n v m = some cs) : cs.length = n * size := by
  unfold afirst at he
  split at he
  · split at he
    · rename_i hn; simp at he; subst he; subst hn; simp
    · cases he
  · split at he
    · split at he
      · rename_i hn; simp at he; subst he; subst hn; simp
      · unfold loadN at he
        split at he
        · split at he
          · simp at he; subst he; simp; omega
          · cases he
        · cases he
    · cases he
  · split at he
    · rename_i hc; simp only [Option.some.injEq] at he; subst he
      have := hc.1
      simp [hc.2]; omega
    · cases he
  · cases he

theorem aappend_sound (h : MRel P ι m w) {ts : Array TypeId} {ty : TypeId} {s s' x x' : Value} {r : ARes} {m' : AMem} (hs : VRel ι s s') (hx : VRel ι x x') (he : aappend P ts.toList s x m = some (r, m')) :
    ∃ ι' w' v v', r = .val v ∧ (Builtin.append_ ts ty #[s', x']).run P w = .ok v' w' ∧ VRel ι' v v' ∧ MRel P ι' m' w' ∧ Step m ι w m' ι' w' := by
  unfold aappend at he
  split at he
  · rename_i t u tr hts
    have ht0 : ts[0]? = some t := by rw [← Array.getElem?_toList, hts]; rfl
    have ht1 : ts[1]? = some u := by rw [← Array.getElem?_toList, hts]; rfl
    split at he
    · cases he
    · rename_i e du hnint hut huu
      split at he
      · rename_i i zs n hi hz0 hn
        split at he
        · rename_i base len c
          split at he
          · cases he
          · rename_i hbytes
            obtain ⟨i2, z, hi2, hzv, hsz, hpos, _, _, _⟩ := zeros_eq hz0
            rw [hi] at hi2; simp at hi2; subst hi2
            have hts' : tsize P e = some i.size := by simp [tsize, hi]
            have hcap : ∃ base' cap, s' = .slice base' len cap ∧ len ≤ cap := by
              cases hs with
              | snil => exact ⟨_, _, rfl, Nat.le_refl _⟩
              | sl _ hle _ _ => exact ⟨_, _, rfl, hle⟩
              | slq _ => exact ⟨_, _, rfl, Nat.zero_le _⟩
            obtain ⟨base', cap, rfl, hcap⟩ := hcap
            split at he
            · rename_i hn0
              subst hn0
              simp only [Option.some.injEq, Prod.mk.injEq] at he; obtain ⟨rfl, rfl⟩ := he
              refine ⟨ι, w, _, _, rfl, ?_, hs, h, Step.refl _ _ _⟩
              have hx0 := first0 (P := P) (w := w) (size := i.size) hx hn
              unfold Builtin.append_
              simp only [ht0, ht1, List.getElem?_toArray, List.getElem?_cons_zero, List.getElem?_cons_succ, Sem.run_bind, run_underlying' hut, run_underlying' huu, Result.andThen_ok, run_sizeOf' hts', Sem.run_pure,
                Bool.false_eq_true, if_false, alen1_sound (P := P) (w := w) hx hn, Nat.add_zero, if_pos hcap, Bool.not_false, if_true, hx0]
              cases base' with
              | none => simp
              | some a => simp [storeCells]
            · rename_i hn0
              split at he
              · cases he
              · rename_i hbig
                split at he
                · rename_i new old hnew hold
                  split at he
                  · cases he
                  · rename_i hfl
                    have hflat : new.all flat = true := by simpa using hfl
                    have hlo := afirst_len hold
                    have hln := afirst_len hnew
                    -- the run where it grows
                    have grow : cap < len + n → ∃ ι' w' N, (Builtin.append_ ts ty #[.slice base' len cap, x']).run P w = .ok (.slice (some ⟨w.heap.size, 0, none⟩) (len + n) N) w' ∧
                        VRel ι' (.slice (some ⟨m.length, 0, none⟩) (len + n) (len + n + 1)) (.slice (some ⟨w.heap.size, 0, none⟩) (len + n) N) ∧ MRel P ι' (m ++ [.row .sl e (old ++ new)]) w' ∧ Step m ι w (m ++ [.row .sl e (old ++ new)]) ι' w' := by
                      intro hg
                      let N := (Question.appendCap (len + n) cap e).cut (w.tape w.drawn (Question.appendCap (len + n) cap e))
                      have hN : len + n ≤ N := by simp only [N, Question.cut]; omega
                      have h1 : MRel P ι m { w with drawn := w.drawn + 1 } := h.drew _
                      obtain ⟨old', ho1, ho2, hoflat⟩ := afirst_sound h1 hs hold
                      obtain ⟨new', hn1, hn2, _⟩ := afirst_sound h1 hx hnew
                      have hnext := nextslicecap_le hg
                      have hnb : ¬ Builtin.nextslicecap (len + n) cap * i.bytes > 2 ^ 48 := by
                        have := Nat.mul_le_mul_right i.bytes hnext
                        rw [Nat.mul_assoc] at this
                        omega
                      have hsize : (old'.toArray ++ new'.toArray ++ Builtin.zeroCells z.cells (N - (len + n))).size = N * P.cellsOf e := by
                        simp only [Array.size_append, List.size_toArray, zeroCells_size, ← ho2.1, ← hn2.1, hlo, hln, hsz, tsize_cells hts']
                        rw [← Nat.add_mul, ← Nat.add_mul]
                        congr 1; omega
                      have hallflat : (old ++ new).all flat = true := by rw [List.all_append, hoflat, hflat]; rfl
                      have hnewsl := new_sl h1 (e := e) (cs := old ++ new) (cs' := old'.toArray ++ new'.toArray ++ Builtin.zeroCells z.cells (N - (len + n))) N hsize
                        (by simp [← ho2.1, ← hn2.1])
                        (by
                          have : (old ++ new).length = (old' ++ new').length := by simp [ho2.1, hn2.1]
                          rw [this]
                          simp only [Array.toList_append]
                          rw [List.take_left]
                          exact ho2.append hn2) hallflat
                      refine ⟨_, _, N, ?_, ?_, hnewsl.1, (Step.drew (w.drawn + 1)).trans hnewsl.2⟩
                      · unfold Builtin.append_
                        have hmax : ¬ (((len + n : Nat) : Int) > IntKind.i64.max ∧ (False ∨ i.bytes = 0)) := by
                          rintro ⟨_, h | h⟩
                          · exact h
                          · exact hbytes h
                        simp only [ht0, ht1, List.getElem?_toArray, List.getElem?_cons_zero, List.getElem?_cons_succ, Sem.run_bind, run_underlying' hut, run_underlying' huu, Result.andThen_ok, run_sizeOf' hts', Sem.run_pure,
                          Bool.false_eq_true, if_false, alen1_sound (P := P) (w := w) hx hn, if_neg (show ¬ len + n ≤ cap by omega), Bool.not_false, if_true, run_typeInfo' hi, if_neg hmax, if_neg hnb, run_choose, Question.forced, run_askRoom]
                        simp only [ho1, hn1, Result.andThen_ok, run_zeroValue' hi hzv, run_newRow]
                        rfl
                      · have := VRel.sl (ι := ι.add m.length (w.heap.size, 0, N)) (i := m.length) (off := 0) (c := w.heap.size) (sh := 0) (cp := N) (len := len + n) (k := len + n + 1) (cap := N) (Iota.add_self _ _ _) hN (fun _ => Nat.le_refl _) (.inr rfl)
                        simpa using this
                    split at he
                    · simp only [Option.some.injEq, Prod.mk.injEq] at he; obtain ⟨rfl, rfl⟩ := he
                      have hc0 : len = 0 ∧ cap = 0 := by cases hs; exact ⟨rfl, rfl⟩
                      obtain ⟨ι', w', N, g1, g2, g3, g4⟩ := grow (by omega)
                      exact ⟨ι', w', _, _, rfl, g1, g2, g3, g4⟩
                    · rename_i b off
                      split at he
                      · rename_i hc
                        simp only [Option.some.injEq, Prod.mk.injEq] at he; obtain ⟨rfl, rfl⟩ := he
                        have hcc : cap = len := by
                          cases hs with
                          | sl _ _ _ hk => omega
                          | slq _ => omega
                        obtain ⟨ι', w', N, g1, g2, g3, g4⟩ := grow (by omega)
                        exact ⟨ι', w', _, _, rfl, g1, g2, g3, g4⟩
                      · split at he
                        · rename_i hc hcond
                          split at he
                          · rename_i e' cells hm
                            split at he
                            · rename_i hee
                              subst hee
                              simp only [Option.some.injEq, Prod.mk.injEq] at he; obtain ⟨rfl, rfl⟩ := he
                              cases hs with
                              | slq _ => omega
                              | sl hb hle hcp hk =>
                                rename_i c0 sh cp
                                obtain ⟨hc1, rfl⟩ := hcond
                                by_cases hfit : len + n ≤ cap
                                · -- in place
                                  obtain ⟨rfl, hcf, cs', hX, hcsz, hcle, hcrel⟩ := h.obj b c0 sh cp _ hb hm
                                  obtain ⟨new', hn1, hn2, _⟩ := afirst_sound h hx hnew
                                  have hn2f : new'.all flat = true := by rw [← hn2.all_flat]; exact hflat
                                  have hcap2 := hcp rfl
                                  have hlen' : new'.length = n * i.size := by rw [← hn2.1]; exact hln
                                  have hroom : 0 + len * i.size + 0 + new'.length ≤ cs'.size := by
                                    rw [hlen', hcsz, tsize_cells hts']
                                    have : (len + n) * i.size ≤ cp * i.size := Nat.mul_le_mul_right _ (by omega)
                                    rw [Nat.add_mul] at this
                                    omega
                                  obtain ⟨w', s1, s2, s3, s4, s5, s6, s7⟩ := run_storeCells' (P := P) new' 0 w c0 (0 + len * i.size) e' cs' hX hroom hn2f
                                  have hcells : cells.take (len * i.size) = old ∧ len * i.size ≤ cells.length := by
                                    unfold afirst at hold
                                    simp only at hold
                                    split at hold
                                    · split at hold
                                      · rename_i hl0
                                        simp at hold; subst hold; subst hl0; simp
                                      · unfold loadN at hold
                                        rw [hm] at hold
                                        simp only at hold
                                        split at hold
                                        · rename_i hll
                                          simp at hold; subst hold
                                          exact ⟨by simp, by omega⟩
                                        · cases hold
                                    · cases hold
                                  have hmv := h.move (o' := .row .sl e' (old ++ new)) (w' := w') hb hm rfl s3 ⟨rfl, by
                                      rw [List.all_append, hflat, Bool.and_true, ← hcells.1]
                                      rw [List.all_eq_true] at *
                                      exact fun y hy => hcf y (List.mem_of_mem_take hy), _, s2, by
                                        have : ∀ (vs cs : List Value) (off : Nat), (put cs off vs).length = cs.length := put_length
                                        simpa [this] using hcsz, by
                                        have : ∀ (vs cs : List Value) (off : Nat), (put cs off vs).length = cs.length := put_length
                                        simp [this, hlo, hln]
                                        rw [hlen'] at hroom
                                        omega, by
                                        have e1 : (old ++ new).length = 0 + len * i.size + 0 + new'.length := by simp [hlo, hln, hlen']
                                        rw [e1]
                                        rw [put_take _ _ _ (by simpa using hroom)]
                                        refine LRel.append ?_ hn2
                                        rw [← hcells.1]
                                        have := hcrel.take (len * i.size)
                                        rw [List.take_take, Nat.min_eq_left hcells.2] at this
                                        simpa using this⟩ s4 s5 s6 s7
                                  refine ⟨_, w', _, .slice (some ⟨c0, 0 + 0, none⟩) (len + n) cap, rfl, ?_, ?_, hmv.1, hmv.2⟩
                                  · unfold Builtin.append_
                                    simp only [ht0, ht1, List.getElem?_toArray, List.getElem?_cons_zero, List.getElem?_cons_succ, Sem.run_bind, run_underlying' hut, run_underlying' huu, Result.andThen_ok, run_sizeOf' hts', Sem.run_pure,
                                      Bool.false_eq_true, if_false, alen1_sound (P := P) (w := w) hx hn, if_pos hfit, Bool.not_false, if_true, hn1, add_none]
                                    simp only [s1, Result.andThen_ok]
                                  · exact VRel.sl (ι := ι.add m.length (c0, 0, cp)) (i := m.length) (off := 0) (c := c0) (sh := 0) (cp := cp) (Iota.add_self _ _ _) hfit (fun _ => hcap2) (.inr rfl)
                                · obtain ⟨ι', w', N, g1, g2, g3, g4⟩ := grow (by omega)
                                  have hblt : b < m.length := (List.getElem?_eq_some_iff.1 hm).1
                                  have hk2 := g3.update (g4.le _ _ hb) (o := .row .sl e' cells) (by rw [List.getElem?_append_left hblt]; exact hm) rfl (.inr rfl) (o' := .dead) (w' := w') (fun _ _ => rfl) trivial rfl rfl rfl rfl
                                  rw [List.set_append_left _ _ hblt] at hk2
                                  exact ⟨ι', w', _, _, rfl, g1, g2, hk2.1, g4.trans hk2.2⟩
                            · cases he
                          · cases he
                        · cases he
                    · cases he
                · cases he
        · cases he
      · cases he
    · cases he
  · cases he

end
end Go.Abs
