/- The abstract machine, 12: the other built-ins; strings gone through. -/
import Derived.Test.YteajocebbmfdmaaGreatDoorAbsK
namespace Go.Abs
section
variable {P : Program} {ι : Iota} {m : AMem} {w : World}

theorem acopy_sound (h : MRel P ι m w) {ts : Array TypeId} {ty : TypeId} {d d' s s' : Value} {r : ARes} {m' : AMem} (hd : VRel ι d d') (hs : VRel ι s s') (he : acopy P ts.toList d s m = some (r, m')) :
    ∃ w' v, r = .val v ∧ (Builtin.copy_ ts ty #[d', s']).run P w = .ok v w' ∧ VRel ι v v ∧ MRel P ι m' w' ∧ Step m ι w m' ι w' := by
  unfold acopy at he
  split at he
  · rename_i t tr hts
    have ht0 : ts[0]? = some t := by rw [← Array.getElem?_toList, hts]; rfl
    split at he
    · rename_i e hu
      split at he
      · rename_i size sn base dn c hsz hsn
        simp only at he
        split at he
        · rename_i cs hcs
          obtain ⟨cs', h1, h2, hf⟩ := afirst_sound h hs hcs
          have hfront : ∀ (base' : Option Addr) (cap : Nat), (Builtin.copy_ ts ty #[.slice base' dn cap, s']).run P w = (match base' with | some a => (do storeCells a cs'; pure (goInt (Nat.min sn dn)) : Sem Value) | none => pure (goInt (Nat.min sn dn))).run P w := by
            intro base' cap
            unfold Builtin.copy_
            simp only [ht0, List.getElem?_toArray, List.getElem?_cons_zero, List.getElem?_cons_succ, Sem.run_bind, run_underlying' hu, Result.andThen_ok, run_sizeOf' hsz, alen1_sound (P := P) (w := w) hs hsn, h1]
            cases base' <;> simp
          split at he
          · rename_i b off
            split at he
            · rename_i hn
              simp only [Option.some.injEq, Prod.mk.injEq] at he; obtain ⟨rfl, rfl⟩ := he
              have hcs0 : cs' = [] := by
                have := afirst_len hcs
                rw [hn] at this
                have e := h2.1
                apply List.eq_nil_of_length_eq_zero
                omega
              subst hcs0
              refine ⟨w, _, rfl, ?_, .int _ _, h, Step.refl _ _ _⟩
              cases hd <;> (rw [hfront]; simp [storeCells])
            · rename_i hn
              split at he
              · rename_i m2 hst
                simp only [Option.some.injEq, Prod.mk.injEq] at he; obtain ⟨rfl, rfl⟩ := he
                cases hd with
                | slq hb =>
                  exfalso; apply hn; simp
                | sl hb hle hcp hk =>
                  obtain ⟨w', s1, s2, s3⟩ := storeN_sound h hb hst h2
                  refine ⟨w', _, rfl, ?_, .int _ _, s2, s3⟩
                  rw [hfront]
                  simp [s1]
              · cases he
          · simp only [Option.some.injEq, Prod.mk.injEq] at he; obtain ⟨rfl, rfl⟩ := he
            refine ⟨w, _, rfl, ?_, .int _ _, h, Step.refl _ _ _⟩
            cases hd
            rw [hfront]; simp
          · cases he
        · cases he
      · cases he
    · cases he
  · cases he

theorem alenOf_sound (h : MRel P ι m w) {ts : Array TypeId} {t ty : TypeId} {v v' r : Value} (ht : ts[0]? = some t) (hv : VRel ι v v') (he : alenOf P t v m = some r) : (Builtin.len_ ts ty #[v']).run P w = .ok r w ∧ VRel ι r r := by
  unfold alenOf at he
  unfold Builtin.len_
  split at he
  · rename_i s hu
    cases hv; simp only [Option.some.injEq] at he; subst he
    exact ⟨by simp [ht, run_underlying' hu], .int _ _⟩
  · rename_i n e hu
    simp only [Option.some.injEq] at he; subst he
    exact ⟨by simp [ht, run_underlying' hu], .int _ _⟩
  · rename_i e n c hu
    simp only [Option.some.injEq] at he; subst he
    refine ⟨?_, .int _ _⟩
    cases hv <;> simp [ht, run_underlying' hu]
  · rename_i k e hu
    cases hv; simp only [Option.some.injEq] at he; subst he
    exact ⟨by simp [ht, run_underlying' hu], .int _ _⟩
  · rename_i k e r hu
    cases hv with
    | map hb =>
      split at he
      · rename_i es clock hm
        simp only [Option.some.injEq] at he; subst he
        obtain ⟨rfl, es', hX, her⟩ := h.map_obj hb hm
        refine ⟨?_, .int _ _⟩
        simp only [ht, List.getElem?_toArray, List.getElem?_cons_zero, Sem.run_bind, run_underlying' hu, Result.andThen_ok, run_getObj' hX (by simp), Sem.run_pure, her.size]
      · cases he
  · cases he

theorem wrap64_small {n : Int} (h0 : 0 ≤ n) (h : n < 2 ^ 62) : IntKind.i64.wrap n = n := by
  have e : n % (2 ^ 64 : Int) = n := Int.emod_eq_of_lt h0 (by omega)
  show (if (IntKind.i64.signed && decide (n % (2 ^ 64 : Int) ≥ (2 ^ 63 : Int))) = true then n % (2 ^ 64 : Int) - 2 ^ 64 else n % (2 ^ 64 : Int)) = n
  rw [e, if_neg]
  simp
  omega

theorem amakeSlice_sound (hz : ZeroOk P) (h : MRel P ι m w) {t : TypeId} {l l' c c' : Value} {r : ARes} {m' : AMem} (hl : VRel ι l l') (hc : VRel ι c c') (he : amakeSlice P t l c m = some (r, m')) :
    ∃ ι' w' v v', r = .val v ∧ (Instr.makeSlice t l' c').run P w = .ok v' w' ∧ VRel ι' v v' ∧ MRel P ι' m' w' ∧ Step m ι w m' ι' w' := by
  unfold amakeSlice at he
  split at he
  · rename_i e k1 ln k2 cn hu
    cases hl; cases hc
    split at he
    · rename_i i hi
      split at he
      · rename_i hcond
        obtain ⟨h0, h1, h2, h3⟩ := hcond
        split at he
        · rename_i zs hzs
          unfold anew at he
          split at he
          · rename_i b m2 hb
            split at hb
            · rename_i hflat
              simp at hb; obtain ⟨rfl, rfl⟩ := hb
              simp only [Option.some.injEq, Prod.mk.injEq] at he; obtain ⟨rfl, rfl⟩ := he
              obtain ⟨i2, z, hi2, hzv, hsz, hpos, _, hrange, hlen⟩ := zeros_eq hzs
              rw [hi] at hi2; simp at hi2; subst hi2
              have hts' : tsize P e = some i.size := by simp [tsize, hi]
              have hshut := zeros_shut hz hzs
              have hnew := new_sl (P := P) h (e := e) (cs := zs) (cs' := zs.toArray) cn.toNat (by simp [hlen, tsize_cells hts']) (by simp) (by simpa using LRel.of_shut hshut) hflat
              have w1 : IntKind.i64.wrap ln = ln := wrap64_small (by omega) (by omega)
              have w2 : IntKind.i64.wrap cn = cn := wrap64_small (by omega) (by omega)
              refine ⟨_, _, _, .slice (some ⟨w.heap.size, 0, none⟩) ln.toNat cn.toNat, rfl, ?_, ?_, hnew.1, hnew.2⟩
              · unfold Instr.makeSlice
                have hb1 : ((i.bytes : Int) * cn > 2 ^ 48) = False := by
                  simp only [eq_iff_iff, iff_false, Int.not_lt]
                  rw [Int.mul_comm]; omega
                have hng : (cn < 0) = False := by simp; omega
                have hng2 : (ln < 0) = False := by simp; omega
                have hng3 : (ln > cn) = False := by simp; omega
                simp only [Sem.run_bind, run_underlying' hu, Result.andThen_ok, asInt, asIntOf, pure_bind, run_typeInfo' hi, w1, w2, hb1, hng, hng2, hng3, decide_false, Bool.or_false, Bool.false_eq_true, if_false, run_askRoom, run_sizeOf' hts']
                by_cases hc0 : cn.toNat * i.size = 0
                · have hzs0 : zs = [] := by apply List.eq_nil_of_length_eq_zero; omega
                  subst hzs0
                  simp only [hc0, if_true, Sem.run_bind]
                  have e0 : ((Array.range 0).map fun x => (#[] : Array Value)[x % (#[] : Array Value).size]!) = #[] := by simp
                  rw [e0]
                  simp [run_newRow]
                · simp only [hc0, if_false, Sem.run_bind, run_zeroValue' hi hzv, Result.andThen_ok, Sem.run_pure, hrange, run_newRow]
              · have := VRel.sl (ι := ι.add m.length (w.heap.size, 0, cn.toNat)) (i := m.length) (off := 0) (c := w.heap.size) (sh := 0) (cp := cn.toNat) (len := ln.toNat) (k := if ln = cn then ln.toNat else ln.toNat + 1) (cap := cn.toNat) (Iota.add_self _ _ _)
                  (by omega) (fun _ => Nat.le_refl _) (by split <;> omega)
                simpa using this
            · cases hb
          · cases he
        · cases he
      · cases he
    · cases he
  · cases he

theorem atypeAssert_sound {x x' r : Value} {xt t : TypeId} {ok : Bool} (hx : VRel ι x x') (he : atypeAssert P x t ok = some r) : ∃ r', (Instr.typeAssert x' xt t ok).run P w = .ok r' w ∧ VRel ι r r' := by
  unfold atypeAssert at he
  split at he
  · cases he
  · rename_i d u v hni hu
    cases hx with
    | iface t' hv =>
      rename_i v'
      split at he
      · rename_i e
        subst e
        simp only [Option.some.injEq] at he; subst he
        unfold Instr.typeAssert
        simp only [Sem.run_bind, run_underlying' hu, Result.andThen_ok]
        cases d <;> first
          | exact (hni _ rfl).elim
          | (cases ok with
             | true => exact ⟨_, by simp, VRel.tuple_of (cs := [v, .bool true]) (cs' := [v', .bool true]) (.cons hv (.cons (.bool true) (LRel.nil ι)))⟩
             | false => exact ⟨_, by simp, hv⟩)
      · cases he
  · cases he

theorem aminmax_go (isMax : Bool) (f : Value → Value → Sem Value) (hf : ∀ k x k' y, f (.int k x) (.int k' y) = pure (.int k (if isMax then (if x < y then y else x) else (if y < x then y else x)))) :
    ∀ (vs vs' : List Value) (k : IntKind) (x : Int) (r : Value), LRel ι vs vs' → aminmax.go isMax k x vs = some r → (vs'.foldlM f (.int k x)).run P w = .ok r w ∧ VRel ι r r
  | [], vs', k, x, r, hl, h => by
    have := hl.unnil; subst this
    simp [aminmax.go] at h; subst h
    exact ⟨by simp, .int _ _⟩
  | v :: vs, vs', k, x, r, hl, h => by
    obtain ⟨v', r', rfl, hv, hr⟩ := hl.uncons
    unfold aminmax.go at h
    split at h
    · rename_i e; cases e
    · rename_i k' y vs2 e
      simp at e; obtain ⟨rfl, rfl⟩ := e
      cases hv
      obtain ⟨h1, h2⟩ := aminmax_go isMax f hf vs r' k _ r hr h
      refine ⟨?_, h2⟩
      simp only [List.foldlM_cons, hf, pure_bind]
      exact h1
    · cases h

theorem aminmax_sound {isMax : Bool} {ts : Array TypeId} {ty : TypeId} {vs : List Value} {vs' : List Value} {r : Value} (hl : LRel ι vs vs') (he : aminmax isMax vs = some r) :
    (if isMax then Builtin.max_ ts ty vs'.toArray else Builtin.min_ ts ty vs'.toArray).run P w = .ok r w ∧ VRel ι r r := by
  unfold aminmax at he
  split at he
  · cases he
  · rename_i k x rest
    obtain ⟨v', r', rfl, hv, hr⟩ := hl.uncons
    cases hv
    cases isMax with
    | true =>
      simp only [if_true, Builtin.max_]
      exact aminmax_go true _ (fun k x k' y => by simp [Builtin.max2]) rest r' k x r hr he
    | false =>
      simp only [Bool.false_eq_true, if_false, Builtin.min_]
      exact aminmax_go false _ (fun k x k' y => by simp [Builtin.min2]) rest r' k x r hr he
  · cases he

/-- A row that is not looked at again. -/
theorem MRel.kill (h : MRel P ι m w) {i c sh cp : Nat} {o : AObj} (hi : ι i = some (c, sh, cp)) (ho : m[i]? = some o) (hown : o.own = true) {w' : World} (hw : ∀ b, b ≠ c → w'.heap[b]? = w.heap[b]?) (hos : w'.os = w.os) (htape : w'.tape = w.tape) (hout : w'.output = w.output) (hsz : w'.heap.size = w.heap.size) :
    MRel P ι (m.set i .dead) w' ∧ Step m ι w (m.set i .dead) ι w' :=
  h.update hi ho hown (.inr rfl) hw trivial hos htape hout hsz

theorem bytes_same : ∀ {cs cs' : List Value} {bs : List UInt8}, bytesOf cs = some bs → LRel ι cs cs' → cs' = cs := bytesOf_run

theorem run_loadBytes : ∀ (cs : List Value) (bs : List UInt8) (c off : Nat) (acc : ByteArray), bytesOf cs = some bs → (∀ k v, cs[k]? = some v → w.cell? ⟨c, off + k, none⟩ = some v) →
    (loadBytes ⟨c, off, none⟩ acc cs.length).run P w = .ok ⟨(acc.data.toList ++ bs).toArray⟩ w
  | [], bs, c, off, acc, h, hc => by simp [bytesOf] at h; subst h; simp [loadBytes]
  | v :: r, bs, c, off, acc, h, hc => by
    unfold bytesOf at h
    split at h
    · rename_i e; cases e
    · rename_i n r2 e
      simp at e; obtain ⟨rfl, rfl⟩ := e
      split at h
      · rename_i b hb
        simp at h; subst h
        simp only [List.length_cons, loadBytes, Sem.run_bind]
        have h0 := hc 0 _ rfl
        rw [Nat.add_zero] at h0
        rw [run_load' h0]
        simp only [Result.andThen_ok, add_none]
        rw [run_loadBytes r b c (off + 1) _ hb (fun k v hk => by rw [Nat.add_assoc, Nat.add_comm 1 k]; exact hc (k + 1) v (by simpa using hk))]
        congr 1
        simp [ByteArray.push]
      · cases h
    · cases h

theorem aunsafeString_sound (h : MRel P ι m w) {ts : Array TypeId} {ty pt : TypeId} {p p' n n' : Value} {r : ARes} {m' : AMem} (ht : ts[0]? = some pt) (hp : VRel ι p p') (hn : VRel ι n n') (he : aunsafeString P pt p n m = some (r, m')) :
    ∃ w' v, r = .val v ∧ (Builtin.unsafeString_ ts ty #[p', n']).run P w = .ok v w' ∧ VRel ι v v ∧ MRel P ι m' w' ∧ Step m ι w m' ι w' := by
  unfold aunsafeString at he
  split at he
  · rename_i u b off k nn hu
    obtain ⟨_, c, sh, cp, hb, rfl⟩ := hp.ptr_inv
    cases hn
    split at he
    · rename_i e cells hue hm
      split at he
      · rename_i hcond
        obtain ⟨h0, h1, rfl, h2, rfl⟩ := hcond
        split at he
        · rename_i cs hcs
          split at he
          · rename_i bs hbs
            simp only [Option.some.injEq, Prod.mk.injEq] at he; obtain ⟨rfl, rfl⟩ := he
            obtain ⟨rfl, hcf, cs', hX, hcsz, hcle, hcrel⟩ := h.obj b c sh cp _ hb hm
            have hcells : cs = cells.take nn.toNat ∧ nn.toNat ≤ cells.length := by
              unfold loadN at hcs
              rw [hm] at hcs
              simp only at hcs
              split at hcs
              · rename_i hle
                simp at hcs; subst hcs
                exact ⟨rfl, by omega⟩
              · cases hcs
            have hlen : cs.length = nn.toNat := by rw [hcells.1]; simp; omega
            have hcellw : ∀ k v, cs[k]? = some v → w.cell? ⟨c, 0 + 0 + k, none⟩ = some v := by
              intro k v hk
              rw [hcells.1, List.getElem?_take] at hk
              split at hk
              · rename_i hkn
                obtain ⟨v', hv', hr⟩ := h.cell hb hm hk
                have hrel := hcrel
                have e1 := bytes_same (ι := ι) (cs := cs) (cs' := (cs'.toList.take cells.length).take nn.toNat) hbs (by rw [hcells.1]; exact hcrel.take _)
                have e2 : (List.take nn.toNat (List.take cells.length cs'.toList))[k]? = cs[k]? := by rw [e1]
                rw [List.take_take, Nat.min_eq_left hcells.2, List.getElem?_take, if_pos hkn, hcells.1, List.getElem?_take, if_pos hkn, hk] at e2
                simp [World.cell?, hX]
                simpa using e2
              · cases hk
            have hlies : liesAt P P.depth e (cs'.size / P.cellsOf e) (0 + 0) e nn.toNat = true := by
              have hd : ∃ d, P.depth = d + 1 := ⟨2 * (P.types.size + Made.depth) + 1, rfl⟩
              obtain ⟨d, hd⟩ := hd
              rw [hd]
              unfold liesAt
              rw [hd]
              unfold rowAt
              have hsame : sameLayout P (d + 1) e e = true := by unfold sameLayout; simp
              have hcount : 0 + nn.toNat ≤ cs'.size := by omega
              simp [h2, hsame]
              left; left; omega
            have hshape : w.shape? c = some (e, cs'.size) := by simp [World.shape?, hX]
            have hk := h.kill hb hm rfl (w' := w.freeze ⟨c, 0 + 0, none⟩ nn.toNat) (by
              intro b' hb'
              simp only [World.freeze]
              split
              · rfl
              · simp [Array.getElem?_modify, Ne.symm hb']) (by simp only [World.freeze]; split <;> rfl) (by simp only [World.freeze]; split <;> rfl) (by simp only [World.freeze]; split <;> rfl) (by simp only [World.freeze]; split <;> simp)
            refine ⟨_, _, rfl, ?_, .string _, hk.1, hk.2⟩
            have hlb := run_loadBytes (P := P) (w := w) cs bs c (0 + 0) ByteArray.empty hbs hcellw
            rw [hlen] at hlb
            have n1 : ¬ nn < 0 := by omega
            have n2 : ¬ nn > IntKind.i64.max := by omega
            have n3 : ¬ nn = 0 := by omega
            delta Builtin.unsafeString_
            delta Builtin.unsafeString_.match_3
            delta Builtin.unsafeString_._sparseCasesOn_3
            dsimp only [Array.getLit, List.size_toArray, List.length]
            rw [dif_pos (by rfl)]
            simp only [List.getElem_toArray, List.getElem_cons_zero, List.getElem_cons_succ]
            simp only [ht, asInt, asIntOf, pure_bind, Sem.run_bind, n1, n2, n3, if_false, variablesAt, run_program, Result.andThen_ok, run_shape, hshape, Sem.run_pure, hlies, if_true, elemOf, run_underlying' hu, hlb, run_freeze]
            simp
          · cases he
        · cases he
      · cases he
    · cases he
  · cases he

end
end Go.Abs
