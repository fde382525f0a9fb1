/- The abstract machine, 9: places, slices, maps. -/
import Derived.Test.YteajocebbmfdmaaGreatDoorAbsH
namespace Go.Abs
section
variable {P : Program} {ι : Iota} {m : AMem} {w : World}

theorem afieldAddr_sound {s : TypeId} {v v' r : Value} {f : Nat} (hv : VRel ι v v') (h : afieldAddr P s v f = some r) : ∃ r', (Instr.fieldAt s v' f).run P w = .ok r' w ∧ VRel ι r r' := by
  unfold afieldAddr at h
  split at h
  · rename_i b off o ho
    obtain ⟨_, c, sh, cp, hi, rfl⟩ := hv.ptr_inv
    simp at h; subst h
    unfold fieldOff at ho
    split at ho
    · rename_i fields hu
      split at ho
      · rename_i fl hf
        split at ho
        · cases ho
        · rename_i n hn0 hn
          simp at ho; subst ho
          have hn0 : ¬ n = 0 := by intro q; first | exact hn0 q | (subst q; exact hn0 rfl)
          refine ⟨_, ?_, .ptr hi⟩
          simp only [Instr.fieldAt, Sem.run_bind, run_underlying' hu, Result.andThen_ok, hf, Instr.sureAddr, Sem.run_pure, fieldPlace, run_sizeOf' hn, if_neg hn0, add_none, Nat.add_assoc]
        · cases ho
      · cases ho
    · cases ho
  · cases h

theorem afield_sound {t : TypeId} {v v' r : Value} {f : Nat} (hv : VRel ι v v') (h : afield P t v f = some r) : ∃ r', (Instr.field t v' f).run P w = .ok r' w ∧ VRel ι r r' := by
  unfold afield at h
  split at h
  · rename_i fields cs hu
    obtain ⟨cs', rfl, hr, hf⟩ := hv.agg_inv
    split at h
    · rename_i fl hfl
      obtain ⟨u', h1, h2⟩ := apart_sound (w := w) hr hf h
      exact ⟨u', by simp [Instr.field, run_underlying' hu, hfl, asAgg, h1], h2⟩
    · cases h
  · cases h

theorem aindexAddr_sound {t : TypeId} {x i x' i' r : Value} (hx : VRel ι x x') (hi : VRel ι i i') (h : aindexAddr P t x i = some r) : ∃ r', (Instr.indexAt t x' i').run P w = .ok r' w ∧ VRel ι r r' := by
  unfold aindexAddr at h
  split at h
  · rename_i e b off len c k n hu
    cases hi
    split at h
    · rename_i z hz
      split at h
      · rename_i hc
        simp at h; subst h
        cases hx with
        | sl hb _ _ hk =>
          refine ⟨_, ?_, .ptr hb⟩
          simp [Instr.indexAt, asIntOf, run_underlying' hu, hc.1, hc.2, run_sizeOf' hz, add_none, Nat.add_assoc]
        | slq hb => omega
      · cases h
    · cases h
  · rename_i len e b off k n hu
    cases hi
    obtain ⟨_, c, sh, cp, hb, rfl⟩ := hx.ptr_inv
    split at h
    · rename_i z hz
      split at h
      · rename_i hc
        simp at h; subst h
        refine ⟨_, ?_, .ptr hb⟩
        simp [Instr.indexAt, asIntOf, run_underlying' hu, Instr.sureAddr, hc.1, hc.2, run_sizeOf' hz, add_none, Nat.add_assoc]
      · cases h
    · cases h
  · cases h

theorem aindex_sound {t : TypeId} {x i x' i' r : Value} (hx : VRel ι x x') (hi : VRel ι i i') (h : aindex P t x i = some r) : ∃ r', (Instr.index t x' i').run P w = .ok r' w ∧ VRel ι r r' := by
  unfold aindex at h
  split at h
  · rename_i len e cs k n hu
    cases hi
    obtain ⟨cs', rfl, hr, hf⟩ := hx.agg_inv
    split at h
    · rename_i z hz
      split at h
      · rename_i hc
        obtain ⟨u', h1, h2⟩ := apart_sound (w := w) hr hf h
        exact ⟨u', by simp [Instr.index, asIntOf, run_underlying' hu, hc.1, hc.2, run_sizeOf' hz, h1], h2⟩
      · cases h
    · cases h
  · rename_i s k n hu
    cases hi; cases hx
    split at h
    · rename_i hc
      split at h
      · rename_i b hb
        simp at h; subst h
        exact ⟨_, by simp [Instr.index, asIntOf, run_underlying' hu, hc, hb], .int _ _⟩
      · cases h
    · cases h
  · cases h

theorem asN_int {v v' : Value} {n : Nat} (hv : VRel ι v v') (h : asN v = some n) : ∃ k i, v' = .int k i ∧ 0 ≤ i ∧ i.toNat = n := by
  unfold asN at h
  split at h
  · rename_i k i
    split at h
    · rename_i hi
      simp at h
      cases hv
      exact ⟨k, i, rfl, hi, h⟩
    · cases h
  · cases h

theorem run_sliceBound {k : IntKind} {i : Int} {n y : Nat} {code : BoundsCode} (h0 : 0 ≤ i) (hn : i.toNat = n) (hy : n ≤ y) : (Instr.sliceBound (.int k i) y code).run P w = .ok n w := by
  have : i ≤ (y : Int) := by omega
  simp [Instr.sliceBound, asIntOf, h0, this, hn]

def ORelV (ι : Iota) : Option Value → Option Value → Prop
  | none, none => True
  | some v, some v' => VRel ι v v'
  | _, _ => False

theorem bound_none {o' : Option Value} {d n : Nat} (h : ORelV ι none o') (e : boundOf none d = some n) : o' = none ∧ n = d := by
  cases o' with
  | none => simp [boundOf] at e; exact ⟨rfl, e.symm⟩
  | some _ => exact h.elim

theorem bound_some {v : Value} {o' : Option Value} {d n : Nat} (h : ORelV ι (some v) o') (e : boundOf (some v) d = some n) : ∃ k i, o' = some (.int k i) ∧ 0 ≤ i ∧ i.toNat = n := by
  cases o' with
  | none => exact h.elim
  | some v' =>
    obtain ⟨k, i, rfl, h0, hn⟩ := asN_int h e
    exact ⟨k, i, rfl, h0, hn⟩

/-- The bounds of a slice, where no third one is given. -/
theorem run_sliceBounds2 {b : Bool} {len cap h l : Nat} {lo hi lo' hi' : Option Value} (hlo : ORelV ι lo lo') (hhi : ORelV ι hi hi') (e1 : boundOf hi len = some h) (e2 : boundOf lo 0 = some l) (hh : h ≤ cap) (hl : l ≤ h) :
    (Instr.sliceBounds b len cap lo' hi' none).run P w = .ok (l, h, cap) w := by
  cases hi with
  | none =>
    obtain ⟨rfl, rfl⟩ := bound_none hhi e1
    cases lo with
    | none => obtain ⟨rfl, rfl⟩ := bound_none hlo e2; simp [Instr.sliceBounds]
    | some v => obtain ⟨k, i, rfl, h0, hn⟩ := bound_some hlo e2; simp [Instr.sliceBounds, run_sliceBound (P := P) (w := w) h0 hn hl]
  | some u =>
    obtain ⟨k1, i1, rfl, h01, hn1⟩ := bound_some hhi e1
    cases lo with
    | none => obtain ⟨rfl, rfl⟩ := bound_none hlo e2; simp [Instr.sliceBounds, run_sliceBound (P := P) (w := w) h01 hn1 hh]
    | some v => obtain ⟨k, i, rfl, h0, hn⟩ := bound_some hlo e2; simp [Instr.sliceBounds, run_sliceBound (P := P) (w := w) h01 hn1 hh, run_sliceBound (P := P) (w := w) h0 hn hl]

theorem run_sliceBounds3 {b : Bool} {len cap h l mm : Nat} {lo lo' : Option Value} {hi mx hi' mx' : Value} (hlo : ORelV ι lo lo') (hhi : VRel ι hi hi') (hmx : VRel ι mx mx') (e0 : asN mx = some mm) (e1 : asN hi = some h)
    (e2 : boundOf lo 0 = some l) (hm : mm ≤ cap) (hh : h ≤ mm) (hl : l ≤ h) : (Instr.sliceBounds b len cap lo' (some hi') (some mx')).run P w = .ok (l, h, mm) w := by
  obtain ⟨k2, i2, rfl, h02, hn2⟩ := asN_int hmx e0
  obtain ⟨k1, i1, rfl, h01, hn1⟩ := asN_int hhi e1
  cases lo with
  | none => obtain ⟨rfl, rfl⟩ := bound_none hlo e2; simp [Instr.sliceBounds, run_sliceBound (P := P) (w := w) h02 hn2 hm, run_sliceBound (P := P) (w := w) h01 hn1 hh]
  | some v => obtain ⟨k, i, rfl, h0, hn⟩ := bound_some hlo e2; simp [Instr.sliceBounds, run_sliceBound (P := P) (w := w) h02 hn2 hm, run_sliceBound (P := P) (w := w) h01 hn1 hh, run_sliceBound (P := P) (w := w) h0 hn hl]

theorem aslice_sound {t : TypeId} {x x' r : Value} {lo hi mx lo' hi' mx' : Option Value} (hx : VRel ι x x') (hlo : ORelV ι lo lo') (hhi : ORelV ι hi hi') (hmx : ORelV ι mx mx') (he : aslice P t x lo hi mx = some r) :
    ∃ r', (Instr.sliceAt t x' lo' hi' mx').run P w = .ok r' w ∧ VRel ι r r' := by
  unfold aslice at he
  split at he
  · rename_i s hu
    cases hx
    split at he
    · cases he
    · cases mx' with
      | some _ => exact hmx.elim
      | none =>
        split at he
        · rename_i h l e1 e2
          split at he
          · rename_i hc
            simp at he; subst he
            refine ⟨_, ?_, .string _⟩
            simp only [Instr.sliceAt, Sem.run_bind, run_underlying' hu, Result.andThen_ok, Instr.slice, Option.isSome_none, Bool.false_eq_true, if_false, run_sliceBounds2 hlo hhi e1 e2 hc.1 hc.2, Sem.run_pure]
          · cases he
        · cases he
  · rename_i e a len c hu
    split at he
    · rename_i n hn
      split at he
      · cases he
      · rename_i hn0
        split at he
        · rename_i v h l e1 e2
          cases mx' with
          | none => exact hmx.elim
          | some mx' =>
          split at he
          · rename_i mm hv e0
            cases hi' with
            | none => exact hhi.elim
            | some hi' =>
            split at he
            · rename_i hc
              have main : ∀ (ad : Option Addr) (cap : Nat), len ≤ cap → (Instr.sliceAt t (.slice ad len cap) lo' (some hi') (some mx')).run P w = .ok (.slice (if mm = l then ad else ad.map (·.add (l * n))) (h - l) (mm - l)) w := by
                intro ad cap hcap
                have hbd := run_sliceBounds3 (P := P) (w := w) (b := true) (len := len) (cap := cap) hlo hhi hmx e0 e1 e2 (by omega) hc.2.1 hc.2.2
                simp only [Instr.sliceAt, Sem.run_bind, run_underlying' hu, Result.andThen_ok, Instr.slice, hbd, run_sizeOf' hn, Sem.run_pure]
              cases hx with
              | snil =>
                simp at he; subst he
                refine ⟨_, main none 0 (Nat.le_refl _), ?_⟩
                have : h = 0 := by omega
                have : l = 0 := by omega
                have : mm = 0 := by omega
                subst h; subst l; subst mm
                exact .snil
              | sl hb hcap hcp hk =>
                rename_i i off cc sh cp cap
                simp only at he
                split at he
                · rename_i hq; omega
                · rename_i hq
                  simp at he; subst he
                  refine ⟨_, main _ cap hcap, ?_⟩
                  have := VRel.sl (ι := ι) (off := if mm = l then off else off + l * n) (len := h - l) (k := if mm = h then h - l else h - l + 1) (cap := mm - l) hb (by omega) (by
                    intro h0
                    have hoff : off = 0 := by split at h0 <;> omega
                    have := hcp hoff
                    omega) (by split <;> omega)
                  simp only [Option.map_some, add_none]
                  split <;> simp_all [Nat.add_assoc]
              | slq hb => simp at he
            · cases he
          · cases he
        · rename_i h l e1 e2
          cases mx' with
          | some _ => exact hmx.elim
          | none =>
          split at he
          · rename_i hc
            have main : ∀ (ad : Option Addr) (cap : Nat), len ≤ cap → (Instr.sliceAt t (.slice ad len cap) lo' hi' none).run P w = .ok (.slice (if cap = l then ad else ad.map (·.add (l * n))) (h - l) (cap - l)) w := by
              intro ad cap hcap
              have hbd := run_sliceBounds2 (P := P) (w := w) (b := true) (len := len) (cap := cap) hlo hhi e1 e2 (by omega) hc.2
              simp only [Instr.sliceAt, Sem.run_bind, run_underlying' hu, Result.andThen_ok, Instr.slice, hbd, run_sizeOf' hn, Sem.run_pure]
            cases hx with
            | snil =>
              simp at he; subst he
              refine ⟨_, main none 0 (Nat.le_refl _), ?_⟩
              have : h = 0 := by omega
              have : l = 0 := by omega
              subst h; subst l
              exact .snil
            | sl hb hcap hcp hk =>
              rename_i i off cc sh cp cap
              simp only at he
              split at he
              · rename_i hq; omega
              · rename_i hq
                refine ⟨_, main _ cap hcap, ?_⟩
                split at he
                · rename_i hcl
                  have hcl : cap = len := by omega
                  subst hcl
                  simp at he; subst he
                  have := VRel.sl (ι := ι) (off := if cap = l then off else off + l * n) (len := h - l) (k := if h = cap then h - l else h - l + 1) (cap := cap - l) hb (by omega) (by
                    intro h0
                    have hoff : off = 0 := by split at h0 <;> omega
                    have := hcp hoff
                    omega) (by split <;> omega)
                  simp only [Option.map_some, add_none]
                  split <;> simp_all [Nat.add_assoc]
                · rename_i hcl
                  split at he
                  · rename_i hl0
                    subst hl0
                    simp at he; subst he
                    have := VRel.sl (ι := ι) (off := off) (len := h) (k := h + 1) (cap := cap) hb (by omega) hcp (.inr rfl)
                    simp only [Option.map_some, add_none, Nat.zero_mul, Nat.add_zero, Nat.sub_zero]
                    split <;> exact this
                  · rename_i hl0
                    split at he
                    · rename_i hll
                      simp at he; subst he
                      have := VRel.sl (ι := ι) (off := off + l * n) (len := h - l) (k := h - l + 1) (cap := cap - l) hb (by omega) (by
                        intro h0
                        have : l * n ≠ 0 := Nat.mul_ne_zero hl0 hn0
                        omega) (.inr rfl)
                      rw [if_neg (by omega)]
                      simpa [add_none, Nat.add_assoc] using this
                    · rename_i hll
                      simp at he; subst he
                      have e1 : h - l = 0 := by omega
                      rw [e1]
                      simp only [Option.map_some, add_none]
                      split <;> exact .slq hb
            | slq hb =>
              simp at he
              obtain ⟨_, rfl⟩ := he
              refine ⟨_, main _ _ (Nat.zero_le _), ?_⟩
              have e1 : h = 0 := by omega
              have e2 : l = 0 := by omega
              subst h; subst l
              simp only [Option.map_some, add_none, Nat.zero_mul, Nat.add_zero, Nat.sub_zero]
              split <;> exact .slq hb
          · cases he
        · cases he
    · cases he
  · cases he

end
end Go.Abs
