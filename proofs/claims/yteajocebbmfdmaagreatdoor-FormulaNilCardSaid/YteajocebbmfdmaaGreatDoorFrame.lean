/- A call in whose memory nothing is the call's own, handed addresses by nobody: what it answers it answers in every memory that begins so. -/
import Derived.Test.YteajocebbmfdmaaGreatDoorAbsV
import Derived.Test.YteajocebbmfdmaaGreatDoorFastD
namespace Go.Abs
section
variable {P : Program}

theorem VRel.shut {ι : Iota} {v v' : Value} (h : VRel ι v v') (hs : shutV v = true) : v' = v := by
  cases h <;> simp [shutV] at hs <;> try rfl
  · rename_i xs xs' h1 h2
    subst hs
    have : xs' = #[] := by simpa using h1.symm
    rw [this]

/-- The rows that came in: read only, of values without addresses. -/
def roRow : AObj → Bool
  | .row .ro _ cs => cs.all shutV && cs.all flat
  | _ => false

theorem frame_call (hxt : ExternOk P) (hm : P.follows .mixedOrders = true) {ov : OvF} (ho : OvOk P ov) {n : Nat} {f : FuncId} {args : Array Value} {v : Value} {m0 m1 : AMem} (he : acall P ov n f args m0 = some (.ret v, m1)) (hro : m0.all roRow = true) (hg : P.globals.size ≤ m0.length)
    (hv : shutV v = true) (ha : args.toList.all shutV = true) (rest : AMem) {ι : Iota} {w : World} {args' : Array Value} (h : MRel P ι (m0 ++ rest) w) (hl : LRel ι args.toList args'.toList) :
    Calls P f args' w (EndPost P ι (m0 ++ rest) w (.ret v) (m0 ++ rest)) := by
  have hz : ZeroOk P := trivial
  have hget : ∀ i, i < m0.length → (m0 ++ rest)[i]? = m0[i]? := fun i hi => List.getElem?_append_left hi
  have hrow : ∀ (i : Nat) (o : AObj), m0[i]? = some o → ∃ e cs, o = .row .ro e cs ∧ cs.all shutV = true ∧ cs.all flat = true := by
    intro i o hi
    have := List.all_eq_true.1 hro o (List.mem_of_getElem? hi)
    unfold roRow at this
    split at this
    · simp only [Bool.and_eq_true] at this
      exact ⟨_, _, rfl, this.1, this.2⟩
    · cases this
  let ι0 : Iota := fun i => if i < m0.length then ι i else none
  have h0 : ∀ i x, ι0 i = some x → i < m0.length ∧ ι i = some x := by
    intro i x hx
    by_cases hi : i < m0.length
    · simp only [ι0, if_pos hi] at hx; exact ⟨hi, hx⟩
    · simp only [ι0, if_neg hi] at hx; cases hx
  have hM : MRel P ι0 m0 w := by
    refine ⟨fun i x hx => (h0 i x hx).1, ?_, ?_, ?_⟩
    · intro i c sh cp o hi hx
      obtain ⟨hlt, hi⟩ := h0 i _ hi
      obtain ⟨e, cs, rfl, hsh, hfl⟩ := hrow i o hx
      have := h.obj i c sh cp _ hi (by rw [hget i hlt]; exact hx)
      refine ⟨this.1, hfl, fun k u hu => ?_⟩
      obtain ⟨u', h1, h2⟩ := this.2.2 k u hu
      have hus := List.all_eq_true.1 hsh u (List.mem_of_getElem? hu)
      rw [h2.shut hus] at h1
      exact ⟨u, h1, .of_shut hus⟩
    · intro i j c sh cp sh' cp' o o' hi hj hx hy hox
      obtain ⟨e, cs, rfl, _, _⟩ := hrow i o hx
      simp [AObj.own] at hox
    · intro g hgl
      have : g < m0.length := by omega
      simp only [ι0, if_pos this]
      exact h.glob g hgl
  have hl0 : LRel ι0 args.toList args'.toList := by
    refine ⟨hl.1, fun i u u' h1 h2 => ?_⟩
    have hus := List.all_eq_true.1 ha u (List.mem_of_getElem? h1)
    rw [(hl.2 i u u' h1 h2).shut hus]
    exact .of_shut hus
  refine (acall_sound hz hxt hm ho n f args m0 _ _ he ι0 w args' hM hl0).mono ?_
  rintro e w' ⟨ι1, g1, g2, v', rfl, g4⟩
  rw [g4.shut hv]
  have hkeep : ∀ b, b < w.heap.size → w'.heap[b]? = w.heap[b]? := by
    intro b hb
    refine g2.frame b hb ?_
    rintro ⟨i, sh, cp, o, hi, hx, hox⟩
    obtain ⟨e, cs, rfl, _, _⟩ := hrow i o hx
    simp [AObj.own] at hox
  have hlow : ∀ (j c sh cp : Nat) (x : AObj), ι j = some (c, sh, cp) → (m0 ++ rest)[j]? = some x → x.alive = true → c < w.heap.size := by
    intro j c sh cp x hj hx hal
    cases hox : x.own with
    | true => exact h.lt hj hx hox
    | false =>
      have := h.obj j c sh cp x hj hx
      cases x with
      | dead => simp [AObj.alive] at hal
      | row kk e cs => cases kk with
        | ro => exact this.1
        | _ => simp [AObj.own] at hox
      | _ => simp [AObj.own] at hox
  refine ⟨ι, ⟨h.dom, ?_, h.inj, h.glob⟩, ⟨Le.refl _, g2.os, g2.tape, g2.output, g2.size, Nat.le_refl _, fun b hb _ => hkeep b hb, fun b _ hb => hb, fun _ _ => rfl⟩, v, rfl, .of_shut hv⟩
  intro j c sh cp x hj hx
  cases hal : x.alive with
  | false => cases x with
    | dead => trivial
    | _ => simp [AObj.alive] at hal
  | true => exact (h.obj j c sh cp x hj hx).congr (hkeep c (hlow j c sh cp x hj hx hal))

/-- A memory that is the globals alone: 'n' rows of which nothing is known. -/
def ros (n : Nat) : AMem := List.replicate n (.row .ro 0 [])

theorem ros_ro (n : Nat) : (ros n).all roRow = true := by
  rw [List.all_eq_true]
  intro o ho
  rw [List.eq_of_mem_replicate ho]; rfl

/-- At the begin of a law: the globals alone. -/
theorem MRel.start {n : Nat} (hn : P.globals.size = n) {w : World} (hw : n ≤ w.heap.size) : MRel P (fun i => if i < n then some (i, 0, 0) else none) (ros n) w := by
  have h0 : ∀ (i : Nat) (x : Nat × Nat × Nat), (if i < n then some (i, 0, 0) else none) = some x → i < n ∧ x = (i, 0, 0) := by
    intro i x hx
    split at hx
    · rename_i hi; simp at hx; exact ⟨hi, hx.symm⟩
    · cases hx
  refine ⟨fun i x hx => by simpa [ros] using (h0 i x hx).1, ?_, ?_, ?_⟩
  · intro i c sh cp o hi hx
    obtain ⟨hlt, e⟩ := h0 i _ hi
    simp at e; obtain ⟨rfl, rfl, rfl⟩ := e
    have : o = .row .ro 0 [] := List.eq_of_mem_replicate (List.mem_of_getElem? hx)
    subst this
    exact ⟨by omega, rfl, fun k v hv => by simp at hv⟩
  · intro i j c sh cp sh' cp' o o' hi hj hx hy hox
    have : o = .row .ro 0 [] := List.eq_of_mem_replicate (List.mem_of_getElem? hx)
    subst this
    simp [AObj.own] at hox
  · intro g hg
    rw [if_pos (by omega)]

theorem noOv_ok : OvOk P (fun _ => none) := fun f g h => by cases h

/-- What the quick machine says of a bool. -/
noncomputable def saysTrue : Option (AEnd × FMem) → Bool
  | some (.ret (.bool b), _) => b
  | _ => false

theorem says_spec {x : Option (AEnd × FMem)} (h : saysTrue x = true) : ∃ m, x = some (.ret (.bool true), m) := by
  unfold saysTrue at h
  split at h
  · subst h; exact ⟨_, rfl⟩
  · cases h

/-- A law that answers true, from the globals alone: what a row asks of it. -/
theorem law_true (hxt : ExternOk P) (hm : P.follows .mixedOrders = true) {ov : OvF} (ho : OvOk P ov) {n k : Nat} {f : FuncId} {args : Array Value} {m1 : AMem} (he : acall P ov k f args (ros n) = some (.ret (.bool true), m1)) (hn : P.globals.size = n) {w : World} (hw : n ≤ w.heap.size)
    (ha : args.toList.all shutV = true) : Calls P f args w (fun e w' => e = .returned (.bool true) ∧ w'.os = w.os ∧ w'.output = w.output ∧ w'.tape = w.tape ∧ w.heap.size ≤ w'.heap.size ∧ ∀ b, b < w.heap.size → w'.heap[b]? = w.heap[b]?) := by
  refine (acall_sound trivial hxt hm ho k f args (ros n) _ _ he _ w args (MRel.start hn hw) (.of_shut ha)).mono ?_
  rintro e w' ⟨ι1, _, g2, v', rfl, g4⟩
  refine ⟨by rw [g4.shut rfl], g2.os, g2.output, g2.tape, g2.size, fun b hb => g2.frame b hb ?_⟩
  rintro ⟨i, sh, cp, o, hi, hx, hox⟩
  have : o = .row .ro 0 [] := List.eq_of_mem_replicate (List.mem_of_getElem? hx)
  subst this
  simp [AObj.own] at hox

end
end Go.Abs
