/- FormulaNil answers true, whatever its two arguments: the row's statement and its tied card. -/
import Derived.Test.YteajocebbmfdmaaGreatDoorNilEval
import Derived.Test.YteajocebbmfdmaaGreatDoorCards
import Derived.Test.YteajocebbmfdmaaGreatDoorTie
import Derived.ChangeSame
import Derived.ChangeVars
import Derived.JoinedOf
import Derived.RowKit
import Derived.RowKitTokens
import Derived.LaidLaws
import Derived.LaidMore
import Derived.LaidHandle
import Derived.OpenShut
import Derived.ProofKit
import Derived.MakeChecks
import Derived.Stop.Joined
import Derived.SevenTiedAt
namespace Go.Proofs.YteajocebbmfdmaaGreatDoor
open Go Go.Abs Go.ChangeShapes Go.WideShapes Go.ChangeAt Go.WideMaps Go.WideElems Go.RowKit
open Go.ChangeMaps (open_string shut_string)
set_option maxRecDepth 100000

theorem own : ownKnob Tryz.prog.godebug = none := by kernel_rfl
theorem gPow : Tryz.prog.globalNamed "internal/strconv.uint64pow10" = some 0 := by kernel_rfl
theorem gTab32 : Tryz.prog.globalNamed "math/bits.deBruijn32tab" = some 1 := by kernel_rfl
theorem gTab64 : Tryz.prog.globalNamed "math/bits.deBruijn64tab" = some 2 := by kernel_rfl
theorem gSize : Tryz.prog.globals.size = 3 := by kernel_rfl
theorem mixed : Tryz.prog.follows .mixedOrders = true := by kernel_rfl

/-- The one function without a body that the machine knows. -/
theorem externOk : ExternOk Tryz.prog := by
  intro f fn hf hb hn
  have hall : ((List.range Tryz.prog.funcs.size).all fun i => match Tryz.prog.funcs[i]? with
    | some fn => fn.body.isSome || fn.name != "internal/abi.NoEscape" || i == 128
    | none => true) = true := by kernel_rfl
  have hlt : f < Tryz.prog.funcs.size := (Array.getElem?_eq_some_iff.1 hf).1
  have := List.all_eq_true.1 hall f (by simpa using hlt)
  rw [hf] at this
  simp only [hb, hn, Option.isSome_none, bne_self_eq_false, Bool.false_or, beq_iff_eq] at this
  subst this
  rw [Tryz.func128] at hf
  simp only [Option.some.injEq] at hf
  subst hf
  exact ⟨by kernel_rfl, by kernel_rfl⟩

/-- The listed variables' blocks are there. -/
theorem three_rows {W : World} (h : laidMetH Tryz.prog Rows.formulaNilRow.laid W) : 3 ≤ W.heap.size := by
  rw [MakeChecks.laidMetH_plain _ _ _ (by kernel_rfl)] at h
  obtain ⟨ps, ⟨g0, t0, cs0, f0, p0, q0, hg0, ht0, hv0, hd0, ⟨g1, t1, cs1, f1, p1, q1, hg1, ht1, hv1, hd1, _, _⟩, _⟩, _, _⟩ := h
  obtain rfl := Option.some.inj (gTab64.symm.trans hg1)
  unfold World.var? at hv1
  rw [hg1] at hv1
  simp only [Option.bind_some] at hv1
  split at hv1
  · rename_i cs t fr hh
    have := (Array.getElem?_eq_some_iff.1 hh).1
    omega
  · cases hv1

/-- The door's own heap meets the condition. -/
theorem door_met (os : Os) (args : Array Value) : laidMetH Tryz.prog Rows.formulaNilRow.laid ((World.doorLaid Tryz.prog 24 os).forCall (fun _ _ => 0) ⟨#[], args, []⟩).memory :=
  laidMetH_of_parts3 (fuel := 8) (laidMet_of_run' 8 (by kernel_rfl) (by kernel_rfl)) (by kernel_rfl) (by kernel_rfl)

theorem mem3_toL : mem3.toL = ros 3 := by rfl

theorem nil_walk (s : ByteArray) (n : Int) (W : World) (h : 3 ≤ W.heap.size) : Calls Tryz.prog 4 #[.string s, .int .i64 n] W (fun e w' => e = .returned (.bool true) ∧ w'.os = W.os ∧ w'.output = W.output ∧ w'.tape = W.tape ∧ W.heap.size ≤ w'.heap.size ∧ ∀ b, b < W.heap.size → w'.heap[b]? = W.heap[b]?) := by
  obtain ⟨m, hm⟩ := says_spec (nil_eval s n)
  have := fcall_ref (P := Tryz.prog) (ov := fun _ => none) (ov' := fun _ => none) ⟨fun _ _ => rfl, fun f g h => by cases h⟩ 200 _ _ _ _ _ hm
  rw [mem3_toL] at this
  exact law_true externOk mixed noOv_ok this gSize h (by simp [shutV])

theorem lifted (os : Os) (started : os.Started) (H : Type) (enc : TypeId × Value → H) :
    ReturnsInHanded {} Tryz.checked os 4 .any (fun w args => (Rows.formulaNilSpec.pre enc Tryz.prog Tryz.f4 [] false w args ∧ laidMetH Tryz.prog Rows.formulaNilRow.laid w) ∧ sizedMet enc Tryz.prog Tryz.f4 (OpenSpec.ofChange Rows.formulaNilSpec) false w args)
      (Rows.formulaNilSpec.post enc Tryz.prog Tryz.f4 false true false false) := by
  refine returnsInHanded_of_change_and (C := Tryz.checked) (X := fun w _ => laidMetH Tryz.prog Rows.formulaNilRow.laid w) (fun _ _ _ hh h => h.of_heap hh) own started (by kernel_rfl) Tryz.func4
    (ChangeSpec.witness_shaped (enc := enc) (C := Tryz.checked) (os := os) (X := fun w _ => laidMetH Tryz.prog Rows.formulaNilRow.laid w) false (World.doorLaid Tryz.prog 24 os) #[.string ⟨#[]⟩, .int .i64 0] 8 rfl (World.shaped_of_RefB (by kernel_rfl) (by kernel_rfl)) (by kernel_rfl) (by kernel_rfl) (by kernel_rfl) (door_met os _)) ?_
  intro W base args ds gs before hval0 hW _ _ hL _
  have hval : ∀ (j : Nat) t v, Tryz.f4.params[j]? = some t → args[j]? = some v → Value.okWide Tryz.prog W .any base t v := hval0
  have hW' := hW
  obtain ⟨p, q, hA0, hV, rfl, hfz, hnd⟩ := hW
  have hA : DataW.TrodAll enc Tryz.prog W 0 (fun _ => true) true Tryz.f4.params.toList args.toList ds p := hA0
  rw [Tryz.params4] at hA hval
  obtain ⟨v0, v1, d0, d1, p0, p1, rfl, rfl, rfl, h0, h1⟩ := trodAll_two hA
  obtain ⟨rfl, rfl⟩ := trodVars_none hV
  obtain ⟨s, rfl, rfl, rfl, ws⟩ := open_string Tryz.underlying9 (hval 0 9 v0 rfl rfl) h0
  obtain ⟨n, rfl, rfl, rfl, wn⟩ := open_int Tryz.underlying3 (hval 1 3 v1 rfl rfl) h1
  clear hA0 hval0
  refine (nil_walk s n W (three_rows hL)).mono fun e W' ⟨he, hos, hout, _, _, hblock⟩ => ?_
  subst he
  have e1 : Rows.formulaNilSpec.fn H ([.lit (.string s.data.toList), .lit (.int .i64 n)] ++ []) = { results := [.lit (.bool true)], args := [.lit (.string s.data.toList), .lit (.int .i64 n)] } := by simp [Rows.formulaNilSpec]
  refine ⟨_, rfl, _, _, _, [], [], [], hW', ?_, ?_, ?_, World.keptBut_mono (fun _ h => h.elim) (World.keptBut_none_iff.2 ⟨hos, hout, hblock⟩), fun h => by cases h⟩
  · rw [e1]; exact trodAll_mk1 (shut_bool Tryz.underlying4 true)
  · rw [e1]; exact trodAll_mk2 (shut_string Tryz.underlying9 ws) (shut_int Tryz.underlying3 wn)
  · rw [e1]; rfl

theorem formulaNil_holds : Rows.FormulaNilSaid :=
  OpenClaim.holds_of_wide 4 Tryz.f4 rfl rfl rfl rfl rfl rfl rfl ⟨rfl, rfl, rfl, rfl, rfl⟩ rfl rfl rfl rfl rfl (by kernel_rfl) Tryz.func4 (by kernel_rfl)
    (of_decide_eq_true (by kernel_rfl)) (by unfold Func.isWrapper; first | (rw [if_pos (by decide +kernel)]; kernel_rfl) | (rw [if_neg (by decide +kernel)]; exact ⟨rfl, rfl⟩))
    (fun os started H enc _ => lifted os started H enc)

theorem formulaNil_card : Rows.FormulaNilCardSaid :=
  Claim7.holds_tied_plain_at .later [] [.data, .data, .data] true (true, "c25374d9dc6f82436014d42a0bf6db48f0b8c4a5f63f1cc3e7c46c4624006016") true
    formulaNil_holds (fun _ h => by cases h) (by kernel_rfl) (fun _ h => by cases h) formulaNil_row_tie rfl ⟨rfl, rfl⟩ (by kernel_rfl) rfl
    (fun f fn hf hfn => by
      obtain rfl : f = 4 := Option.some.inj ((show Tryz.prog.funcNamed "thicket/thicketlaw21.FormulaNil" = some 4 by kernel_rfl).symm.trans hf) |>.symm
      obtain rfl : fn = Tryz.f4 := (Option.some.inj (Tryz.func4.symm.trans hfn)).symm
      exact ⟨by kernel_rfl, fun j t ht => by
        rw [Tryz.params4] at ht
        have hm : t ∈ [9, 3] := by simpa using Array.mem_of_getElem? ht
        have hall : ([9, 3].all fun u => !Tryz.prog.wantsStandIn u) = true := by kernel_rfl
        exact (show Tryz.prog.wantsStandIn t = false by simpa using List.all_eq_true.1 hall t hm)⟩)
    (by kernel_rfl)

end Go.Proofs.YteajocebbmfdmaaGreatDoor
