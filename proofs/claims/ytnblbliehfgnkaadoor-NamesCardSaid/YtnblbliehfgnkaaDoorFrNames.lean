/- The statement Names, proved: the numbers of package api, and of its errors, are those of the document. Conditions: those of the given row (the listed package-level variables hold what the program's text lays, which the card ties to that text). -/
import Derived.Test.YtnblbliehfgnkaaDoorCards
import Derived.Test.YtnblbliehfgnkaaDoorTie
import Derived.Test.YtnblbliehfgnkaaDoorNames
import Derived.Test.YtnblbliehfgnkaaDoorErrG
import Derived.Test.YtnblbliehfgnkaaDoorLaidH
import Derived.Test.YtnblbliehfgnkaaDoorPost
import Derived.ProofKit
import Derived.OpenShut
import Derived.LaidMore
import Derived.Deep.DeepHandedRow
import Derived.Deep.DeepWitnessRowRef
namespace Go.Proofs.YtnblbliehfgnkaaDoor.names
open Go.ChangeShapes Go.WideShapes Go.ChangeAt Go.RowKit

theorem own : ownKnob Tryd.prog.godebug = none := by kernel_rfl

/-- What the row's list and the world's shape give the walk. -/
theorem glob {W : World} (h : laidMetH Tryd.prog Rows.namesRow.laid W) (_ : W.ShapedOpen Tryd.prog) : ∃ E, ErrG E W := by
  obtain ⟨L0, HH⟩ : laidMet Tryd.prog [("tithebarn/api.ErrText", Rows.laid_tithebarn_api_ErrText), ("tithebarn/api.ErrBound", Rows.laid_tithebarn_api_ErrBound), ("tithebarn/api.ErrShape", Rows.laid_tithebarn_api_ErrShape), ("tithebarn/api.ErrKind", Rows.laid_tithebarn_api_ErrKind), ("tithebarn/api.ErrName", Rows.laid_tithebarn_api_ErrName), ("tithebarn/api.ErrNone", Rows.laid_tithebarn_api_ErrNone), ("tithebarn/api.ErrExist", Rows.laid_tithebarn_api_ErrExist), ("tithebarn/api.ErrFull", Rows.laid_tithebarn_api_ErrFull), ("tithebarn/api.ErrShort", Rows.laid_tithebarn_api_ErrShort), ("tithebarn/api.ErrOrder", Rows.laid_tithebarn_api_ErrOrder), ("tithebarn/api.ErrState", Rows.laid_tithebarn_api_ErrState), ("tithebarn/api.ErrOff", Rows.laid_tithebarn_api_ErrOff)] W ∧ handlesMet Tryd.prog [("errors.errorType", Rows.laid_errors_errorType)] W := h
  obtain ⟨aErrText, sErrText⟩ := sent_of L0 (g := 0) (by kernel_rfl) (by kernel_rfl)
  have L1 := laidMet.tail L0
  obtain ⟨aErrBound, sErrBound⟩ := sent_of L1 (g := 1) (by kernel_rfl) (by kernel_rfl)
  have L2 := laidMet.tail L1
  obtain ⟨aErrShape, sErrShape⟩ := sent_of L2 (g := 2) (by kernel_rfl) (by kernel_rfl)
  have L3 := laidMet.tail L2
  obtain ⟨aErrKind, sErrKind⟩ := sent_of L3 (g := 3) (by kernel_rfl) (by kernel_rfl)
  have L4 := laidMet.tail L3
  obtain ⟨aErrName, sErrName⟩ := sent_of L4 (g := 4) (by kernel_rfl) (by kernel_rfl)
  have L5 := laidMet.tail L4
  obtain ⟨aErrNone, sErrNone⟩ := sent_of L5 (g := 5) (by kernel_rfl) (by kernel_rfl)
  have L6 := laidMet.tail L5
  obtain ⟨aErrExist, sErrExist⟩ := sent_of L6 (g := 6) (by kernel_rfl) (by kernel_rfl)
  have L7 := laidMet.tail L6
  obtain ⟨aErrFull, sErrFull⟩ := sent_of L7 (g := 7) (by kernel_rfl) (by kernel_rfl)
  have L8 := laidMet.tail L7
  obtain ⟨aErrShort, sErrShort⟩ := sent_of L8 (g := 8) (by kernel_rfl) (by kernel_rfl)
  have L9 := laidMet.tail L8
  obtain ⟨aErrOrder, sErrOrder⟩ := sent_of L9 (g := 9) (by kernel_rfl) (by kernel_rfl)
  have L10 := laidMet.tail L9
  obtain ⟨aErrState, sErrState⟩ := sent_of L10 (g := 10) (by kernel_rfl) (by kernel_rfl)
  have L11 := laidMet.tail L10
  obtain ⟨aErrOff, sErrOff⟩ := sent_of L11 (g := 11) (by kernel_rfl) (by kernel_rfl)
  have hty := handle_of HH
  exact ⟨fun k => if k = 1 then aErrText else if k = 2 then aErrBound else if k = 3 then aErrShape else if k = 4 then aErrKind else if k = 5 then aErrName else if k = 6 then aErrNone else if k = 7 then aErrExist else if k = 8 then aErrFull else if k = 9 then aErrShort else if k = 10 then aErrOrder else if k = 11 then aErrState else aErrOff, errG_of sErrText sErrBound sErrShape sErrKind sErrName sErrNone sErrExist sErrFull sErrShort sErrOrder sErrState sErrOff hty⟩

set_option maxRecDepth 100000 in
theorem contract (H : Type) (enc : TypeId × Value → H) (W : World) (base : Nat) (args : Array Value) (ds gs : List (DataW H)) (before : List MemPlace)
    (hval : ∀ (j : Nat) t v, Tryd.f3.params[j]? = some t → args[j]? = some v → Value.okWide Tryd.prog W .any base t v)
    (hW : DataW.Whole enc Tryd.prog Tryd.f3.params.toList Rows.namesSpec.vars false W args.toList ds gs before) (hL : laidMetH Tryd.prog Rows.namesRow.laid W) (hsh : W.ShapedOpen Tryd.prog) :
    Calls Tryd.prog 3 args W fun e W' => ∃ v, e = .returned v ∧ Rows.namesSpec.post enc Tryd.prog Tryd.f3 false true false false W args v W' := by
  have hW' := hW
  have hlt := hW.lt
  obtain ⟨p, q, hA0, hV, rfl, hfz, hnd⟩ := hW
  have hA : DataW.TrodAll enc Tryd.prog W 0 (fun _ => true) true Tryd.f3.params.toList args.toList ds p := hA0
  rw [Tryd.params3] at hA hval
  obtain ⟨hargs, rfl, rfl⟩ := trodAll_nil hA
  obtain rfl : args = #[] := args_of hargs
  obtain ⟨rfl, rfl⟩ := trodVars_none hV
  clear hA0
  obtain ⟨E, hG⟩ := glob hL hsh
  refine (names_walk E W hG).mono fun e W' ⟨he, hg⟩ => ?_
  subst he
  exact ⟨_, rfl, law_post (bt := 4) (by kernel_rfl) (by kernel_rfl) hW' rfl rfl rfl rfl Tryd.underlying4 hg⟩

/-- The heap that the program's own initialisers leave meets the condition. -/
theorem door_met (os : Os) (args : Array Value) : laidMetH Tryd.prog Rows.namesRow.laid ((World.doorLaid Tryd.prog 400 os).forCall (fun _ _ => 0) ⟨#[], args, []⟩).memory :=
  laidMetH_of_parts3 (fuel := 8) (laidMet_of_run' 8 (by kernel_rfl) (by kernel_rfl)) (by kernel_rfl) (by kernel_rfl)

theorem reads (os : Os) {H : Type} (enc : TypeId × Value → H) : ∃ places, DataW.whole enc Tryd.prog ((World.doorLaid Tryd.prog 400 os).forCall (fun _ _ => 0) ⟨#[], (#[] : Array Value), []⟩).memory Tryd.f3.params.toList Rows.namesSpec.vars false (#[] : Array Value).toList 8 = some ([], [], places) :=
  ⟨[], by kernel_rfl⟩

set_option maxRecDepth 100000 in
theorem lifted (os : Os) (started : os.Started) (H : Type) (enc : TypeId × Value → H) (F : Stop.Interp) :
    ReturnsInHanded {} Tryd.checked os 3 .any ((OpenSpec.ofChange Rows.namesSpec).preRow enc Tryd.prog Tryd.f3 Rows.namesRow.domain false Rows.namesRow.laid) (((OpenSpec.ofChange Rows.namesSpec).at F).post enc Tryd.prog Tryd.f3 false true false false) := by
  obtain ⟨places, hx⟩ := reads os enc
  refine returnsInHanded_of_row (C := Tryd.checked) (s := OpenSpec.ofChange Rows.namesSpec) own started (by kernel_rfl) Tryd.func3
    (witness_row_atRef (enc := enc) (C := Tryd.checked) false (World.doorLaid Tryd.prog 400 os) (#[] : Array Value) rfl (by kernel_rfl) (by kernel_rfl) (by kernel_rfl)
      (OpenSpec.preRow_of_cond 8 hx (by kernel_rfl) (fun k hk => by cases hk) (by kernel_rfl) (door_met os _))) ?_
  intro W base args ds gs before hval hW _ _ _ hL hsh _
  exact contract H enc W base args ds gs before hval hW hL hsh

theorem said : Rows.NamesSaid :=
  OpenClaim.holds_of_cond 3 Tryd.f3 rfl rfl rfl rfl rfl rfl rfl ⟨rfl, rfl, rfl, rfl, rfl⟩ rfl rfl rfl rfl rfl (by kernel_rfl) Tryd.func3 (by kernel_rfl)
    (of_decide_eq_true (by kernel_rfl)) (by unfold Func.isWrapper; first | (rw [if_pos (by decide +kernel)]; kernel_rfl) | (rw [if_neg (by decide +kernel)]; exact ⟨rfl, rfl⟩))
    (fun os started H enc _ F => by rw [OpenClaim.pre_eq_preRow]; exact lifted os started H enc F)

/-- No parameter wants a stand-in; the looks are those of the translation. -/
theorem plain (f : FuncId) (fn : Func) (hf : Tryd.pinned.checked.prog.funcNamed "tithebarn/tithebarnlaw1.Names" = some f) (hfn : Tryd.pinned.checked.prog.funcs[f]? = some fn) :
    true = Tryd.pinned.checked.prog.looks [] ∧ ∀ (j : Nat) t, fn.params[j]? = some t → Tryd.pinned.checked.prog.wantsStandIn t = false := by
  obtain rfl : f = 3 := Option.some.inj ((show Tryd.prog.funcNamed "tithebarn/tithebarnlaw1.Names" = some 3 by kernel_rfl).symm.trans hf) |>.symm
  obtain rfl : fn = Tryd.f3 := (Option.some.inj (Tryd.func3.symm.trans hfn)).symm
  refine ⟨by kernel_rfl, fun j t ht => ?_⟩
  rw [Tryd.params3] at ht
  have hm : t ∈ ([] : List TypeId) := by simpa using Array.mem_of_getElem? ht
  have hall : (([] : List TypeId).all fun u => !Tryd.prog.wantsStandIn u) = true := by kernel_rfl
  exact (show Tryd.prog.wantsStandIn t = false by simpa using List.all_eq_true.1 hall t hm)

/-- The statement: the tied card. -/
theorem card : Rows.NamesCardSaid :=
  Claim7.holds_tied_plain_at .later [] _ _ _ _ said (fun _ h => by cases h) (by kernel_rfl) (fun _ h => by cases h) names_row_tie rfl ⟨rfl, rfl⟩ (by kernel_rfl) rfl plain (by kernel_rfl)
#print axioms card
end Go.Proofs.YtnblbliehfgnkaaDoor.names
