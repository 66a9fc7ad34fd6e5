/- The statement SnapBack, proved: for all entries and all that come behind them, a book is restored from its text as it was, and goes on alike. Conditions: those of the given row (the listed package-level variables hold what the program's text lays, which the card ties to that text). -/
import Derived.Test.YteaalifehokgoaaGreatDoorCards
import Derived.Test.YteaalifehokgoaaGreatDoorTie
import Derived.ProofKit
import Derived.OpenShut
import Derived.ChangeMaps5
import Derived.LaidMore
import Derived.Lay
import Derived.MakeChecks
import Derived.Deep.DeepHandedRow
import Derived.Deep.DeepWitnessRowRef
import Derived.Test.YteaalifehokgoaaGreatDoorM34
import Derived.Test.YteaalifehokgoaaGreatDoorLSnapBack04
namespace Go.Proofs.YteaalifehokgoaaGreatDoor.snapBack
open Go.ChangeShapes Go.WideShapes Go.ChangeAt Go.RowKit

theorem own : ownKnob Tryz.prog.godebug = none := by kernel_rfl

/-- What the row's list and the world's shape give the walk. -/
theorem glob {W : World} (h : laidMetH Tryz.prog Rows.snapBackRow.laid W) (hs : W.ShapedOpen Tryz.prog) : ∃ E, SbG E W := by
  obtain ⟨L0, HH⟩ : laidMet Tryz.prog [("math/bits.deBruijn32tab", Rows.laid_math_bits_deBruijn32tab), ("math/bits.deBruijn64tab", Rows.laid_math_bits_deBruijn64tab), ("internal/strconv.uint64pow10", Rows.laid_internal_strconv_uint64pow10), ("unicode/utf8.acceptRanges", Rows.laid_unicode_utf8_acceptRanges), ("strconv.ErrRange", Rows.laid_strconv_ErrRange), ("strconv.ErrSyntax", Rows.laid_strconv_ErrSyntax), ("tithebarn/api.ErrText", Rows.laid_tithebarn_api_ErrText), ("tithebarn/api.ErrBound", Rows.laid_tithebarn_api_ErrBound), ("tithebarn/api.ErrShape", Rows.laid_tithebarn_api_ErrShape), ("tithebarn/api.ErrKind", Rows.laid_tithebarn_api_ErrKind), ("tithebarn/api.ErrName", Rows.laid_tithebarn_api_ErrName), ("tithebarn/api.ErrNone", Rows.laid_tithebarn_api_ErrNone), ("tithebarn/api.ErrExist", Rows.laid_tithebarn_api_ErrExist), ("tithebarn/api.ErrFull", Rows.laid_tithebarn_api_ErrFull), ("tithebarn/api.ErrShort", Rows.laid_tithebarn_api_ErrShort), ("tithebarn/api.ErrOrder", Rows.laid_tithebarn_api_ErrOrder), ("tithebarn/api.ErrState", Rows.laid_tithebarn_api_ErrState), ("tithebarn/api.ErrOff", Rows.laid_tithebarn_api_ErrOff), ("unicode/utf8.first", Rows.laid_unicode_utf8_first)] W ∧ handlesMet Tryz.prog [("errors.errorType", Rows.laid_errors_errorType)] W := h
  have L1 := laidMet.tail L0
  have L2 := laidMet.tail L1
  have htab : Lib.TabIs Tryz.prog W "internal/strconv.uint64pow10" .u64 Lib.pow10Tab :=
    Lib.tabIs_of_head (P := Tryz.prog) (g := 16) (t := 292) (e := 251) (n := 20) (by kernel_rfl) (by kernel_rfl) Tryz.underlying292 Tryz.underlying251 (by kernel_rfl) (by kernel_rfl) L2
  have L3 := laidMet.tail L2
  have L4 := laidMet.tail L3
  obtain ⟨axErrRange, sxErrRange⟩ := sent_of L4 (g := 18) (by kernel_rfl) (by kernel_rfl)
  have L5 := laidMet.tail L4
  obtain ⟨axErrSyntax, sxErrSyntax⟩ := sent_of L5 (g := 17) (by kernel_rfl) (by kernel_rfl)
  have L6 := laidMet.tail L5
  obtain ⟨aErrText, sErrText⟩ := sent_of L6 (g := 1) (by kernel_rfl) (by kernel_rfl)
  have L7 := laidMet.tail L6
  obtain ⟨aErrBound, sErrBound⟩ := sent_of L7 (g := 0) (by kernel_rfl) (by kernel_rfl)
  have L8 := laidMet.tail L7
  obtain ⟨aErrShape, sErrShape⟩ := sent_of L8 (g := 2) (by kernel_rfl) (by kernel_rfl)
  have L9 := laidMet.tail L8
  obtain ⟨aErrKind, sErrKind⟩ := sent_of L9 (g := 3) (by kernel_rfl) (by kernel_rfl)
  have L10 := laidMet.tail L9
  obtain ⟨aErrName, sErrName⟩ := sent_of L10 (g := 4) (by kernel_rfl) (by kernel_rfl)
  have L11 := laidMet.tail L10
  obtain ⟨aErrNone, sErrNone⟩ := sent_of L11 (g := 5) (by kernel_rfl) (by kernel_rfl)
  have L12 := laidMet.tail L11
  obtain ⟨aErrExist, sErrExist⟩ := sent_of L12 (g := 6) (by kernel_rfl) (by kernel_rfl)
  have L13 := laidMet.tail L12
  obtain ⟨aErrFull, sErrFull⟩ := sent_of L13 (g := 7) (by kernel_rfl) (by kernel_rfl)
  have L14 := laidMet.tail L13
  obtain ⟨aErrShort, sErrShort⟩ := sent_of L14 (g := 8) (by kernel_rfl) (by kernel_rfl)
  have L15 := laidMet.tail L14
  obtain ⟨aErrOrder, sErrOrder⟩ := sent_of L15 (g := 9) (by kernel_rfl) (by kernel_rfl)
  have L16 := laidMet.tail L15
  obtain ⟨aErrState, sErrState⟩ := sent_of L16 (g := 10) (by kernel_rfl) (by kernel_rfl)
  have L17 := laidMet.tail L16
  obtain ⟨aErrOff, sErrOff⟩ := sent_of L17 (g := 11) (by kernel_rfl) (by kernel_rfl)
  have L18 := laidMet.tail L17
  have hty := handle_of HH
  have hsz : 16 < W.heap.size := tab_big htab
  have hmax : MaxG W := cell_of_shapedOpen_int (zero := #[.int .i64 0]) (t := 3) hs (of_decide_eq_true (by kernel_rfl)) (by kernel_rfl) rfl (by kernel_rfl) (by kernel_rfl) Tryz.underlying3
  exact ⟨fun k => if k = 1 then aErrText else if k = 2 then aErrBound else if k = 3 then aErrShape else if k = 4 then aErrKind else if k = 5 then aErrName else if k = 6 then aErrNone else if k = 7 then aErrExist else if k = 8 then aErrFull else if k = 9 then aErrShort else if k = 10 then aErrOrder else if k = 11 then aErrState else aErrOff, ⟨⟨⟨⟨⟨sErrName.at_, sErrBound.at_⟩, sErrFull.at_, sErrShort.at_, sErrShape.at_⟩, sErrKind.at_, sErrNone.at_, sErrExist.at_⟩, ⟨sErrText.at_, sErrName.at_, sErrBound.at_, ⟨htab, hsz⟩, ⟨⟨_, _, sxErrSyntax.at_⟩, ⟨_, _, sxErrRange.at_⟩⟩, hmax⟩⟩, errG_of sErrText sErrBound sErrShape sErrKind sErrName sErrNone sErrExist sErrFull sErrShort sErrOrder sErrState sErrOff hty⟩⟩

set_option maxRecDepth 100000 in
theorem contract (H : Type) (enc : TypeId × Value → H) (W : World) (base : Nat) (args : Array Value) (ds gs : List (DataW H)) (before : List MemPlace)
    (hval : ∀ (j : Nat) t v, Tryz.f3.params[j]? = some t → args[j]? = some v → Value.okWide Tryz.prog W .any base t v)
    (hW : DataW.Whole enc Tryz.prog Tryz.f3.params.toList Rows.snapBackSpec.vars false W args.toList ds gs before) (hL : laidMetH Tryz.prog Rows.snapBackRow.laid W) (hsh : W.ShapedOpen Tryz.prog) :
    Calls Tryz.prog 3 args W fun e W' => ∃ v, e = .returned v ∧ Rows.snapBackSpec.post enc Tryz.prog Tryz.f3 false true false false W args v W' := by
  have hW' := hW
  have hlt := hW.lt
  obtain ⟨p, q, hA0, hV, rfl, hfz, hnd⟩ := hW
  have hA : DataW.TrodAll enc Tryz.prog W 0 (fun _ => true) true Tryz.f3.params.toList args.toList ds p := hA0
  rw [Tryz.params3] at hA hval
  obtain ⟨v0, vs0, d0, ds0, p0, q0, hargs, rfl, rfl, h0, r0⟩ := trodAll_cons hA
  obtain ⟨v1, vs1, d1, ds1, p1, q1, rfl, rfl, rfl, h1, r1⟩ := trodAll_cons r0
  obtain ⟨rfl, rfl, rfl⟩ := trodAll_nil r1
  obtain rfl : args = #[v0, v1] := args_of hargs
  obtain ⟨rfl, rfl⟩ := trodVars_none hV
  obtain ⟨A0, cap0, xs0, rfl, hX0⟩ := ents_of (hval 0 22 v0 rfl rfl) h0
  obtain ⟨A1, cap1, xs1, rfl, hX1⟩ := ents_of (hval 1 22 v1 rfl rfl) h1
  clear hA0
  obtain ⟨E, hG⟩ := glob hL hsh
  refine (snapBack_walk E A0 cap0 xs0 A1 cap1 xs1 W hG hX0 hX1).mono fun e W' ⟨he, hg⟩ => ?_
  subst he
  exact ⟨_, rfl, law_post (bt := 4) (by kernel_rfl) (by kernel_rfl) hW' rfl rfl rfl rfl Tryz.underlying4 hg⟩

/-- The heap that the program's own initialisers leave meets the condition. -/
theorem door_met (os : Os) (args : Array Value) : laidMetH Tryz.prog Rows.snapBackRow.laid (((World.doorLaid Tryz.prog 400 os).layVars Tryz.prog (Rows.snapBackRow.laid.filter fun x => x.2.handleName?.isNone)).forCall (fun _ _ => 0) ⟨#[], args, []⟩).memory :=
  laidMetH_of_parts3 (fuel := 8) (laidMet_over args (by kernel_rfl) (by kernel_rfl)) (by kernel_rfl) (by kernel_rfl)

theorem reads (os : Os) {H : Type} (enc : TypeId × Value → H) : ∃ places, DataW.whole enc Tryz.prog (((World.doorLaid Tryz.prog 400 os).layVars Tryz.prog (Rows.snapBackRow.laid.filter fun x => x.2.handleName?.isNone)).forCall (fun _ _ => 0) ⟨#[], (#[.slice none 0 0, .slice none 0 0] : Array Value), []⟩).memory Tryz.f3.params.toList Rows.snapBackSpec.vars false (#[.slice none 0 0, .slice none 0 0] : Array Value).toList 8 = some ([.nil, .nil], [], places) :=
  ⟨[], by kernel_rfl⟩

set_option maxRecDepth 100000 in
theorem lifted (os : Os) (started : os.Started) (H : Type) (enc : TypeId × Value → H) (F : Stop.Interp) :
    ReturnsInHanded {} Tryz.checked os 3 .any ((OpenSpec.ofChange Rows.snapBackSpec).preRow enc Tryz.prog Tryz.f3 Rows.snapBackRow.domain false Rows.snapBackRow.laid) (((OpenSpec.ofChange Rows.snapBackSpec).at F).post enc Tryz.prog Tryz.f3 false true false false) := by
  obtain ⟨places, hx⟩ := reads os enc
  refine returnsInHanded_of_row (C := Tryz.checked) (s := OpenSpec.ofChange Rows.snapBackSpec) own started (by kernel_rfl) Tryz.func3
    (witness_row_atRef (enc := enc) (C := Tryz.checked) false ((World.doorLaid Tryz.prog 400 os).layVars Tryz.prog (Rows.snapBackRow.laid.filter fun x => x.2.handleName?.isNone)) (#[.slice none 0 0, .slice none 0 0] : Array Value) ((World.layVars_os _ _ _).trans rfl) (by kernel_rfl) (by kernel_rfl) (by kernel_rfl)
      (OpenSpec.preRow_of_cond 8 hx (by kernel_rfl) (fun k hk => by cases hk) (by kernel_rfl) (door_met os _))) ?_
  intro W base args ds gs before hval hW _ _ _ hL hsh _
  exact contract H enc W base args ds gs before hval hW hL hsh

set_option maxHeartbeats 16000000 in
theorem said : Rows.SnapBackSaid :=
  OpenClaim.holds_of_cond 3 Tryz.f3 rfl rfl rfl rfl rfl rfl rfl ⟨rfl, rfl, rfl, rfl, rfl⟩ rfl rfl rfl rfl rfl (by as_aux_lemma => kernel_rfl) Tryz.func3
    (by unfold joinedFacts; simp only [Bool.and_eq_true]; repeat' apply And.intro
        all_goals (as_aux_lemma => kernel_rfl))
    (of_decide_eq_true (by as_aux_lemma => kernel_rfl)) (by as_aux_lemma => (unfold Func.isWrapper; first | (rw [if_pos (by decide +kernel)]; kernel_rfl) | (rw [if_neg (by decide +kernel)]; exact ⟨rfl, rfl⟩)))
    (fun os started H enc _ F => by rw [OpenClaim.pre_eq_preRow]; exact lifted os started H enc F)

/-- No parameter wants a stand-in; the looks are those of the translation. -/
theorem plain (f : FuncId) (fn : Func) (hf : Tryz.pinned.checked.prog.funcNamed "tithebarn/tithebarnlaw3.SnapBack" = some f) (hfn : Tryz.pinned.checked.prog.funcs[f]? = some fn) :
    true = Tryz.pinned.checked.prog.looks [] ∧ ∀ (j : Nat) t, fn.params[j]? = some t → Tryz.pinned.checked.prog.wantsStandIn t = false := by
  obtain rfl : f = 3 := Option.some.inj ((show Tryz.prog.funcNamed "tithebarn/tithebarnlaw3.SnapBack" = some 3 by kernel_rfl).symm.trans hf) |>.symm
  obtain rfl : fn = Tryz.f3 := (Option.some.inj (Tryz.func3.symm.trans hfn)).symm
  refine ⟨by kernel_rfl, fun j t ht => ?_⟩
  rw [Tryz.params3] at ht
  have hm : t ∈ ([22, 22] : List TypeId) := by simpa using Array.mem_of_getElem? ht
  have hall : (([22, 22] : List TypeId).all fun u => !Tryz.prog.wantsStandIn u) = true := by kernel_rfl
  exact (show Tryz.prog.wantsStandIn t = false by simpa using List.all_eq_true.1 hall t hm)

/-- The statement: the tied card. -/
theorem card : Rows.SnapBackCardSaid :=
  Claim7.holds_tied_plain_at .later [] _ _ _ _ said (fun _ h => by cases h) (by kernel_rfl) (fun _ h => by cases h) snapBack_row_tie rfl ⟨rfl, rfl⟩ (by kernel_rfl) rfl plain (by kernel_rfl)
#print axioms card
end Go.Proofs.YteaalifehokgoaaGreatDoor.snapBack
