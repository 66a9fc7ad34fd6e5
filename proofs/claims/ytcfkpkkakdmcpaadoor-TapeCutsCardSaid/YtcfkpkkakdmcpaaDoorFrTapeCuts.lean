/- The statement TapeCuts, proved: for all lists of texts, wherever power is cut, what is recovered is what was appended with no error, and it goes on from there. Conditions: those of the given row (the listed package-level variables hold what the program's text lays, which the card ties to that text). -/
import Derived.Test.YtcfkpkkakdmcpaaDoorCards
import Derived.Test.YtcfkpkkakdmcpaaDoorTie
import Derived.Test.YtcfkpkkakdmcpaaDoorTapeC
import Derived.Test.YtcfkpkkakdmcpaaDoorStrsOpen
import Derived.Test.YtcfkpkkakdmcpaaDoorLaidH
import Derived.Test.YtcfkpkkakdmcpaaDoorPost
import Derived.ProofKit
import Derived.OpenShut
import Derived.ChangeMaps5
import Derived.LaidMore
import Derived.Deep.DeepHandedRow
import Derived.Deep.DeepWitnessRowRef
namespace Go.Proofs.YtcfkpkkakdmcpaaDoor.tapeCuts
open Go.ChangeShapes Go.WideShapes Go.ChangeAt Go.RowKit

theorem own : ownKnob Tryd.prog.godebug = none := by kernel_rfl

/-- What the row's list and the world's shape give the walk. -/
theorem glob {W : World} (h : laidMetH Tryd.prog Rows.tapeCutsRow.laid W) (hs : W.ShapedOpen Tryd.prog) : ∃ E, TapeG E W := by
  have L0 : laidMet Tryd.prog Rows.tapeCutsRow.laid W := h
  have L1 := laidMet.tail L0
  have L2 := laidMet.tail L1
  have htab : Lib.TabIs Tryd.prog W "internal/strconv.uint64pow10" .u64 Lib.pow10Tab :=
    Lib.tabIs_of_head (P := Tryd.prog) (g := 14) (t := 181) (e := 167) (n := 20) (by kernel_rfl) (by kernel_rfl) Tryd.underlying181 Tryd.underlying167 (by kernel_rfl) (by kernel_rfl) L2
  have L3 := laidMet.tail L2
  obtain ⟨axErrRange, sxErrRange⟩ := sent_of L3 (g := 16) (by kernel_rfl) (by kernel_rfl)
  have L4 := laidMet.tail L3
  obtain ⟨axErrSyntax, sxErrSyntax⟩ := sent_of L4 (g := 15) (by kernel_rfl) (by kernel_rfl)
  have L5 := laidMet.tail L4
  obtain ⟨aErrBound, sErrBound⟩ := sent_of L5 (g := 0) (by kernel_rfl) (by kernel_rfl)
  have L6 := laidMet.tail L5
  obtain ⟨aErrShape, sErrShape⟩ := sent_of L6 (g := 2) (by kernel_rfl) (by kernel_rfl)
  have L7 := laidMet.tail L6
  obtain ⟨aErrFull, sErrFull⟩ := sent_of L7 (g := 1) (by kernel_rfl) (by kernel_rfl)
  have L8 := laidMet.tail L7
  obtain ⟨aErrOff, sErrOff⟩ := sent_of L8 (g := 3) (by kernel_rfl) (by kernel_rfl)
  have hsz : 14 < W.heap.size := tab_big htab
  have hmax : MaxG W := cell_of_shapedOpen_int (zero := #[.int .i64 0]) (t := 3) hs (of_decide_eq_true (by kernel_rfl)) (by kernel_rfl) rfl (by kernel_rfl) (by kernel_rfl) Tryd.underlying3
  exact ⟨fun k => if k = 2 then aErrBound else if k = 3 then aErrShape else if k = 8 then aErrFull else aErrOff, sErrBound.at_, sErrShape.at_, sErrFull.at_, sErrOff.at_, ⟨htab, hsz⟩, ⟨⟨_, _, sxErrSyntax.at_⟩, ⟨_, _, sxErrRange.at_⟩⟩, hmax⟩

set_option maxRecDepth 100000 in
theorem contract (H : Type) (enc : TypeId × Value → H) (W : World) (base : Nat) (args : Array Value) (ds gs : List (DataW H)) (before : List MemPlace)
    (hval : ∀ (j : Nat) t v, Tryd.f5.params[j]? = some t → args[j]? = some v → Value.okWide Tryd.prog W .any base t v)
    (hW : DataW.Whole enc Tryd.prog Tryd.f5.params.toList Rows.tapeCutsSpec.vars false W args.toList ds gs before) (hL : laidMetH Tryd.prog Rows.tapeCutsRow.laid W) (hsh : W.ShapedOpen Tryd.prog) :
    Calls Tryd.prog 5 args W fun e W' => ∃ v, e = .returned v ∧ Rows.tapeCutsSpec.post enc Tryd.prog Tryd.f5 false true false false W args v W' := by
  have hW' := hW
  have hlt := hW.lt
  obtain ⟨p, q, hA0, hV, rfl, hfz, hnd⟩ := hW
  have hA : DataW.TrodAll enc Tryd.prog W 0 (fun _ => true) true Tryd.f5.params.toList args.toList ds p := hA0
  rw [Tryd.params5] at hA hval
  obtain ⟨v0, vs0, d0, ds0, p0, q0, hargs, rfl, rfl, h0, r0⟩ := trodAll_cons hA
  obtain ⟨v1, vs1, d1, ds1, p1, q1, rfl, rfl, rfl, h1, r1⟩ := trodAll_cons r0
  obtain ⟨rfl, rfl, rfl⟩ := trodAll_nil r1
  obtain rfl : args = #[v0, v1] := args_of hargs
  obtain ⟨rfl, rfl⟩ := trodVars_none hV
  obtain ⟨A0, cap0, xs0, rfl, hX0⟩ := strs_of (hval 0 36 v0 rfl rfl) h0
  obtain ⟨a1, rfl, rfl, rfl, w1⟩ := open_int Tryd.underlying3 (hval 1 3 v1 rfl rfl) h1
  have b1 : -9223372036854775808 ≤ a1 ∧ a1 ≤ 9223372036854775807 := by
    have h : IntKind.i64.min ≤ a1 ∧ a1 ≤ IntKind.i64.max := by simpa [Lit.wf] using w1
    exact h
  clear hA0
  obtain ⟨E, hG⟩ := glob hL hsh
  refine (tapeCuts_walk E A0 cap0 xs0 a1 W hG hX0 b1).mono fun e W' ⟨he, hg⟩ => ?_
  subst he
  exact ⟨_, rfl, law_post (bt := 4) (by kernel_rfl) (by kernel_rfl) hW' rfl rfl rfl rfl Tryd.underlying4 hg⟩

/-- The heap that the program's own initialisers leave meets the condition. -/
theorem door_met (os : Os) (args : Array Value) : laidMetH Tryd.prog Rows.tapeCutsRow.laid ((World.doorLaid Tryd.prog 400 os).forCall (fun _ _ => 0) ⟨#[], args, []⟩).memory :=
  laidMetH_of_parts3 (fuel := 8) (laidMet_of_run' 8 (by kernel_rfl) (by kernel_rfl)) (by kernel_rfl) (by kernel_rfl)

theorem reads (os : Os) {H : Type} (enc : TypeId × Value → H) : ∃ places, DataW.whole enc Tryd.prog ((World.doorLaid Tryd.prog 400 os).forCall (fun _ _ => 0) ⟨#[], (#[.slice none 0 0, .int .i64 0] : Array Value), []⟩).memory Tryd.f5.params.toList Rows.tapeCutsSpec.vars false (#[.slice none 0 0, .int .i64 0] : Array Value).toList 8 = some ([.nil, .lit (.int .i64 0)], [], places) :=
  ⟨[], by kernel_rfl⟩

set_option maxRecDepth 100000 in
theorem lifted (os : Os) (started : os.Started) (H : Type) (enc : TypeId × Value → H) (F : Stop.Interp) :
    ReturnsInHanded {} Tryd.checked os 5 .any ((OpenSpec.ofChange Rows.tapeCutsSpec).preRow enc Tryd.prog Tryd.f5 Rows.tapeCutsRow.domain false Rows.tapeCutsRow.laid) (((OpenSpec.ofChange Rows.tapeCutsSpec).at F).post enc Tryd.prog Tryd.f5 false true false false) := by
  obtain ⟨places, hx⟩ := reads os enc
  refine returnsInHanded_of_row (C := Tryd.checked) (s := OpenSpec.ofChange Rows.tapeCutsSpec) own started (by kernel_rfl) Tryd.func5
    (witness_row_atRef (enc := enc) (C := Tryd.checked) false (World.doorLaid Tryd.prog 400 os) (#[.slice none 0 0, .int .i64 0] : Array Value) rfl (by kernel_rfl) (by kernel_rfl) (by kernel_rfl)
      (OpenSpec.preRow_of_cond 8 hx (by kernel_rfl) (fun k hk => by cases hk) (by kernel_rfl) (door_met os _))) ?_
  intro W base args ds gs before hval hW _ _ _ hL hsh _
  exact contract H enc W base args ds gs before hval hW hL hsh

theorem said : Rows.TapeCutsSaid :=
  OpenClaim.holds_of_cond 5 Tryd.f5 rfl rfl rfl rfl rfl rfl rfl ⟨rfl, rfl, rfl, rfl, rfl⟩ rfl rfl rfl rfl rfl (by kernel_rfl) Tryd.func5 (by kernel_rfl)
    (of_decide_eq_true (by kernel_rfl)) (by unfold Func.isWrapper; first | (rw [if_pos (by decide +kernel)]; kernel_rfl) | (rw [if_neg (by decide +kernel)]; exact ⟨rfl, rfl⟩))
    (fun os started H enc _ F => by rw [OpenClaim.pre_eq_preRow]; exact lifted os started H enc F)

/-- No parameter wants a stand-in; the looks are those of the translation. -/
theorem plain (f : FuncId) (fn : Func) (hf : Tryd.pinned.checked.prog.funcNamed "tithebarn/tithebarnlaw3.TapeCuts" = some f) (hfn : Tryd.pinned.checked.prog.funcs[f]? = some fn) :
    true = Tryd.pinned.checked.prog.looks [] ∧ ∀ (j : Nat) t, fn.params[j]? = some t → Tryd.pinned.checked.prog.wantsStandIn t = false := by
  obtain rfl : f = 5 := Option.some.inj ((show Tryd.prog.funcNamed "tithebarn/tithebarnlaw3.TapeCuts" = some 5 by kernel_rfl).symm.trans hf) |>.symm
  obtain rfl : fn = Tryd.f5 := (Option.some.inj (Tryd.func5.symm.trans hfn)).symm
  refine ⟨by kernel_rfl, fun j t ht => ?_⟩
  rw [Tryd.params5] at ht
  have hm : t ∈ ([36, 3] : List TypeId) := by simpa using Array.mem_of_getElem? ht
  have hall : (([36, 3] : List TypeId).all fun u => !Tryd.prog.wantsStandIn u) = true := by kernel_rfl
  exact (show Tryd.prog.wantsStandIn t = false by simpa using List.all_eq_true.1 hall t hm)

/-- The statement: the tied card. -/
theorem card : Rows.TapeCutsCardSaid :=
  Claim7.holds_tied_plain_at .later [] _ _ _ _ said (fun _ h => by cases h) (by kernel_rfl) (fun _ h => by cases h) tapeCuts_row_tie rfl ⟨rfl, rfl⟩ (by kernel_rfl) rfl plain (by kernel_rfl)
#print axioms card
end Go.Proofs.YtcfkpkkakdmcpaaDoor.tapeCuts
