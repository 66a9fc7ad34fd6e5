/- The statement BookKeeps, proved: for all entries, what is there is what came less what went, and what was found more less what was found less; what is held is there; an entry with an error changes nothing. Conditions: those of the given row (the listed package-level variables hold what the program's text lays, which the card ties to that text). -/
import Derived.Test.YtphgakobfegpcaaGreatDoorCards
import Derived.Test.YtphgakobfegpcaaGreatDoorTie
import Derived.ProofKit
import Derived.OpenShut
import Derived.ChangeMaps5
import Derived.LaidMore
import Derived.Lay
import Derived.MakeChecks
import Derived.Deep.DeepHandedRow
import Derived.Deep.DeepWitnessRowRef
import Derived.Test.YtphgakobfegpcaaGreatDoorM39
import Derived.Test.YtphgakobfegpcaaGreatDoorM48
namespace Go.Proofs.YtphgakobfegpcaaGreatDoor.bookKeeps
open Go.ChangeShapes Go.WideShapes Go.ChangeAt Go.RowKit

theorem own : ownKnob Tryz.prog.godebug = none := by kernel_rfl

/-- What the row's list and the world's shape give the walk. -/
theorem glob {W : World} (h : laidMetH Tryz.prog Rows.bookKeepsRow.laid W) (hs : W.ShapedOpen Tryz.prog) : ∃ E, BkLawG E W := by
  have L0 : laidMet Tryz.prog Rows.bookKeepsRow.laid W := h
  have L1 := laidMet.tail L0
  have L2 := laidMet.tail L1
  have htab : Lib.TabIs Tryz.prog W "internal/strconv.uint64pow10" .u64 Lib.pow10Tab :=
    Lib.tabIs_of_head (P := Tryz.prog) (g := 14) (t := 296) (e := 264) (n := 20) (by kernel_rfl) (by kernel_rfl) Tryz.underlying296 Tryz.underlying264 (by kernel_rfl) (by kernel_rfl) L2
  have L3 := laidMet.tail L2
  have L4 := laidMet.tail L3
  obtain ⟨aErrBound, sErrBound⟩ := sent_of L4 (g := 2) (by kernel_rfl) (by kernel_rfl)
  have L5 := laidMet.tail L4
  obtain ⟨aErrShape, sErrShape⟩ := sent_of L5 (g := 1) (by kernel_rfl) (by kernel_rfl)
  have L6 := laidMet.tail L5
  obtain ⟨aErrKind, sErrKind⟩ := sent_of L6 (g := 5) (by kernel_rfl) (by kernel_rfl)
  have L7 := laidMet.tail L6
  obtain ⟨aErrName, sErrName⟩ := sent_of L7 (g := 6) (by kernel_rfl) (by kernel_rfl)
  have L8 := laidMet.tail L7
  obtain ⟨aErrNone, sErrNone⟩ := sent_of L8 (g := 0) (by kernel_rfl) (by kernel_rfl)
  have L9 := laidMet.tail L8
  obtain ⟨aErrExist, sErrExist⟩ := sent_of L9 (g := 7) (by kernel_rfl) (by kernel_rfl)
  have L10 := laidMet.tail L9
  obtain ⟨aErrFull, sErrFull⟩ := sent_of L10 (g := 8) (by kernel_rfl) (by kernel_rfl)
  have L11 := laidMet.tail L10
  obtain ⟨aErrShort, sErrShort⟩ := sent_of L11 (g := 3) (by kernel_rfl) (by kernel_rfl)
  have L12 := laidMet.tail L11
  have hsz : 14 < W.heap.size := tab_big htab
  have hmax : MaxG W := cell_of_shapedOpen_int (zero := #[.int .i64 0]) (t := 3) hs (of_decide_eq_true (by kernel_rfl)) (by kernel_rfl) rfl (by kernel_rfl) (by kernel_rfl) Tryz.underlying3
  exact ⟨fun k => if k = 2 then aErrBound else if k = 3 then aErrShape else if k = 4 then aErrKind else if k = 5 then aErrName else if k = 6 then aErrNone else if k = 7 then aErrExist else if k = 8 then aErrFull else aErrShort, ⟨⟨⟨sErrName.at_, sErrBound.at_⟩, sErrFull.at_, sErrShort.at_, sErrShape.at_⟩, sErrKind.at_, sErrNone.at_, sErrExist.at_⟩, ⟨htab, hsz⟩⟩

set_option maxRecDepth 100000 in
theorem contract (H : Type) (enc : TypeId × Value → H) (W : World) (base : Nat) (args : Array Value) (ds gs : List (DataW H)) (before : List MemPlace)
    (hval : ∀ (j : Nat) t v, Tryz.f6.params[j]? = some t → args[j]? = some v → Value.okWide Tryz.prog W .any base t v)
    (hW : DataW.Whole enc Tryz.prog Tryz.f6.params.toList Rows.bookKeepsSpec.vars false W args.toList ds gs before) (hL : laidMetH Tryz.prog Rows.bookKeepsRow.laid W) (hsh : W.ShapedOpen Tryz.prog) :
    Calls Tryz.prog 6 args W fun e W' => ∃ v, e = .returned v ∧ Rows.bookKeepsSpec.post enc Tryz.prog Tryz.f6 false true false false W args v W' := by
  have hW' := hW
  have hlt := hW.lt
  obtain ⟨p, q, hA0, hV, rfl, hfz, hnd⟩ := hW
  have hA : DataW.TrodAll enc Tryz.prog W 0 (fun _ => true) true Tryz.f6.params.toList args.toList ds p := hA0
  rw [Tryz.params6] at hA hval
  obtain ⟨v0, vs0, d0, ds0, p0, q0, hargs, rfl, rfl, h0, r0⟩ := trodAll_cons hA
  obtain ⟨rfl, rfl, rfl⟩ := trodAll_nil r0
  obtain rfl : args = #[v0] := args_of hargs
  obtain ⟨rfl, rfl⟩ := trodVars_none hV
  obtain ⟨A0, cap0, xs0, rfl, hX0⟩ := ents_of (hval 0 22 v0 rfl rfl) h0
  clear hA0
  obtain ⟨E, hG⟩ := glob hL hsh
  refine (bookKeeps_walk E A0 cap0 xs0 W hG hX0).mono fun e W' ⟨he, hg⟩ => ?_
  subst he
  exact ⟨_, rfl, law_post (bt := 4) (by kernel_rfl) (by kernel_rfl) hW' rfl rfl rfl rfl Tryz.underlying4 hg⟩

/-- The heap that the program's own initialisers leave meets the condition. -/
theorem door_met (os : Os) (args : Array Value) : laidMetH Tryz.prog Rows.bookKeepsRow.laid ((World.laidAll Tryz.prog os Rows.bookKeepsRow.laid).forCall (fun _ _ => 0) ⟨#[], args, []⟩).memory :=
  by
  rw [MakeChecks.laidMetH_plain _ _ _ (by kernel_rfl)]
  exact laidMet_laidAll _ (by kernel_rfl) (by kernel_rfl)

theorem reads (os : Os) {H : Type} (enc : TypeId × Value → H) : ∃ places, DataW.whole enc Tryz.prog ((World.laidAll Tryz.prog os Rows.bookKeepsRow.laid).forCall (fun _ _ => 0) ⟨#[], (#[.slice none 0 0] : Array Value), []⟩).memory Tryz.f6.params.toList Rows.bookKeepsSpec.vars false (#[.slice none 0 0] : Array Value).toList 8 = some ([.nil], [], places) :=
  ⟨[], by kernel_rfl⟩

set_option maxRecDepth 100000 in
theorem lifted (os : Os) (started : os.Started) (H : Type) (enc : TypeId × Value → H) (F : Stop.Interp) :
    ReturnsInHanded {} Tryz.checked os 6 .any ((OpenSpec.ofChange Rows.bookKeepsSpec).preRow enc Tryz.prog Tryz.f6 Rows.bookKeepsRow.domain false Rows.bookKeepsRow.laid) (((OpenSpec.ofChange Rows.bookKeepsSpec).at F).post enc Tryz.prog Tryz.f6 false true false false) := by
  obtain ⟨places, hx⟩ := reads os enc
  refine returnsInHanded_of_row (C := Tryz.checked) (s := OpenSpec.ofChange Rows.bookKeepsSpec) own started (by kernel_rfl) Tryz.func6
    (witness_row_atRef (enc := enc) (C := Tryz.checked) false (World.laidAll Tryz.prog os Rows.bookKeepsRow.laid) (#[.slice none 0 0] : Array Value) (World.laidAll_os _ _ _) (by kernel_rfl) (by kernel_rfl) (by kernel_rfl)
      (OpenSpec.preRow_of_cond 8 hx (by kernel_rfl) (fun k hk => by cases hk) (by kernel_rfl) (door_met os _))) ?_
  intro W base args ds gs before hval hW _ _ _ hL hsh _
  exact contract H enc W base args ds gs before hval hW hL hsh

set_option maxHeartbeats 16000000 in
theorem said : Rows.BookKeepsSaid :=
  OpenClaim.holds_of_cond 6 Tryz.f6 rfl rfl rfl rfl rfl rfl rfl ⟨rfl, rfl, rfl, rfl, rfl⟩ rfl rfl rfl rfl rfl (by as_aux_lemma => kernel_rfl) Tryz.func6
    (by unfold joinedFacts; simp only [Bool.and_eq_true]; repeat' apply And.intro
        all_goals (as_aux_lemma => kernel_rfl))
    (of_decide_eq_true (by as_aux_lemma => kernel_rfl)) (by as_aux_lemma => (unfold Func.isWrapper; first | (rw [if_pos (by decide +kernel)]; kernel_rfl) | (rw [if_neg (by decide +kernel)]; exact ⟨rfl, rfl⟩)))
    (fun os started H enc _ F => by rw [OpenClaim.pre_eq_preRow]; exact lifted os started H enc F)

/-- No parameter wants a stand-in; the looks are those of the translation. -/
theorem plain (f : FuncId) (fn : Func) (hf : Tryz.pinned.checked.prog.funcNamed "tithebarn/tithebarnlaw2.BookKeeps" = some f) (hfn : Tryz.pinned.checked.prog.funcs[f]? = some fn) :
    true = Tryz.pinned.checked.prog.looks [] ∧ ∀ (j : Nat) t, fn.params[j]? = some t → Tryz.pinned.checked.prog.wantsStandIn t = false := by
  obtain rfl : f = 6 := Option.some.inj ((show Tryz.prog.funcNamed "tithebarn/tithebarnlaw2.BookKeeps" = some 6 by kernel_rfl).symm.trans hf) |>.symm
  obtain rfl : fn = Tryz.f6 := (Option.some.inj (Tryz.func6.symm.trans hfn)).symm
  refine ⟨by kernel_rfl, fun j t ht => ?_⟩
  rw [Tryz.params6] at ht
  have hm : t ∈ ([22] : List TypeId) := by simpa using Array.mem_of_getElem? ht
  have hall : (([22] : List TypeId).all fun u => !Tryz.prog.wantsStandIn u) = true := by kernel_rfl
  exact (show Tryz.prog.wantsStandIn t = false by simpa using List.all_eq_true.1 hall t hm)

/-- The statement: the tied card. -/
theorem card : Rows.BookKeepsCardSaid :=
  Claim7.holds_tied_plain_at .later [] _ _ _ _ said (fun _ h => by cases h) (by kernel_rfl) (fun _ h => by cases h) bookKeeps_row_tie rfl ⟨rfl, rfl⟩ (by kernel_rfl) rfl plain (by kernel_rfl)
#print axioms card
end Go.Proofs.YtphgakobfegpcaaGreatDoor.bookKeeps
