/- The program's book: Same. -/
import Derived.Test.YteaalifehokgoaaGreatDoorM09
import Derived.Test.YteaalifehokgoaaGreatDoorM19
import Derived.Test.YteaalifehokgoaaGreatDoorM20
import Derived.Test.YteaalifehokgoaaGreatDoorM35
import Derived.Test.YteaalifehokgoaaGreatDoorM36
namespace Go.Proofs.YteaalifehokgoaaGreatDoor
open Go.RowKit Go.Sort Go.Proofs
theorem textStock_P (E : Nat → Addr) {q c : Nat} {m : StkV} (hI : StkI m) (w : World) (h : StkP w q c m) (hG : PlaceG E w) :
  Calls Tryz.prog 44 #[.pointer (some ⟨q, 0, none⟩)] w fun e w' => e = .returned (.string ⟨(textM m).toArray⟩) ∧ Below w.heap.size w w' := by
 obtain ⟨m', h1, h2⟩ := h
 have e : textM m = textM m' := by
  unfold textM
  rw [lines_permE (hI.perm h2.symm) h2]
 rw [e]
 exact textStock_any E q c m' w h1 (hI.perm h2.symm).well hG
theorem same_of {B C : BkV} (h : BkI B) (k : BkI C) : BkEq B C ↔ (∀ i, goodsF B i = goodsF C i) ∧ (∀ i, lotsF B i = lotsF C i) ∧ (∀ i, heldF B i = heldF C i) ∧ (∀ i, sumsF B i = sumsF C i) ∧ textM B.2.2 = textM C.2.2 :=
 ⟨BkEq.maps, fun ⟨h1, h2, h3, h4, h5⟩ => h.eq_of k h1 h2 h3 h4 h5⟩
def Tells (P : Program) (f : FuncId) (args : Array Value) (w : World) (S : Prop) : Prop := ∃ r : Bool, (r = true ↔ S) ∧ Calls P f args w fun e w' => e = .returned (.bool r) ∧ Below w.heap.size w w'
/-! Walks, printed by gen/bksame.py. -/
set_option maxHeartbeats 3200000 in
set_option maxRecDepth 100000 in
theorem same0 (E : Nat → Addr) {p p2 g l h s q c g2 l2 h2 s2 q2 c2 : Nat} {B C : BkV} {w : World} (hm : BookM w p g l h s q c B) (hm2 : BookM w p2 g2 l2 h2 s2 q2 c2 C) (_ : BkI B) (_ : BkI C) (_ : PlaceG E w) (n0 : ¬ ∀ i, goodsF B i = goodsF C i) :
  Calls Tryz.prog 11 #[.pointer (some ⟨p, 0, none⟩), .pointer (some ⟨p2, 0, none⟩)] w fun e w' => e = .returned (.bool false) ∧ Below w.heap.size w w' := by
 have HE0 := Lib.hid (fun W (hb : Below w.heap.size w W) => equalGoods_is (hm.goods.below hb) (hm2.goods.below hb) false ⟨fun h => Bool.noConfusion h, fun h => absurd h n0⟩)
 have HUP : Hid (∀ W : World, Below w.heap.size w W → W.cell? ⟨p, 0, none⟩ = some (.map (some g)) ∧ W.cell? ⟨p2, 0, none⟩ = some (.map (some g2))) := fun W hb => by
  obtain ⟨⟨x0, x1, x2, x3, x4⟩, -⟩ := (BookM.below hm hb).cells
  obtain ⟨⟨y0, y1, y2, y3, y4⟩, -⟩ := (BookM.below hm2 hb).cells
  exact ⟨x0, y0⟩
 have hd := (Below.refl w.heap.size w).drew
 clear hm hm2 n0
 go_enter Tryz.func11, Tryz.ntmps11
 go_wp2_with fail
 refine wp_region_held_drew (S := fun W => W.cell? ⟨p, 0, none⟩ = some (.map (some g)) ∧ W.cell? ⟨p2, 0, none⟩ = some (.map (some g2))) (by kernel_rfl) (HUP.out _ hd) (fun hHeld => ?_)
 refine wpAnyH_take (i := 0) (oi := _) (v := .pointer (some ⟨p, 0, none⟩)) rfl (by kernel_rfl) (by kernel_rfl) (by kernel_rfl) (fun _ _ _ h => h) (Or.inl ⟨by kernel_rfl, fun W hSw => ?_⟩) hHeld ?_
 ·dsimp only at hSw
  go_simp
 change wpAnyH _ _ _ _ _ _ _ (Act.put _ (some 14) _) _
 (try simp only [Act.put, List.setIfInBounds_toArray, List.set_cons_zero, List.set_cons_succ])
 refine wpAnyH_take (i := 1) (oi := _) (v := .pointer (some ⟨p, 0, none⟩)) rfl (by kernel_rfl) (by kernel_rfl) (by kernel_rfl) (fun _ _ _ h => h) (Or.inl ⟨by kernel_rfl, fun W hSw => ?_⟩) hHeld ?_
 ·dsimp only at hSw
  go_simp
 change wpAnyH _ _ _ _ _ _ _ (Act.put _ (some 15) _) _
 (try simp only [Act.put, List.setIfInBounds_toArray, List.set_cons_zero, List.set_cons_succ])
 refine wpAnyH_take (i := 2) (oi := _) (v := .pointer (some ⟨p, 0, none⟩)) rfl (by kernel_rfl) (by kernel_rfl) (by kernel_rfl) (fun _ _ _ h => h) (Or.inl ⟨by kernel_rfl, fun W hSw => ?_⟩) hHeld ?_
 ·dsimp only at hSw
  go_simp
 change wpAnyH _ _ _ _ _ _ _ (Act.put _ (some 16) _) _
 (try simp only [Act.put, List.setIfInBounds_toArray, List.set_cons_zero, List.set_cons_succ])
 refine wpAnyH_take (i := 3) (oi := _) (v := .map (some g)) rfl (by kernel_rfl) (by kernel_rfl) (by kernel_rfl) (fun _ _ _ h => h) (Or.inl ⟨by kernel_rfl, fun W hSw => ?_⟩) hHeld ?_
 ·dsimp only at hSw
  go_simp
 change wpAnyH _ _ _ _ _ _ _ (Act.put _ (some 17) _) _
 (try simp only [Act.put, List.setIfInBounds_toArray, List.set_cons_zero, List.set_cons_succ])
 refine wpAnyH_take (i := 4) (oi := _) (v := .pointer (some ⟨p2, 0, none⟩)) rfl (by kernel_rfl) (by kernel_rfl) (by kernel_rfl) (fun _ _ _ h => h) (Or.inl ⟨by kernel_rfl, fun W hSw => ?_⟩) hHeld ?_
 ·dsimp only at hSw
  go_simp
 change wpAnyH _ _ _ _ _ _ _ (Act.put _ (some 18) _) _
 (try simp only [Act.put, List.setIfInBounds_toArray, List.set_cons_zero, List.set_cons_succ])
 refine wpAnyH_take (i := 5) (oi := _) (v := .pointer (some ⟨p2, 0, none⟩)) rfl (by kernel_rfl) (by kernel_rfl) (by kernel_rfl) (fun _ _ _ h => h) (Or.inl ⟨by kernel_rfl, fun W hSw => ?_⟩) hHeld ?_
 ·dsimp only at hSw
  go_simp
 change wpAnyH _ _ _ _ _ _ _ (Act.put _ (some 19) _) _
 (try simp only [Act.put, List.setIfInBounds_toArray, List.set_cons_zero, List.set_cons_succ])
 refine wpAnyH_take (i := 6) (oi := _) (v := .pointer (some ⟨p2, 0, none⟩)) rfl (by kernel_rfl) (by kernel_rfl) (by kernel_rfl) (fun _ _ _ h => h) (Or.inl ⟨by kernel_rfl, fun W hSw => ?_⟩) hHeld ?_
 ·dsimp only at hSw
  go_simp
 change wpAnyH _ _ _ _ _ _ _ (Act.put _ (some 20) _) _
 (try simp only [Act.put, List.setIfInBounds_toArray, List.set_cons_zero, List.set_cons_succ])
 refine wpAnyH_take (i := 7) (oi := _) (v := .map (some g2)) rfl (by kernel_rfl) (by kernel_rfl) (by kernel_rfl) (fun _ _ _ h => h) (Or.inl ⟨by kernel_rfl, fun W hSw => ?_⟩) hHeld ?_
 ·dsimp only at hSw
  go_simp
 change wpAnyH _ _ _ _ _ _ _ (Act.put _ (some 21) _) _
 (try simp only [Act.put, List.setIfInBounds_toArray, List.set_cons_zero, List.set_cons_succ])
 refine wpAnyH_ready (rs := [8]) (by kernel_rfl) (by simp) (AllReadyH.cons (o := _) rfl (fun K hK => ?_) AllReadyH.nil)
 go_simp
 refine (HE0.out _ hd).mono ?_
 rintro e v1 ⟨rfl, bb1⟩
 have k1 := hd.trans (bb1.mono hd.size)
 clear hHeld
 go_wp2_with fail
 refine hK.out _ _ (HUP.out _ k1) (fun hHeld => ?_)
 clear hK K
 (try simp only [Act.put, List.setIfInBounds_toArray, List.set_cons_zero, List.set_cons_succ])
 refine wpAnyH_take (i := 9) (oi := _) (v := .bool false) rfl (by kernel_rfl) (by kernel_rfl) (by kernel_rfl) (fun _ _ _ h => h) (Or.inl ⟨by kernel_rfl, fun W hSw => ?_⟩) hHeld ?_
 ·dsimp only at hSw
  go_simp
 change wpAnyH _ _ _ _ _ _ _ (Act.put _ (some 23) _) _
 (try simp only [Act.put, List.setIfInBounds_toArray, List.set_cons_zero, List.set_cons_succ])
 refine wpAnyH_take (i := 10) (oi := _) (v := undef) rfl (by kernel_rfl) (by kernel_rfl) (by kernel_rfl) (fun _ _ _ h => h) (Or.inr ⟨by kernel_rfl, rfl⟩) hHeld ?_
 change wpAnyH _ _ _ _ _ _ _ (Act.put _ (some 24) _) _
 (try simp only [Act.put, List.setIfInBounds_toArray, List.set_cons_zero, List.set_cons_succ])
 refine wpAnyH_take (i := 11) (oi := _) (v := undef) rfl (by kernel_rfl) (by kernel_rfl) (by kernel_rfl) (fun _ _ _ h => h) (Or.inr ⟨by kernel_rfl, rfl⟩) hHeld ?_
 change wpAnyH _ _ _ _ _ _ _ (Act.put _ (some 25) _) _
 (try simp only [Act.put, List.setIfInBounds_toArray, List.set_cons_zero, List.set_cons_succ])
 refine wpAnyH_take (i := 12) (oi := _) (v := undef) rfl (by kernel_rfl) (by kernel_rfl) (by kernel_rfl) (fun _ _ _ h => h) (Or.inr ⟨by kernel_rfl, rfl⟩) hHeld ?_
 change wpAnyH _ _ _ _ _ _ _ (Act.put _ (some 26) _) _
 (try simp only [Act.put, List.setIfInBounds_toArray, List.set_cons_zero, List.set_cons_succ])
 refine wpAnyH_take (i := 13) (oi := _) (v := undef) rfl (by kernel_rfl) (by kernel_rfl) (by kernel_rfl) (fun _ _ _ h => h) (Or.inr ⟨by kernel_rfl, rfl⟩) hHeld ?_
 change wpAnyH _ _ _ _ _ _ _ (Act.put _ (some 27) _) _
 (try simp only [Act.put, List.setIfInBounds_toArray, List.set_cons_zero, List.set_cons_succ])
 refine wpAnyH_take (i := 14) (oi := _) (v := undef) rfl (by kernel_rfl) (by kernel_rfl) (by kernel_rfl) (fun _ _ _ h => h) (Or.inr ⟨by kernel_rfl, rfl⟩) hHeld ?_
 change wpAnyH _ _ _ _ _ _ _ (Act.put _ (some 28) _) _
 (try simp only [Act.put, List.setIfInBounds_toArray, List.set_cons_zero, List.set_cons_succ])
 refine wpAnyH_take (i := 15) (oi := _) (v := undef) rfl (by kernel_rfl) (by kernel_rfl) (by kernel_rfl) (fun _ _ _ h => h) (Or.inr ⟨by kernel_rfl, rfl⟩) hHeld ?_
 change wpAnyH _ _ _ _ _ _ _ (Act.put _ (some 29) _) _
 (try simp only [Act.put, List.setIfInBounds_toArray, List.set_cons_zero, List.set_cons_succ])
 refine wpAnyH_take (i := 16) (oi := _) (v := undef) rfl (by kernel_rfl) (by kernel_rfl) (by kernel_rfl) (fun _ _ _ h => h) (Or.inr ⟨by kernel_rfl, rfl⟩) hHeld ?_
 change wpAnyH _ _ _ _ _ _ _ (Act.put _ (some 30) _) _
 (try simp only [Act.put, List.setIfInBounds_toArray, List.set_cons_zero, List.set_cons_succ])
 refine wpAnyH_take (i := 17) (oi := _) (v := undef) rfl (by kernel_rfl) (by kernel_rfl) (by kernel_rfl) (fun _ _ _ h => h) (Or.inr ⟨by kernel_rfl, rfl⟩) hHeld ?_
 change wpAnyH _ _ _ _ _ _ _ (Act.put _ (some 31) _) _
 (try simp only [Act.put, List.setIfInBounds_toArray, List.set_cons_zero, List.set_cons_succ])
 refine wpAnyH_take (i := 18) (oi := _) (v := undef) rfl (by kernel_rfl) (by kernel_rfl) (by kernel_rfl) (fun _ _ _ h => h) (Or.inr ⟨by kernel_rfl, rfl⟩) hHeld ?_
 change wpAnyH _ _ _ _ _ _ _ (Act.put _ (some 32) _) _
 (try simp only [Act.put, List.setIfInBounds_toArray, List.set_cons_zero, List.set_cons_succ])
 refine wpAnyH_take (i := 19) (oi := _) (v := .bool false) rfl (by kernel_rfl) (by kernel_rfl) (by kernel_rfl) (fun _ _ _ h => h) (Or.inl ⟨by kernel_rfl, fun W hSw => ?_⟩) hHeld ?_
 ·dsimp only at hSw
  go_simp
 change wpAnyH _ _ _ _ _ _ _ (Act.put _ (some 33) _) _
 (try simp only [Act.put, List.setIfInBounds_toArray, List.set_cons_zero, List.set_cons_succ])
 refine wpAnyH_take (i := 20) (oi := _) (v := .bool false) rfl (by kernel_rfl) (by kernel_rfl) (by kernel_rfl) (fun _ _ _ h => h) (Or.inl ⟨by kernel_rfl, fun W hSw => ?_⟩) hHeld ?_
 ·dsimp only at hSw
  go_simp
 change wpAnyH _ _ _ _ _ _ _ (Act.put _ (some 34) _) _
 (try simp only [Act.put, List.setIfInBounds_toArray, List.set_cons_zero, List.set_cons_succ])
 refine wpAnyH_take (i := 21) (oi := _) (v := undef) rfl (by kernel_rfl) (by kernel_rfl) (by kernel_rfl) (fun _ _ _ h => h) (Or.inr ⟨by kernel_rfl, rfl⟩) hHeld ?_
 change wpAnyH _ _ _ _ _ _ _ (Act.put _ (some 35) _) _
 (try simp only [Act.put, List.setIfInBounds_toArray, List.set_cons_zero, List.set_cons_succ])
 refine wpAnyH_take (i := 22) (oi := _) (v := undef) rfl (by kernel_rfl) (by kernel_rfl) (by kernel_rfl) (fun _ _ _ h => h) (Or.inr ⟨by kernel_rfl, rfl⟩) hHeld ?_
 change wpAnyH _ _ _ _ _ _ _ (Act.put _ (some 36) _) _
 (try simp only [Act.put, List.setIfInBounds_toArray, List.set_cons_zero, List.set_cons_succ])
 refine wpAnyH_take (i := 23) (oi := _) (v := undef) rfl (by kernel_rfl) (by kernel_rfl) (by kernel_rfl) (fun _ _ _ h => h) (Or.inr ⟨by kernel_rfl, rfl⟩) hHeld ?_
 change wpAnyH _ _ _ _ _ _ _ (Act.put _ (some 37) _) _
 (try simp only [Act.put, List.setIfInBounds_toArray, List.set_cons_zero, List.set_cons_succ])
 refine wpAnyH_take (i := 24) (oi := _) (v := undef) rfl (by kernel_rfl) (by kernel_rfl) (by kernel_rfl) (fun _ _ _ h => h) (Or.inr ⟨by kernel_rfl, rfl⟩) hHeld ?_
 change wpAnyH _ _ _ _ _ _ _ (Act.put _ (some 38) _) _
 (try simp only [Act.put, List.setIfInBounds_toArray, List.set_cons_zero, List.set_cons_succ])
 refine wpAnyH_take (i := 25) (oi := _) (v := undef) rfl (by kernel_rfl) (by kernel_rfl) (by kernel_rfl) (fun _ _ _ h => h) (Or.inr ⟨by kernel_rfl, rfl⟩) hHeld ?_
 change wpAnyH _ _ _ _ _ _ _ (Act.put _ (some 39) _) _
 (try simp only [Act.put, List.setIfInBounds_toArray, List.set_cons_zero, List.set_cons_succ])
 refine wpAnyH_take (i := 26) (oi := _) (v := undef) rfl (by kernel_rfl) (by kernel_rfl) (by kernel_rfl) (fun _ _ _ h => h) (Or.inr ⟨by kernel_rfl, rfl⟩) hHeld ?_
 change wpAnyH _ _ _ _ _ _ _ (Act.put _ (some 40) _) _
 (try simp only [Act.put, List.setIfInBounds_toArray, List.set_cons_zero, List.set_cons_succ])
 refine wpAnyH_take (i := 27) (oi := _) (v := undef) rfl (by kernel_rfl) (by kernel_rfl) (by kernel_rfl) (fun _ _ _ h => h) (Or.inr ⟨by kernel_rfl, rfl⟩) hHeld ?_
 change wpAnyH _ _ _ _ _ _ _ (Act.put _ (some 41) _) _
 (try simp only [Act.put, List.setIfInBounds_toArray, List.set_cons_zero, List.set_cons_succ])
 refine wpAnyH_take (i := 28) (oi := _) (v := undef) rfl (by kernel_rfl) (by kernel_rfl) (by kernel_rfl) (fun _ _ _ h => h) (Or.inr ⟨by kernel_rfl, rfl⟩) hHeld ?_
 change wpAnyH _ _ _ _ _ _ _ (Act.put _ (some 42) _) _
 (try simp only [Act.put, List.setIfInBounds_toArray, List.set_cons_zero, List.set_cons_succ])
 refine wpAnyH_take (i := 29) (oi := _) (v := undef) rfl (by kernel_rfl) (by kernel_rfl) (by kernel_rfl) (fun _ _ _ h => h) (Or.inr ⟨by kernel_rfl, rfl⟩) hHeld ?_
 change wpAnyH _ _ _ _ _ _ _ (Act.put _ (some 43) _) _
 (try simp only [Act.put, List.setIfInBounds_toArray, List.set_cons_zero, List.set_cons_succ])
 refine wpAnyH_take (i := 30) (oi := _) (v := .bool false) rfl (by kernel_rfl) (by kernel_rfl) (by kernel_rfl) (fun _ _ _ h => h) (Or.inl ⟨by kernel_rfl, fun W hSw => ?_⟩) hHeld ?_
 ·dsimp only at hSw
  go_simp
 change wpAnyH _ _ _ _ _ _ _ (Act.put _ (some 44) _) _
 (try simp only [Act.put, List.setIfInBounds_toArray, List.set_cons_zero, List.set_cons_succ])
 refine wpAnyH_take (i := 31) (oi := _) (v := .bool false) rfl (by kernel_rfl) (by kernel_rfl) (by kernel_rfl) (fun _ _ _ h => h) (Or.inl ⟨by kernel_rfl, fun W hSw => ?_⟩) hHeld ?_
 ·dsimp only at hSw
  go_simp
 change wpAnyH _ _ _ _ _ _ _ (Act.put _ (some 45) _) _
 (try simp only [Act.put, List.setIfInBounds_toArray, List.set_cons_zero, List.set_cons_succ])
 refine wpAnyH_take (i := 32) (oi := _) (v := undef) rfl (by kernel_rfl) (by kernel_rfl) (by kernel_rfl) (fun _ _ _ h => h) (Or.inr ⟨by kernel_rfl, rfl⟩) hHeld ?_
 change wpAnyH _ _ _ _ _ _ _ (Act.put _ (some 46) _) _
 (try simp only [Act.put, List.setIfInBounds_toArray, List.set_cons_zero, List.set_cons_succ])
 refine wpAnyH_take (i := 33) (oi := _) (v := undef) rfl (by kernel_rfl) (by kernel_rfl) (by kernel_rfl) (fun _ _ _ h => h) (Or.inr ⟨by kernel_rfl, rfl⟩) hHeld ?_
 change wpAnyH _ _ _ _ _ _ _ (Act.put _ (some 47) _) _
 (try simp only [Act.put, List.setIfInBounds_toArray, List.set_cons_zero, List.set_cons_succ])
 refine wpAnyH_take (i := 34) (oi := _) (v := undef) rfl (by kernel_rfl) (by kernel_rfl) (by kernel_rfl) (fun _ _ _ h => h) (Or.inr ⟨by kernel_rfl, rfl⟩) hHeld ?_
 change wpAnyH _ _ _ _ _ _ _ (Act.put _ (some 48) _) _
 (try simp only [Act.put, List.setIfInBounds_toArray, List.set_cons_zero, List.set_cons_succ])
 refine wpAnyH_take (i := 35) (oi := _) (v := undef) rfl (by kernel_rfl) (by kernel_rfl) (by kernel_rfl) (fun _ _ _ h => h) (Or.inr ⟨by kernel_rfl, rfl⟩) hHeld ?_
 change wpAnyH _ _ _ _ _ _ _ (Act.put _ (some 49) _) _
 (try simp only [Act.put, List.setIfInBounds_toArray, List.set_cons_zero, List.set_cons_succ])
 refine wpAnyH_take (i := 36) (oi := _) (v := undef) rfl (by kernel_rfl) (by kernel_rfl) (by kernel_rfl) (fun _ _ _ h => h) (Or.inr ⟨by kernel_rfl, rfl⟩) hHeld ?_
 change wpAnyH _ _ _ _ _ _ _ (Act.put _ (some 50) _) _
 (try simp only [Act.put, List.setIfInBounds_toArray, List.set_cons_zero, List.set_cons_succ])
 refine wpAnyH_take (i := 37) (oi := _) (v := undef) rfl (by kernel_rfl) (by kernel_rfl) (by kernel_rfl) (fun _ _ _ h => h) (Or.inr ⟨by kernel_rfl, rfl⟩) hHeld ?_
 change wpAnyH _ _ _ _ _ _ _ (Act.put _ (some 51) _) _
 (try simp only [Act.put, List.setIfInBounds_toArray, List.set_cons_zero, List.set_cons_succ])
 refine wpAnyH_take (i := 38) (oi := _) (v := undef) rfl (by kernel_rfl) (by kernel_rfl) (by kernel_rfl) (fun _ _ _ h => h) (Or.inr ⟨by kernel_rfl, rfl⟩) hHeld ?_
 change wpAnyH _ _ _ _ _ _ _ (Act.put _ (some 52) _) _
 (try simp only [Act.put, List.setIfInBounds_toArray, List.set_cons_zero, List.set_cons_succ])
 refine wpAnyH_take (i := 39) (oi := _) (v := undef) rfl (by kernel_rfl) (by kernel_rfl) (by kernel_rfl) (fun _ _ _ h => h) (Or.inr ⟨by kernel_rfl, rfl⟩) hHeld ?_
 change wpAnyH _ _ _ _ _ _ _ (Act.put _ (some 53) _) _
 (try simp only [Act.put, List.setIfInBounds_toArray, List.set_cons_zero, List.set_cons_succ])
 refine wpAnyH_take (i := 40) (oi := _) (v := undef) rfl (by kernel_rfl) (by kernel_rfl) (by kernel_rfl) (fun _ _ _ h => h) (Or.inr ⟨by kernel_rfl, rfl⟩) hHeld ?_
 change wpAnyH _ _ _ _ _ _ _ (Act.put _ (some 54) _) _
 (try simp only [Act.put, List.setIfInBounds_toArray, List.set_cons_zero, List.set_cons_succ])
 refine wpAnyH_take (i := 41) (oi := _) (v := .bool false) rfl (by kernel_rfl) (by kernel_rfl) (by kernel_rfl) (fun _ _ _ h => h) (Or.inl ⟨by kernel_rfl, fun W hSw => ?_⟩) hHeld ?_
 ·dsimp only at hSw
  go_simp
 change wpAnyH _ _ _ _ _ _ _ (Act.put _ (some 55) _) _
 (try simp only [Act.put, List.setIfInBounds_toArray, List.set_cons_zero, List.set_cons_succ])
 refine wpAnyH_take (i := 42) (oi := _) (v := .bool false) rfl (by kernel_rfl) (by kernel_rfl) (by kernel_rfl) (fun _ _ _ h => h) (Or.inl ⟨by kernel_rfl, fun W hSw => ?_⟩) hHeld ?_
 ·dsimp only at hSw
  go_simp
 change wpAnyH _ _ _ _ _ _ _ (Act.put _ (some 56) _) _
 (try simp only [Act.put, List.setIfInBounds_toArray, List.set_cons_zero, List.set_cons_succ])
 refine wpAnyH_take (i := 43) (oi := _) (v := undef) rfl (by kernel_rfl) (by kernel_rfl) (by kernel_rfl) (fun _ _ _ h => h) (Or.inr ⟨by kernel_rfl, rfl⟩) hHeld ?_
 change wpAnyH _ _ _ _ _ _ _ (Act.put _ (some 57) _) _
 (try simp only [Act.put, List.setIfInBounds_toArray, List.set_cons_zero, List.set_cons_succ])
 refine wpAnyH_take (i := 44) (oi := _) (v := undef) rfl (by kernel_rfl) (by kernel_rfl) (by kernel_rfl) (fun _ _ _ h => h) (Or.inr ⟨by kernel_rfl, rfl⟩) hHeld ?_
 change wpAnyH _ _ _ _ _ _ _ (Act.put _ (some 58) _) _
 (try simp only [Act.put, List.setIfInBounds_toArray, List.set_cons_zero, List.set_cons_succ])
 refine wpAnyH_take (i := 45) (oi := _) (v := undef) rfl (by kernel_rfl) (by kernel_rfl) (by kernel_rfl) (fun _ _ _ h => h) (Or.inr ⟨by kernel_rfl, rfl⟩) hHeld ?_
 change wpAnyH _ _ _ _ _ _ _ (Act.put _ (some 59) _) _
 (try simp only [Act.put, List.setIfInBounds_toArray, List.set_cons_zero, List.set_cons_succ])
 refine wpAnyH_take (i := 46) (oi := _) (v := undef) rfl (by kernel_rfl) (by kernel_rfl) (by kernel_rfl) (fun _ _ _ h => h) (Or.inr ⟨by kernel_rfl, rfl⟩) hHeld ?_
 change wpAnyH _ _ _ _ _ _ _ (Act.put _ (some 60) _) _
 (try simp only [Act.put, List.setIfInBounds_toArray, List.set_cons_zero, List.set_cons_succ])
 refine wpAnyH_take (i := 47) (oi := _) (v := undef) rfl (by kernel_rfl) (by kernel_rfl) (by kernel_rfl) (fun _ _ _ h => h) (Or.inr ⟨by kernel_rfl, rfl⟩) hHeld ?_
 change wpAnyH _ _ _ _ _ _ _ (Act.put _ (some 61) _) _
 (try simp only [Act.put, List.setIfInBounds_toArray, List.set_cons_zero, List.set_cons_succ])
 refine wpAnyH_take (i := 48) (oi := _) (v := undef) rfl (by kernel_rfl) (by kernel_rfl) (by kernel_rfl) (fun _ _ _ h => h) (Or.inr ⟨by kernel_rfl, rfl⟩) hHeld ?_
 change wpAnyH _ _ _ _ _ _ _ (Act.put _ (some 62) _) _
 (try simp only [Act.put, List.setIfInBounds_toArray, List.set_cons_zero, List.set_cons_succ])
 refine wpAnyH_take (i := 49) (oi := _) (v := undef) rfl (by kernel_rfl) (by kernel_rfl) (by kernel_rfl) (fun _ _ _ h => h) (Or.inr ⟨by kernel_rfl, rfl⟩) hHeld ?_
 change wpAnyH _ _ _ _ _ _ _ (Act.put _ (some 63) _) _
 (try simp only [Act.put, List.setIfInBounds_toArray, List.set_cons_zero, List.set_cons_succ])
 refine wpAnyH_take (i := 50) (oi := _) (v := undef) rfl (by kernel_rfl) (by kernel_rfl) (by kernel_rfl) (fun _ _ _ h => h) (Or.inr ⟨by kernel_rfl, rfl⟩) hHeld ?_
 change wpAnyH _ _ _ _ _ _ _ (Act.put _ (some 64) _) _
 (try simp only [Act.put, List.setIfInBounds_toArray, List.set_cons_zero, List.set_cons_succ])
 refine wpAnyH_take (i := 51) (oi := _) (v := undef) rfl (by kernel_rfl) (by kernel_rfl) (by kernel_rfl) (fun _ _ _ h => h) (Or.inr ⟨by kernel_rfl, rfl⟩) hHeld ?_
 change wpAnyH _ _ _ _ _ _ _ (Act.put _ (some 65) _) _
 (try simp only [Act.put, List.setIfInBounds_toArray, List.set_cons_zero, List.set_cons_succ])
 refine wpAnyH_take (i := 52) (oi := _) (v := undef) rfl (by kernel_rfl) (by kernel_rfl) (by kernel_rfl) (fun _ _ _ h => h) (Or.inr ⟨by kernel_rfl, rfl⟩) hHeld ?_
 change wpAnyH _ _ _ _ _ _ _ (Act.put _ (some 66) _) _
 (try simp only [Act.put, List.setIfInBounds_toArray, List.set_cons_zero, List.set_cons_succ])
 refine wpAnyH_take (i := 53) (oi := _) (v := undef) rfl (by kernel_rfl) (by kernel_rfl) (by kernel_rfl) (fun _ _ _ h => h) (Or.inr ⟨by kernel_rfl, rfl⟩) hHeld ?_
 change wpAnyH _ _ _ _ _ _ _ (Act.put _ (some 67) _) _
 (try simp only [Act.put, List.setIfInBounds_toArray, List.set_cons_zero, List.set_cons_succ])
 refine wpAnyH_take (i := 54) (oi := _) (v := .bool false) rfl (by kernel_rfl) (by kernel_rfl) (by kernel_rfl) (fun _ _ _ h => h) (Or.inl ⟨by kernel_rfl, fun W hSw => ?_⟩) hHeld ?_
 ·dsimp only at hSw
  go_simp
 change wpAnyH _ _ _ _ _ _ _ (Act.put _ (some 68) _) _
 (try simp only [Act.put, List.setIfInBounds_toArray, List.set_cons_zero, List.set_cons_succ])
 refine wpAnyH_take (i := 55) (oi := _) (v := .bool false) rfl (by kernel_rfl) (by kernel_rfl) (by kernel_rfl) (fun _ _ _ h => h) (Or.inl ⟨by kernel_rfl, fun W hSw => ?_⟩) hHeld ?_
 ·dsimp only at hSw
  go_simp
 change wpAnyH _ _ _ _ _ _ _ (Act.put _ (some 4) _) _
 (try simp only [Act.put, List.setIfInBounds_toArray, List.set_cons_zero, List.set_cons_succ])
 refine wpAnyH_done (by kernel_rfl) ?_ _
 all_goals
  have K := Lib.hid k1
  clear hd k1 bb1
  go_wp2_with fail
  go_ret
  exact ⟨rfl, K.out⟩
set_option maxHeartbeats 3200000 in
set_option maxRecDepth 100000 in
theorem same1 (E : Nat → Addr) {p p2 g l h s q c g2 l2 h2 s2 q2 c2 : Nat} {B C : BkV} {w : World} (hm : BookM w p g l h s q c B) (hm2 : BookM w p2 g2 l2 h2 s2 q2 c2 C) (_ : BkI B) (_ : BkI C) (_ : PlaceG E w) (e0 : ∀ i, goodsF B i = goodsF C i) (n1 : ¬ ∀ i, lotsF B i = lotsF C i) :
  Calls Tryz.prog 11 #[.pointer (some ⟨p, 0, none⟩), .pointer (some ⟨p2, 0, none⟩)] w fun e w' => e = .returned (.bool false) ∧ Below w.heap.size w w' := by
 have HE0 := Lib.hid (fun W (hb : Below w.heap.size w W) => equalGoods_is (hm.goods.below hb) (hm2.goods.below hb) true ⟨fun _ => e0, fun _ => rfl⟩)
 have HE1 := Lib.hid (fun W (hb : Below w.heap.size w W) => equalLot_is (hm.lots.below hb) (hm2.lots.below hb) false ⟨fun h => Bool.noConfusion h, fun h => absurd h n1⟩)
 have HUP : Hid (∀ W : World, Below w.heap.size w W → W.cell? ⟨p, 0, none⟩ = some (.map (some g)) ∧ W.cell? ⟨p, 1, none⟩ = some (.map (some l)) ∧ W.cell? ⟨p2, 0, none⟩ = some (.map (some g2)) ∧ W.cell? ⟨p2, 1, none⟩ = some (.map (some l2))) := fun W hb => by
  obtain ⟨⟨x0, x1, x2, x3, x4⟩, -⟩ := (BookM.below hm hb).cells
  obtain ⟨⟨y0, y1, y2, y3, y4⟩, -⟩ := (BookM.below hm2 hb).cells
  exact ⟨x0, x1, y0, y1⟩
 have hd := (Below.refl w.heap.size w).drew
 clear hm hm2 e0 n1
 go_enter Tryz.func11, Tryz.ntmps11
 go_wp2_with fail
 refine wp_region_held_drew (S := fun W => W.cell? ⟨p, 0, none⟩ = some (.map (some g)) ∧ W.cell? ⟨p, 1, none⟩ = some (.map (some l)) ∧ W.cell? ⟨p2, 0, none⟩ = some (.map (some g2)) ∧ W.cell? ⟨p2, 1, none⟩ = some (.map (some l2))) (by kernel_rfl) (HUP.out _ hd) (fun hHeld => ?_)
 refine wpAnyH_take (i := 0) (oi := _) (v := .pointer (some ⟨p, 0, none⟩)) rfl (by kernel_rfl) (by kernel_rfl) (by kernel_rfl) (fun _ _ _ h => h) (Or.inl ⟨by kernel_rfl, fun W hSw => ?_⟩) hHeld ?_
 ·dsimp only at hSw
  go_simp
 change wpAnyH _ _ _ _ _ _ _ (Act.put _ (some 14) _) _
 (try simp only [Act.put, List.setIfInBounds_toArray, List.set_cons_zero, List.set_cons_succ])
 refine wpAnyH_take (i := 1) (oi := _) (v := .pointer (some ⟨p, 0, none⟩)) rfl (by kernel_rfl) (by kernel_rfl) (by kernel_rfl) (fun _ _ _ h => h) (Or.inl ⟨by kernel_rfl, fun W hSw => ?_⟩) hHeld ?_
 ·dsimp only at hSw
  go_simp
 change wpAnyH _ _ _ _ _ _ _ (Act.put _ (some 15) _) _
 (try simp only [Act.put, List.setIfInBounds_toArray, List.set_cons_zero, List.set_cons_succ])
 refine wpAnyH_take (i := 2) (oi := _) (v := .pointer (some ⟨p, 0, none⟩)) rfl (by kernel_rfl) (by kernel_rfl) (by kernel_rfl) (fun _ _ _ h => h) (Or.inl ⟨by kernel_rfl, fun W hSw => ?_⟩) hHeld ?_
 ·dsimp only at hSw
  go_simp
 change wpAnyH _ _ _ _ _ _ _ (Act.put _ (some 16) _) _
 (try simp only [Act.put, List.setIfInBounds_toArray, List.set_cons_zero, List.set_cons_succ])
 refine wpAnyH_take (i := 3) (oi := _) (v := .map (some g)) rfl (by kernel_rfl) (by kernel_rfl) (by kernel_rfl) (fun _ _ _ h => h) (Or.inl ⟨by kernel_rfl, fun W hSw => ?_⟩) hHeld ?_
 ·dsimp only at hSw
  go_simp
 change wpAnyH _ _ _ _ _ _ _ (Act.put _ (some 17) _) _
 (try simp only [Act.put, List.setIfInBounds_toArray, List.set_cons_zero, List.set_cons_succ])
 refine wpAnyH_take (i := 4) (oi := _) (v := .pointer (some ⟨p2, 0, none⟩)) rfl (by kernel_rfl) (by kernel_rfl) (by kernel_rfl) (fun _ _ _ h => h) (Or.inl ⟨by kernel_rfl, fun W hSw => ?_⟩) hHeld ?_
 ·dsimp only at hSw
  go_simp
 change wpAnyH _ _ _ _ _ _ _ (Act.put _ (some 18) _) _
 (try simp only [Act.put, List.setIfInBounds_toArray, List.set_cons_zero, List.set_cons_succ])
 refine wpAnyH_take (i := 5) (oi := _) (v := .pointer (some ⟨p2, 0, none⟩)) rfl (by kernel_rfl) (by kernel_rfl) (by kernel_rfl) (fun _ _ _ h => h) (Or.inl ⟨by kernel_rfl, fun W hSw => ?_⟩) hHeld ?_
 ·dsimp only at hSw
  go_simp
 change wpAnyH _ _ _ _ _ _ _ (Act.put _ (some 19) _) _
 (try simp only [Act.put, List.setIfInBounds_toArray, List.set_cons_zero, List.set_cons_succ])
 refine wpAnyH_take (i := 6) (oi := _) (v := .pointer (some ⟨p2, 0, none⟩)) rfl (by kernel_rfl) (by kernel_rfl) (by kernel_rfl) (fun _ _ _ h => h) (Or.inl ⟨by kernel_rfl, fun W hSw => ?_⟩) hHeld ?_
 ·dsimp only at hSw
  go_simp
 change wpAnyH _ _ _ _ _ _ _ (Act.put _ (some 20) _) _
 (try simp only [Act.put, List.setIfInBounds_toArray, List.set_cons_zero, List.set_cons_succ])
 refine wpAnyH_take (i := 7) (oi := _) (v := .map (some g2)) rfl (by kernel_rfl) (by kernel_rfl) (by kernel_rfl) (fun _ _ _ h => h) (Or.inl ⟨by kernel_rfl, fun W hSw => ?_⟩) hHeld ?_
 ·dsimp only at hSw
  go_simp
 change wpAnyH _ _ _ _ _ _ _ (Act.put _ (some 21) _) _
 (try simp only [Act.put, List.setIfInBounds_toArray, List.set_cons_zero, List.set_cons_succ])
 refine wpAnyH_ready (rs := [8]) (by kernel_rfl) (by simp) (AllReadyH.cons (o := _) rfl (fun K hK => ?_) AllReadyH.nil)
 go_simp
 refine (HE0.out _ hd).mono ?_
 rintro e v1 ⟨rfl, bb1⟩
 have k1 := hd.trans (bb1.mono hd.size)
 clear hHeld
 go_wp2_with fail
 refine hK.out _ _ (HUP.out _ k1) (fun hHeld => ?_)
 clear hK K
 (try simp only [Act.put, List.setIfInBounds_toArray, List.set_cons_zero, List.set_cons_succ])
 refine wpAnyH_take (i := 9) (oi := _) (v := .bool true) rfl (by kernel_rfl) (by kernel_rfl) (by kernel_rfl) (fun _ _ _ h => h) (Or.inl ⟨by kernel_rfl, fun W hSw => ?_⟩) hHeld ?_
 ·dsimp only at hSw
  go_simp
 change wpAnyH _ _ _ _ _ _ _ (Act.put _ (some 23) _) _
 (try simp only [Act.put, List.setIfInBounds_toArray, List.set_cons_zero, List.set_cons_succ])
 refine wpAnyH_take (i := 10) (oi := _) (v := .pointer (some ⟨p, 0, none⟩)) rfl (by kernel_rfl) (by kernel_rfl) (by kernel_rfl) (fun _ _ _ h => h) (Or.inl ⟨by kernel_rfl, fun W hSw => ?_⟩) hHeld ?_
 ·dsimp only at hSw
  go_simp
 change wpAnyH _ _ _ _ _ _ _ (Act.put _ (some 24) _) _
 (try simp only [Act.put, List.setIfInBounds_toArray, List.set_cons_zero, List.set_cons_succ])
 refine wpAnyH_take (i := 11) (oi := _) (v := .pointer (some ⟨p, 0, none⟩)) rfl (by kernel_rfl) (by kernel_rfl) (by kernel_rfl) (fun _ _ _ h => h) (Or.inl ⟨by kernel_rfl, fun W hSw => ?_⟩) hHeld ?_
 ·dsimp only at hSw
  go_simp
 change wpAnyH _ _ _ _ _ _ _ (Act.put _ (some 25) _) _
 (try simp only [Act.put, List.setIfInBounds_toArray, List.set_cons_zero, List.set_cons_succ])
 refine wpAnyH_take (i := 12) (oi := _) (v := .pointer (some ⟨p, 1, none⟩)) rfl (by kernel_rfl) (by kernel_rfl) (by kernel_rfl) (fun _ _ _ h => h) (Or.inl ⟨by kernel_rfl, fun W hSw => ?_⟩) hHeld ?_
 ·dsimp only at hSw
  go_simp
 change wpAnyH _ _ _ _ _ _ _ (Act.put _ (some 26) _) _
 (try simp only [Act.put, List.setIfInBounds_toArray, List.set_cons_zero, List.set_cons_succ])
 refine wpAnyH_take (i := 13) (oi := _) (v := .map (some l)) rfl (by kernel_rfl) (by kernel_rfl) (by kernel_rfl) (fun _ _ _ h => h) (Or.inl ⟨by kernel_rfl, fun W hSw => ?_⟩) hHeld ?_
 ·dsimp only at hSw
  go_simp
 change wpAnyH _ _ _ _ _ _ _ (Act.put _ (some 27) _) _
 (try simp only [Act.put, List.setIfInBounds_toArray, List.set_cons_zero, List.set_cons_succ])
 refine wpAnyH_take (i := 14) (oi := _) (v := .pointer (some ⟨p2, 0, none⟩)) rfl (by kernel_rfl) (by kernel_rfl) (by kernel_rfl) (fun _ _ _ h => h) (Or.inl ⟨by kernel_rfl, fun W hSw => ?_⟩) hHeld ?_
 ·dsimp only at hSw
  go_simp
 change wpAnyH _ _ _ _ _ _ _ (Act.put _ (some 28) _) _
 (try simp only [Act.put, List.setIfInBounds_toArray, List.set_cons_zero, List.set_cons_succ])
 refine wpAnyH_take (i := 15) (oi := _) (v := .pointer (some ⟨p2, 0, none⟩)) rfl (by kernel_rfl) (by kernel_rfl) (by kernel_rfl) (fun _ _ _ h => h) (Or.inl ⟨by kernel_rfl, fun W hSw => ?_⟩) hHeld ?_
 ·dsimp only at hSw
  go_simp
 change wpAnyH _ _ _ _ _ _ _ (Act.put _ (some 29) _) _
 (try simp only [Act.put, List.setIfInBounds_toArray, List.set_cons_zero, List.set_cons_succ])
 refine wpAnyH_take (i := 16) (oi := _) (v := .pointer (some ⟨p2, 1, none⟩)) rfl (by kernel_rfl) (by kernel_rfl) (by kernel_rfl) (fun _ _ _ h => h) (Or.inl ⟨by kernel_rfl, fun W hSw => ?_⟩) hHeld ?_
 ·dsimp only at hSw
  go_simp
 change wpAnyH _ _ _ _ _ _ _ (Act.put _ (some 30) _) _
 (try simp only [Act.put, List.setIfInBounds_toArray, List.set_cons_zero, List.set_cons_succ])
 refine wpAnyH_take (i := 17) (oi := _) (v := .map (some l2)) rfl (by kernel_rfl) (by kernel_rfl) (by kernel_rfl) (fun _ _ _ h => h) (Or.inl ⟨by kernel_rfl, fun W hSw => ?_⟩) hHeld ?_
 ·dsimp only at hSw
  go_simp
 change wpAnyH _ _ _ _ _ _ _ (Act.put _ (some 31) _) _
 (try simp only [Act.put, List.setIfInBounds_toArray, List.set_cons_zero, List.set_cons_succ])
 refine wpAnyH_ready (rs := [18]) (by kernel_rfl) (by simp) (AllReadyH.cons (o := _) rfl (fun K hK => ?_) AllReadyH.nil)
 go_simp
 refine (HE1.out _ k1).mono ?_
 rintro e v2 ⟨rfl, bb2⟩
 have k2 := k1.trans (bb2.mono k1.size)
 clear hHeld
 go_wp2_with fail
 refine hK.out _ _ (HUP.out _ k2) (fun hHeld => ?_)
 clear hK K
 (try simp only [Act.put, List.setIfInBounds_toArray, List.set_cons_zero, List.set_cons_succ])
 refine wpAnyH_take (i := 19) (oi := _) (v := .bool false) rfl (by kernel_rfl) (by kernel_rfl) (by kernel_rfl) (fun _ _ _ h => h) (Or.inl ⟨by kernel_rfl, fun W hSw => ?_⟩) hHeld ?_
 ·dsimp only at hSw
  go_simp
 change wpAnyH _ _ _ _ _ _ _ (Act.put _ (some 33) _) _
 (try simp only [Act.put, List.setIfInBounds_toArray, List.set_cons_zero, List.set_cons_succ])
 refine wpAnyH_take (i := 20) (oi := _) (v := .bool false) rfl (by kernel_rfl) (by kernel_rfl) (by kernel_rfl) (fun _ _ _ h => h) (Or.inl ⟨by kernel_rfl, fun W hSw => ?_⟩) hHeld ?_
 ·dsimp only at hSw
  go_simp
 change wpAnyH _ _ _ _ _ _ _ (Act.put _ (some 34) _) _
 (try simp only [Act.put, List.setIfInBounds_toArray, List.set_cons_zero, List.set_cons_succ])
 refine wpAnyH_take (i := 21) (oi := _) (v := undef) rfl (by kernel_rfl) (by kernel_rfl) (by kernel_rfl) (fun _ _ _ h => h) (Or.inr ⟨by kernel_rfl, rfl⟩) hHeld ?_
 change wpAnyH _ _ _ _ _ _ _ (Act.put _ (some 35) _) _
 (try simp only [Act.put, List.setIfInBounds_toArray, List.set_cons_zero, List.set_cons_succ])
 refine wpAnyH_take (i := 22) (oi := _) (v := undef) rfl (by kernel_rfl) (by kernel_rfl) (by kernel_rfl) (fun _ _ _ h => h) (Or.inr ⟨by kernel_rfl, rfl⟩) hHeld ?_
 change wpAnyH _ _ _ _ _ _ _ (Act.put _ (some 36) _) _
 (try simp only [Act.put, List.setIfInBounds_toArray, List.set_cons_zero, List.set_cons_succ])
 refine wpAnyH_take (i := 23) (oi := _) (v := undef) rfl (by kernel_rfl) (by kernel_rfl) (by kernel_rfl) (fun _ _ _ h => h) (Or.inr ⟨by kernel_rfl, rfl⟩) hHeld ?_
 change wpAnyH _ _ _ _ _ _ _ (Act.put _ (some 37) _) _
 (try simp only [Act.put, List.setIfInBounds_toArray, List.set_cons_zero, List.set_cons_succ])
 refine wpAnyH_take (i := 24) (oi := _) (v := undef) rfl (by kernel_rfl) (by kernel_rfl) (by kernel_rfl) (fun _ _ _ h => h) (Or.inr ⟨by kernel_rfl, rfl⟩) hHeld ?_
 change wpAnyH _ _ _ _ _ _ _ (Act.put _ (some 38) _) _
 (try simp only [Act.put, List.setIfInBounds_toArray, List.set_cons_zero, List.set_cons_succ])
 refine wpAnyH_take (i := 25) (oi := _) (v := undef) rfl (by kernel_rfl) (by kernel_rfl) (by kernel_rfl) (fun _ _ _ h => h) (Or.inr ⟨by kernel_rfl, rfl⟩) hHeld ?_
 change wpAnyH _ _ _ _ _ _ _ (Act.put _ (some 39) _) _
 (try simp only [Act.put, List.setIfInBounds_toArray, List.set_cons_zero, List.set_cons_succ])
 refine wpAnyH_take (i := 26) (oi := _) (v := undef) rfl (by kernel_rfl) (by kernel_rfl) (by kernel_rfl) (fun _ _ _ h => h) (Or.inr ⟨by kernel_rfl, rfl⟩) hHeld ?_
 change wpAnyH _ _ _ _ _ _ _ (Act.put _ (some 40) _) _
 (try simp only [Act.put, List.setIfInBounds_toArray, List.set_cons_zero, List.set_cons_succ])
 refine wpAnyH_take (i := 27) (oi := _) (v := undef) rfl (by kernel_rfl) (by kernel_rfl) (by kernel_rfl) (fun _ _ _ h => h) (Or.inr ⟨by kernel_rfl, rfl⟩) hHeld ?_
 change wpAnyH _ _ _ _ _ _ _ (Act.put _ (some 41) _) _
 (try simp only [Act.put, List.setIfInBounds_toArray, List.set_cons_zero, List.set_cons_succ])
 refine wpAnyH_take (i := 28) (oi := _) (v := undef) rfl (by kernel_rfl) (by kernel_rfl) (by kernel_rfl) (fun _ _ _ h => h) (Or.inr ⟨by kernel_rfl, rfl⟩) hHeld ?_
 change wpAnyH _ _ _ _ _ _ _ (Act.put _ (some 42) _) _
 (try simp only [Act.put, List.setIfInBounds_toArray, List.set_cons_zero, List.set_cons_succ])
 refine wpAnyH_take (i := 29) (oi := _) (v := undef) rfl (by kernel_rfl) (by kernel_rfl) (by kernel_rfl) (fun _ _ _ h => h) (Or.inr ⟨by kernel_rfl, rfl⟩) hHeld ?_
 change wpAnyH _ _ _ _ _ _ _ (Act.put _ (some 43) _) _
 (try simp only [Act.put, List.setIfInBounds_toArray, List.set_cons_zero, List.set_cons_succ])
 refine wpAnyH_take (i := 30) (oi := _) (v := .bool false) rfl (by kernel_rfl) (by kernel_rfl) (by kernel_rfl) (fun _ _ _ h => h) (Or.inl ⟨by kernel_rfl, fun W hSw => ?_⟩) hHeld ?_
 ·dsimp only at hSw
  go_simp
 change wpAnyH _ _ _ _ _ _ _ (Act.put _ (some 44) _) _
 (try simp only [Act.put, List.setIfInBounds_toArray, List.set_cons_zero, List.set_cons_succ])
 refine wpAnyH_take (i := 31) (oi := _) (v := .bool false) rfl (by kernel_rfl) (by kernel_rfl) (by kernel_rfl) (fun _ _ _ h => h) (Or.inl ⟨by kernel_rfl, fun W hSw => ?_⟩) hHeld ?_
 ·dsimp only at hSw
  go_simp
 change wpAnyH _ _ _ _ _ _ _ (Act.put _ (some 45) _) _
 (try simp only [Act.put, List.setIfInBounds_toArray, List.set_cons_zero, List.set_cons_succ])
 refine wpAnyH_take (i := 32) (oi := _) (v := undef) rfl (by kernel_rfl) (by kernel_rfl) (by kernel_rfl) (fun _ _ _ h => h) (Or.inr ⟨by kernel_rfl, rfl⟩) hHeld ?_
 change wpAnyH _ _ _ _ _ _ _ (Act.put _ (some 46) _) _
 (try simp only [Act.put, List.setIfInBounds_toArray, List.set_cons_zero, List.set_cons_succ])
 refine wpAnyH_take (i := 33) (oi := _) (v := undef) rfl (by kernel_rfl) (by kernel_rfl) (by kernel_rfl) (fun _ _ _ h => h) (Or.inr ⟨by kernel_rfl, rfl⟩) hHeld ?_
 change wpAnyH _ _ _ _ _ _ _ (Act.put _ (some 47) _) _
 (try simp only [Act.put, List.setIfInBounds_toArray, List.set_cons_zero, List.set_cons_succ])
 refine wpAnyH_take (i := 34) (oi := _) (v := undef) rfl (by kernel_rfl) (by kernel_rfl) (by kernel_rfl) (fun _ _ _ h => h) (Or.inr ⟨by kernel_rfl, rfl⟩) hHeld ?_
 change wpAnyH _ _ _ _ _ _ _ (Act.put _ (some 48) _) _
 (try simp only [Act.put, List.setIfInBounds_toArray, List.set_cons_zero, List.set_cons_succ])
 refine wpAnyH_take (i := 35) (oi := _) (v := undef) rfl (by kernel_rfl) (by kernel_rfl) (by kernel_rfl) (fun _ _ _ h => h) (Or.inr ⟨by kernel_rfl, rfl⟩) hHeld ?_
 change wpAnyH _ _ _ _ _ _ _ (Act.put _ (some 49) _) _
 (try simp only [Act.put, List.setIfInBounds_toArray, List.set_cons_zero, List.set_cons_succ])
 refine wpAnyH_take (i := 36) (oi := _) (v := undef) rfl (by kernel_rfl) (by kernel_rfl) (by kernel_rfl) (fun _ _ _ h => h) (Or.inr ⟨by kernel_rfl, rfl⟩) hHeld ?_
 change wpAnyH _ _ _ _ _ _ _ (Act.put _ (some 50) _) _
 (try simp only [Act.put, List.setIfInBounds_toArray, List.set_cons_zero, List.set_cons_succ])
 refine wpAnyH_take (i := 37) (oi := _) (v := undef) rfl (by kernel_rfl) (by kernel_rfl) (by kernel_rfl) (fun _ _ _ h => h) (Or.inr ⟨by kernel_rfl, rfl⟩) hHeld ?_
 change wpAnyH _ _ _ _ _ _ _ (Act.put _ (some 51) _) _
 (try simp only [Act.put, List.setIfInBounds_toArray, List.set_cons_zero, List.set_cons_succ])
 refine wpAnyH_take (i := 38) (oi := _) (v := undef) rfl (by kernel_rfl) (by kernel_rfl) (by kernel_rfl) (fun _ _ _ h => h) (Or.inr ⟨by kernel_rfl, rfl⟩) hHeld ?_
 change wpAnyH _ _ _ _ _ _ _ (Act.put _ (some 52) _) _
 (try simp only [Act.put, List.setIfInBounds_toArray, List.set_cons_zero, List.set_cons_succ])
 refine wpAnyH_take (i := 39) (oi := _) (v := undef) rfl (by kernel_rfl) (by kernel_rfl) (by kernel_rfl) (fun _ _ _ h => h) (Or.inr ⟨by kernel_rfl, rfl⟩) hHeld ?_
 change wpAnyH _ _ _ _ _ _ _ (Act.put _ (some 53) _) _
 (try simp only [Act.put, List.setIfInBounds_toArray, List.set_cons_zero, List.set_cons_succ])
 refine wpAnyH_take (i := 40) (oi := _) (v := undef) rfl (by kernel_rfl) (by kernel_rfl) (by kernel_rfl) (fun _ _ _ h => h) (Or.inr ⟨by kernel_rfl, rfl⟩) hHeld ?_
 change wpAnyH _ _ _ _ _ _ _ (Act.put _ (some 54) _) _
 (try simp only [Act.put, List.setIfInBounds_toArray, List.set_cons_zero, List.set_cons_succ])
 refine wpAnyH_take (i := 41) (oi := _) (v := .bool false) rfl (by kernel_rfl) (by kernel_rfl) (by kernel_rfl) (fun _ _ _ h => h) (Or.inl ⟨by kernel_rfl, fun W hSw => ?_⟩) hHeld ?_
 ·dsimp only at hSw
  go_simp
 change wpAnyH _ _ _ _ _ _ _ (Act.put _ (some 55) _) _
 (try simp only [Act.put, List.setIfInBounds_toArray, List.set_cons_zero, List.set_cons_succ])
 refine wpAnyH_take (i := 42) (oi := _) (v := .bool false) rfl (by kernel_rfl) (by kernel_rfl) (by kernel_rfl) (fun _ _ _ h => h) (Or.inl ⟨by kernel_rfl, fun W hSw => ?_⟩) hHeld ?_
 ·dsimp only at hSw
  go_simp
 change wpAnyH _ _ _ _ _ _ _ (Act.put _ (some 56) _) _
 (try simp only [Act.put, List.setIfInBounds_toArray, List.set_cons_zero, List.set_cons_succ])
 refine wpAnyH_take (i := 43) (oi := _) (v := undef) rfl (by kernel_rfl) (by kernel_rfl) (by kernel_rfl) (fun _ _ _ h => h) (Or.inr ⟨by kernel_rfl, rfl⟩) hHeld ?_
 change wpAnyH _ _ _ _ _ _ _ (Act.put _ (some 57) _) _
 (try simp only [Act.put, List.setIfInBounds_toArray, List.set_cons_zero, List.set_cons_succ])
 refine wpAnyH_take (i := 44) (oi := _) (v := undef) rfl (by kernel_rfl) (by kernel_rfl) (by kernel_rfl) (fun _ _ _ h => h) (Or.inr ⟨by kernel_rfl, rfl⟩) hHeld ?_
 change wpAnyH _ _ _ _ _ _ _ (Act.put _ (some 58) _) _
 (try simp only [Act.put, List.setIfInBounds_toArray, List.set_cons_zero, List.set_cons_succ])
 refine wpAnyH_take (i := 45) (oi := _) (v := undef) rfl (by kernel_rfl) (by kernel_rfl) (by kernel_rfl) (fun _ _ _ h => h) (Or.inr ⟨by kernel_rfl, rfl⟩) hHeld ?_
 change wpAnyH _ _ _ _ _ _ _ (Act.put _ (some 59) _) _
 (try simp only [Act.put, List.setIfInBounds_toArray, List.set_cons_zero, List.set_cons_succ])
 refine wpAnyH_take (i := 46) (oi := _) (v := undef) rfl (by kernel_rfl) (by kernel_rfl) (by kernel_rfl) (fun _ _ _ h => h) (Or.inr ⟨by kernel_rfl, rfl⟩) hHeld ?_
 change wpAnyH _ _ _ _ _ _ _ (Act.put _ (some 60) _) _
 (try simp only [Act.put, List.setIfInBounds_toArray, List.set_cons_zero, List.set_cons_succ])
 refine wpAnyH_take (i := 47) (oi := _) (v := undef) rfl (by kernel_rfl) (by kernel_rfl) (by kernel_rfl) (fun _ _ _ h => h) (Or.inr ⟨by kernel_rfl, rfl⟩) hHeld ?_
 change wpAnyH _ _ _ _ _ _ _ (Act.put _ (some 61) _) _
 (try simp only [Act.put, List.setIfInBounds_toArray, List.set_cons_zero, List.set_cons_succ])
 refine wpAnyH_take (i := 48) (oi := _) (v := undef) rfl (by kernel_rfl) (by kernel_rfl) (by kernel_rfl) (fun _ _ _ h => h) (Or.inr ⟨by kernel_rfl, rfl⟩) hHeld ?_
 change wpAnyH _ _ _ _ _ _ _ (Act.put _ (some 62) _) _
 (try simp only [Act.put, List.setIfInBounds_toArray, List.set_cons_zero, List.set_cons_succ])
 refine wpAnyH_take (i := 49) (oi := _) (v := undef) rfl (by kernel_rfl) (by kernel_rfl) (by kernel_rfl) (fun _ _ _ h => h) (Or.inr ⟨by kernel_rfl, rfl⟩) hHeld ?_
 change wpAnyH _ _ _ _ _ _ _ (Act.put _ (some 63) _) _
 (try simp only [Act.put, List.setIfInBounds_toArray, List.set_cons_zero, List.set_cons_succ])
 refine wpAnyH_take (i := 50) (oi := _) (v := undef) rfl (by kernel_rfl) (by kernel_rfl) (by kernel_rfl) (fun _ _ _ h => h) (Or.inr ⟨by kernel_rfl, rfl⟩) hHeld ?_
 change wpAnyH _ _ _ _ _ _ _ (Act.put _ (some 64) _) _
 (try simp only [Act.put, List.setIfInBounds_toArray, List.set_cons_zero, List.set_cons_succ])
 refine wpAnyH_take (i := 51) (oi := _) (v := undef) rfl (by kernel_rfl) (by kernel_rfl) (by kernel_rfl) (fun _ _ _ h => h) (Or.inr ⟨by kernel_rfl, rfl⟩) hHeld ?_
 change wpAnyH _ _ _ _ _ _ _ (Act.put _ (some 65) _) _
 (try simp only [Act.put, List.setIfInBounds_toArray, List.set_cons_zero, List.set_cons_succ])
 refine wpAnyH_take (i := 52) (oi := _) (v := undef) rfl (by kernel_rfl) (by kernel_rfl) (by kernel_rfl) (fun _ _ _ h => h) (Or.inr ⟨by kernel_rfl, rfl⟩) hHeld ?_
 change wpAnyH _ _ _ _ _ _ _ (Act.put _ (some 66) _) _
 (try simp only [Act.put, List.setIfInBounds_toArray, List.set_cons_zero, List.set_cons_succ])
 refine wpAnyH_take (i := 53) (oi := _) (v := undef) rfl (by kernel_rfl) (by kernel_rfl) (by kernel_rfl) (fun _ _ _ h => h) (Or.inr ⟨by kernel_rfl, rfl⟩) hHeld ?_
 change wpAnyH _ _ _ _ _ _ _ (Act.put _ (some 67) _) _
 (try simp only [Act.put, List.setIfInBounds_toArray, List.set_cons_zero, List.set_cons_succ])
 refine wpAnyH_take (i := 54) (oi := _) (v := .bool false) rfl (by kernel_rfl) (by kernel_rfl) (by kernel_rfl) (fun _ _ _ h => h) (Or.inl ⟨by kernel_rfl, fun W hSw => ?_⟩) hHeld ?_
 ·dsimp only at hSw
  go_simp
 change wpAnyH _ _ _ _ _ _ _ (Act.put _ (some 68) _) _
 (try simp only [Act.put, List.setIfInBounds_toArray, List.set_cons_zero, List.set_cons_succ])
 refine wpAnyH_take (i := 55) (oi := _) (v := .bool false) rfl (by kernel_rfl) (by kernel_rfl) (by kernel_rfl) (fun _ _ _ h => h) (Or.inl ⟨by kernel_rfl, fun W hSw => ?_⟩) hHeld ?_
 ·dsimp only at hSw
  go_simp
 change wpAnyH _ _ _ _ _ _ _ (Act.put _ (some 4) _) _
 (try simp only [Act.put, List.setIfInBounds_toArray, List.set_cons_zero, List.set_cons_succ])
 refine wpAnyH_done (by kernel_rfl) ?_ _
 all_goals
  have K := Lib.hid k2
  clear hd k1 bb1 k2 bb2
  go_wp2_with fail
  go_ret
  exact ⟨rfl, K.out⟩
set_option maxHeartbeats 3200000 in
set_option maxRecDepth 100000 in
theorem same2 (E : Nat → Addr) {p p2 g l h s q c g2 l2 h2 s2 q2 c2 : Nat} {B C : BkV} {w : World} (hm : BookM w p g l h s q c B) (hm2 : BookM w p2 g2 l2 h2 s2 q2 c2 C) (_ : BkI B) (_ : BkI C) (_ : PlaceG E w) (e0 : ∀ i, goodsF B i = goodsF C i) (e1 : ∀ i, lotsF B i = lotsF C i) (n2 : ¬ ∀ i, heldF B i = heldF C i) :
  Calls Tryz.prog 11 #[.pointer (some ⟨p, 0, none⟩), .pointer (some ⟨p2, 0, none⟩)] w fun e w' => e = .returned (.bool false) ∧ Below w.heap.size w w' := by
 have HE0 := Lib.hid (fun W (hb : Below w.heap.size w W) => equalGoods_is (hm.goods.below hb) (hm2.goods.below hb) true ⟨fun _ => e0, fun _ => rfl⟩)
 have HE1 := Lib.hid (fun W (hb : Below w.heap.size w W) => equalLot_is (hm.lots.below hb) (hm2.lots.below hb) true ⟨fun _ => e1, fun _ => rfl⟩)
 have HE2 := Lib.hid (fun W (hb : Below w.heap.size w W) => equalInt_is (hm.held.below hb) (hm2.held.below hb) false ⟨fun h => Bool.noConfusion h, fun h => absurd h n2⟩)
 have HUP : Hid (∀ W : World, Below w.heap.size w W → W.cell? ⟨p, 0, none⟩ = some (.map (some g)) ∧ W.cell? ⟨p, 1, none⟩ = some (.map (some l)) ∧ W.cell? ⟨p, 2, none⟩ = some (.map (some h)) ∧ W.cell? ⟨p2, 0, none⟩ = some (.map (some g2)) ∧ W.cell? ⟨p2, 1, none⟩ = some (.map (some l2)) ∧ W.cell? ⟨p2, 2, none⟩ = some (.map (some h2))) := fun W hb => by
  obtain ⟨⟨x0, x1, x2, x3, x4⟩, -⟩ := (BookM.below hm hb).cells
  obtain ⟨⟨y0, y1, y2, y3, y4⟩, -⟩ := (BookM.below hm2 hb).cells
  exact ⟨x0, x1, x2, y0, y1, y2⟩
 have hd := (Below.refl w.heap.size w).drew
 clear hm hm2 e0 e1 n2
 go_enter Tryz.func11, Tryz.ntmps11
 go_wp2_with fail
 refine wp_region_held_drew (S := fun W => W.cell? ⟨p, 0, none⟩ = some (.map (some g)) ∧ W.cell? ⟨p, 1, none⟩ = some (.map (some l)) ∧ W.cell? ⟨p, 2, none⟩ = some (.map (some h)) ∧ W.cell? ⟨p2, 0, none⟩ = some (.map (some g2)) ∧ W.cell? ⟨p2, 1, none⟩ = some (.map (some l2)) ∧ W.cell? ⟨p2, 2, none⟩ = some (.map (some h2))) (by kernel_rfl) (HUP.out _ hd) (fun hHeld => ?_)
 refine wpAnyH_take (i := 0) (oi := _) (v := .pointer (some ⟨p, 0, none⟩)) rfl (by kernel_rfl) (by kernel_rfl) (by kernel_rfl) (fun _ _ _ h => h) (Or.inl ⟨by kernel_rfl, fun W hSw => ?_⟩) hHeld ?_
 ·dsimp only at hSw
  go_simp
 change wpAnyH _ _ _ _ _ _ _ (Act.put _ (some 14) _) _
 (try simp only [Act.put, List.setIfInBounds_toArray, List.set_cons_zero, List.set_cons_succ])
 refine wpAnyH_take (i := 1) (oi := _) (v := .pointer (some ⟨p, 0, none⟩)) rfl (by kernel_rfl) (by kernel_rfl) (by kernel_rfl) (fun _ _ _ h => h) (Or.inl ⟨by kernel_rfl, fun W hSw => ?_⟩) hHeld ?_
 ·dsimp only at hSw
  go_simp
 change wpAnyH _ _ _ _ _ _ _ (Act.put _ (some 15) _) _
 (try simp only [Act.put, List.setIfInBounds_toArray, List.set_cons_zero, List.set_cons_succ])
 refine wpAnyH_take (i := 2) (oi := _) (v := .pointer (some ⟨p, 0, none⟩)) rfl (by kernel_rfl) (by kernel_rfl) (by kernel_rfl) (fun _ _ _ h => h) (Or.inl ⟨by kernel_rfl, fun W hSw => ?_⟩) hHeld ?_
 ·dsimp only at hSw
  go_simp
 change wpAnyH _ _ _ _ _ _ _ (Act.put _ (some 16) _) _
 (try simp only [Act.put, List.setIfInBounds_toArray, List.set_cons_zero, List.set_cons_succ])
 refine wpAnyH_take (i := 3) (oi := _) (v := .map (some g)) rfl (by kernel_rfl) (by kernel_rfl) (by kernel_rfl) (fun _ _ _ h => h) (Or.inl ⟨by kernel_rfl, fun W hSw => ?_⟩) hHeld ?_
 ·dsimp only at hSw
  go_simp
 change wpAnyH _ _ _ _ _ _ _ (Act.put _ (some 17) _) _
 (try simp only [Act.put, List.setIfInBounds_toArray, List.set_cons_zero, List.set_cons_succ])
 refine wpAnyH_take (i := 4) (oi := _) (v := .pointer (some ⟨p2, 0, none⟩)) rfl (by kernel_rfl) (by kernel_rfl) (by kernel_rfl) (fun _ _ _ h => h) (Or.inl ⟨by kernel_rfl, fun W hSw => ?_⟩) hHeld ?_
 ·dsimp only at hSw
  go_simp
 change wpAnyH _ _ _ _ _ _ _ (Act.put _ (some 18) _) _
 (try simp only [Act.put, List.setIfInBounds_toArray, List.set_cons_zero, List.set_cons_succ])
 refine wpAnyH_take (i := 5) (oi := _) (v := .pointer (some ⟨p2, 0, none⟩)) rfl (by kernel_rfl) (by kernel_rfl) (by kernel_rfl) (fun _ _ _ h => h) (Or.inl ⟨by kernel_rfl, fun W hSw => ?_⟩) hHeld ?_
 ·dsimp only at hSw
  go_simp
 change wpAnyH _ _ _ _ _ _ _ (Act.put _ (some 19) _) _
 (try simp only [Act.put, List.setIfInBounds_toArray, List.set_cons_zero, List.set_cons_succ])
 refine wpAnyH_take (i := 6) (oi := _) (v := .pointer (some ⟨p2, 0, none⟩)) rfl (by kernel_rfl) (by kernel_rfl) (by kernel_rfl) (fun _ _ _ h => h) (Or.inl ⟨by kernel_rfl, fun W hSw => ?_⟩) hHeld ?_
 ·dsimp only at hSw
  go_simp
 change wpAnyH _ _ _ _ _ _ _ (Act.put _ (some 20) _) _
 (try simp only [Act.put, List.setIfInBounds_toArray, List.set_cons_zero, List.set_cons_succ])
 refine wpAnyH_take (i := 7) (oi := _) (v := .map (some g2)) rfl (by kernel_rfl) (by kernel_rfl) (by kernel_rfl) (fun _ _ _ h => h) (Or.inl ⟨by kernel_rfl, fun W hSw => ?_⟩) hHeld ?_
 ·dsimp only at hSw
  go_simp
 change wpAnyH _ _ _ _ _ _ _ (Act.put _ (some 21) _) _
 (try simp only [Act.put, List.setIfInBounds_toArray, List.set_cons_zero, List.set_cons_succ])
 refine wpAnyH_ready (rs := [8]) (by kernel_rfl) (by simp) (AllReadyH.cons (o := _) rfl (fun K hK => ?_) AllReadyH.nil)
 go_simp
 refine (HE0.out _ hd).mono ?_
 rintro e v1 ⟨rfl, bb1⟩
 have k1 := hd.trans (bb1.mono hd.size)
 clear hHeld
 go_wp2_with fail
 refine hK.out _ _ (HUP.out _ k1) (fun hHeld => ?_)
 clear hK K
 (try simp only [Act.put, List.setIfInBounds_toArray, List.set_cons_zero, List.set_cons_succ])
 refine wpAnyH_take (i := 9) (oi := _) (v := .bool true) rfl (by kernel_rfl) (by kernel_rfl) (by kernel_rfl) (fun _ _ _ h => h) (Or.inl ⟨by kernel_rfl, fun W hSw => ?_⟩) hHeld ?_
 ·dsimp only at hSw
  go_simp
 change wpAnyH _ _ _ _ _ _ _ (Act.put _ (some 23) _) _
 (try simp only [Act.put, List.setIfInBounds_toArray, List.set_cons_zero, List.set_cons_succ])
 refine wpAnyH_take (i := 10) (oi := _) (v := .pointer (some ⟨p, 0, none⟩)) rfl (by kernel_rfl) (by kernel_rfl) (by kernel_rfl) (fun _ _ _ h => h) (Or.inl ⟨by kernel_rfl, fun W hSw => ?_⟩) hHeld ?_
 ·dsimp only at hSw
  go_simp
 change wpAnyH _ _ _ _ _ _ _ (Act.put _ (some 24) _) _
 (try simp only [Act.put, List.setIfInBounds_toArray, List.set_cons_zero, List.set_cons_succ])
 refine wpAnyH_take (i := 11) (oi := _) (v := .pointer (some ⟨p, 0, none⟩)) rfl (by kernel_rfl) (by kernel_rfl) (by kernel_rfl) (fun _ _ _ h => h) (Or.inl ⟨by kernel_rfl, fun W hSw => ?_⟩) hHeld ?_
 ·dsimp only at hSw
  go_simp
 change wpAnyH _ _ _ _ _ _ _ (Act.put _ (some 25) _) _
 (try simp only [Act.put, List.setIfInBounds_toArray, List.set_cons_zero, List.set_cons_succ])
 refine wpAnyH_take (i := 12) (oi := _) (v := .pointer (some ⟨p, 1, none⟩)) rfl (by kernel_rfl) (by kernel_rfl) (by kernel_rfl) (fun _ _ _ h => h) (Or.inl ⟨by kernel_rfl, fun W hSw => ?_⟩) hHeld ?_
 ·dsimp only at hSw
  go_simp
 change wpAnyH _ _ _ _ _ _ _ (Act.put _ (some 26) _) _
 (try simp only [Act.put, List.setIfInBounds_toArray, List.set_cons_zero, List.set_cons_succ])
 refine wpAnyH_take (i := 13) (oi := _) (v := .map (some l)) rfl (by kernel_rfl) (by kernel_rfl) (by kernel_rfl) (fun _ _ _ h => h) (Or.inl ⟨by kernel_rfl, fun W hSw => ?_⟩) hHeld ?_
 ·dsimp only at hSw
  go_simp
 change wpAnyH _ _ _ _ _ _ _ (Act.put _ (some 27) _) _
 (try simp only [Act.put, List.setIfInBounds_toArray, List.set_cons_zero, List.set_cons_succ])
 refine wpAnyH_take (i := 14) (oi := _) (v := .pointer (some ⟨p2, 0, none⟩)) rfl (by kernel_rfl) (by kernel_rfl) (by kernel_rfl) (fun _ _ _ h => h) (Or.inl ⟨by kernel_rfl, fun W hSw => ?_⟩) hHeld ?_
 ·dsimp only at hSw
  go_simp
 change wpAnyH _ _ _ _ _ _ _ (Act.put _ (some 28) _) _
 (try simp only [Act.put, List.setIfInBounds_toArray, List.set_cons_zero, List.set_cons_succ])
 refine wpAnyH_take (i := 15) (oi := _) (v := .pointer (some ⟨p2, 0, none⟩)) rfl (by kernel_rfl) (by kernel_rfl) (by kernel_rfl) (fun _ _ _ h => h) (Or.inl ⟨by kernel_rfl, fun W hSw => ?_⟩) hHeld ?_
 ·dsimp only at hSw
  go_simp
 change wpAnyH _ _ _ _ _ _ _ (Act.put _ (some 29) _) _
 (try simp only [Act.put, List.setIfInBounds_toArray, List.set_cons_zero, List.set_cons_succ])
 refine wpAnyH_take (i := 16) (oi := _) (v := .pointer (some ⟨p2, 1, none⟩)) rfl (by kernel_rfl) (by kernel_rfl) (by kernel_rfl) (fun _ _ _ h => h) (Or.inl ⟨by kernel_rfl, fun W hSw => ?_⟩) hHeld ?_
 ·dsimp only at hSw
  go_simp
 change wpAnyH _ _ _ _ _ _ _ (Act.put _ (some 30) _) _
 (try simp only [Act.put, List.setIfInBounds_toArray, List.set_cons_zero, List.set_cons_succ])
 refine wpAnyH_take (i := 17) (oi := _) (v := .map (some l2)) rfl (by kernel_rfl) (by kernel_rfl) (by kernel_rfl) (fun _ _ _ h => h) (Or.inl ⟨by kernel_rfl, fun W hSw => ?_⟩) hHeld ?_
 ·dsimp only at hSw
  go_simp
 change wpAnyH _ _ _ _ _ _ _ (Act.put _ (some 31) _) _
 (try simp only [Act.put, List.setIfInBounds_toArray, List.set_cons_zero, List.set_cons_succ])
 refine wpAnyH_ready (rs := [18]) (by kernel_rfl) (by simp) (AllReadyH.cons (o := _) rfl (fun K hK => ?_) AllReadyH.nil)
 go_simp
 refine (HE1.out _ k1).mono ?_
 rintro e v2 ⟨rfl, bb2⟩
 have k2 := k1.trans (bb2.mono k1.size)
 clear hHeld
 go_wp2_with fail
 refine hK.out _ _ (HUP.out _ k2) (fun hHeld => ?_)
 clear hK K
 (try simp only [Act.put, List.setIfInBounds_toArray, List.set_cons_zero, List.set_cons_succ])
 refine wpAnyH_take (i := 19) (oi := _) (v := .bool true) rfl (by kernel_rfl) (by kernel_rfl) (by kernel_rfl) (fun _ _ _ h => h) (Or.inl ⟨by kernel_rfl, fun W hSw => ?_⟩) hHeld ?_
 ·dsimp only at hSw
  go_simp
 change wpAnyH _ _ _ _ _ _ _ (Act.put _ (some 33) _) _
 (try simp only [Act.put, List.setIfInBounds_toArray, List.set_cons_zero, List.set_cons_succ])
 refine wpAnyH_take (i := 20) (oi := _) (v := .bool true) rfl (by kernel_rfl) (by kernel_rfl) (by kernel_rfl) (fun _ _ _ h => h) (Or.inl ⟨by kernel_rfl, fun W hSw => ?_⟩) hHeld ?_
 ·dsimp only at hSw
  go_simp
 change wpAnyH _ _ _ _ _ _ _ (Act.put _ (some 34) _) _
 (try simp only [Act.put, List.setIfInBounds_toArray, List.set_cons_zero, List.set_cons_succ])
 refine wpAnyH_take (i := 21) (oi := _) (v := .pointer (some ⟨p, 0, none⟩)) rfl (by kernel_rfl) (by kernel_rfl) (by kernel_rfl) (fun _ _ _ h => h) (Or.inl ⟨by kernel_rfl, fun W hSw => ?_⟩) hHeld ?_
 ·dsimp only at hSw
  go_simp
 change wpAnyH _ _ _ _ _ _ _ (Act.put _ (some 35) _) _
 (try simp only [Act.put, List.setIfInBounds_toArray, List.set_cons_zero, List.set_cons_succ])
 refine wpAnyH_take (i := 22) (oi := _) (v := .pointer (some ⟨p, 0, none⟩)) rfl (by kernel_rfl) (by kernel_rfl) (by kernel_rfl) (fun _ _ _ h => h) (Or.inl ⟨by kernel_rfl, fun W hSw => ?_⟩) hHeld ?_
 ·dsimp only at hSw
  go_simp
 change wpAnyH _ _ _ _ _ _ _ (Act.put _ (some 36) _) _
 (try simp only [Act.put, List.setIfInBounds_toArray, List.set_cons_zero, List.set_cons_succ])
 refine wpAnyH_take (i := 23) (oi := _) (v := .pointer (some ⟨p, 2, none⟩)) rfl (by kernel_rfl) (by kernel_rfl) (by kernel_rfl) (fun _ _ _ h => h) (Or.inl ⟨by kernel_rfl, fun W hSw => ?_⟩) hHeld ?_
 ·dsimp only at hSw
  go_simp
 change wpAnyH _ _ _ _ _ _ _ (Act.put _ (some 37) _) _
 (try simp only [Act.put, List.setIfInBounds_toArray, List.set_cons_zero, List.set_cons_succ])
 refine wpAnyH_take (i := 24) (oi := _) (v := .map (some h)) rfl (by kernel_rfl) (by kernel_rfl) (by kernel_rfl) (fun _ _ _ h => h) (Or.inl ⟨by kernel_rfl, fun W hSw => ?_⟩) hHeld ?_
 ·dsimp only at hSw
  go_simp
 change wpAnyH _ _ _ _ _ _ _ (Act.put _ (some 38) _) _
 (try simp only [Act.put, List.setIfInBounds_toArray, List.set_cons_zero, List.set_cons_succ])
 refine wpAnyH_take (i := 25) (oi := _) (v := .pointer (some ⟨p2, 0, none⟩)) rfl (by kernel_rfl) (by kernel_rfl) (by kernel_rfl) (fun _ _ _ h => h) (Or.inl ⟨by kernel_rfl, fun W hSw => ?_⟩) hHeld ?_
 ·dsimp only at hSw
  go_simp
 change wpAnyH _ _ _ _ _ _ _ (Act.put _ (some 39) _) _
 (try simp only [Act.put, List.setIfInBounds_toArray, List.set_cons_zero, List.set_cons_succ])
 refine wpAnyH_take (i := 26) (oi := _) (v := .pointer (some ⟨p2, 0, none⟩)) rfl (by kernel_rfl) (by kernel_rfl) (by kernel_rfl) (fun _ _ _ h => h) (Or.inl ⟨by kernel_rfl, fun W hSw => ?_⟩) hHeld ?_
 ·dsimp only at hSw
  go_simp
 change wpAnyH _ _ _ _ _ _ _ (Act.put _ (some 40) _) _
 (try simp only [Act.put, List.setIfInBounds_toArray, List.set_cons_zero, List.set_cons_succ])
 refine wpAnyH_take (i := 27) (oi := _) (v := .pointer (some ⟨p2, 2, none⟩)) rfl (by kernel_rfl) (by kernel_rfl) (by kernel_rfl) (fun _ _ _ h => h) (Or.inl ⟨by kernel_rfl, fun W hSw => ?_⟩) hHeld ?_
 ·dsimp only at hSw
  go_simp
 change wpAnyH _ _ _ _ _ _ _ (Act.put _ (some 41) _) _
 (try simp only [Act.put, List.setIfInBounds_toArray, List.set_cons_zero, List.set_cons_succ])
 refine wpAnyH_take (i := 28) (oi := _) (v := .map (some h2)) rfl (by kernel_rfl) (by kernel_rfl) (by kernel_rfl) (fun _ _ _ h => h) (Or.inl ⟨by kernel_rfl, fun W hSw => ?_⟩) hHeld ?_
 ·dsimp only at hSw
  go_simp
 change wpAnyH _ _ _ _ _ _ _ (Act.put _ (some 42) _) _
 (try simp only [Act.put, List.setIfInBounds_toArray, List.set_cons_zero, List.set_cons_succ])
 refine wpAnyH_ready (rs := [29]) (by kernel_rfl) (by simp) (AllReadyH.cons (o := _) rfl (fun K hK => ?_) AllReadyH.nil)
 go_simp
 refine (HE2.out _ k2).mono ?_
 rintro e v3 ⟨rfl, bb3⟩
 have k3 := k2.trans (bb3.mono k2.size)
 clear hHeld
 go_wp2_with fail
 refine hK.out _ _ (HUP.out _ k3) (fun hHeld => ?_)
 clear hK K
 (try simp only [Act.put, List.setIfInBounds_toArray, List.set_cons_zero, List.set_cons_succ])
 refine wpAnyH_take (i := 30) (oi := _) (v := .bool false) rfl (by kernel_rfl) (by kernel_rfl) (by kernel_rfl) (fun _ _ _ h => h) (Or.inl ⟨by kernel_rfl, fun W hSw => ?_⟩) hHeld ?_
 ·dsimp only at hSw
  go_simp
 change wpAnyH _ _ _ _ _ _ _ (Act.put _ (some 44) _) _
 (try simp only [Act.put, List.setIfInBounds_toArray, List.set_cons_zero, List.set_cons_succ])
 refine wpAnyH_take (i := 31) (oi := _) (v := .bool false) rfl (by kernel_rfl) (by kernel_rfl) (by kernel_rfl) (fun _ _ _ h => h) (Or.inl ⟨by kernel_rfl, fun W hSw => ?_⟩) hHeld ?_
 ·dsimp only at hSw
  go_simp
 change wpAnyH _ _ _ _ _ _ _ (Act.put _ (some 45) _) _
 (try simp only [Act.put, List.setIfInBounds_toArray, List.set_cons_zero, List.set_cons_succ])
 refine wpAnyH_take (i := 32) (oi := _) (v := undef) rfl (by kernel_rfl) (by kernel_rfl) (by kernel_rfl) (fun _ _ _ h => h) (Or.inr ⟨by kernel_rfl, rfl⟩) hHeld ?_
 change wpAnyH _ _ _ _ _ _ _ (Act.put _ (some 46) _) _
 (try simp only [Act.put, List.setIfInBounds_toArray, List.set_cons_zero, List.set_cons_succ])
 refine wpAnyH_take (i := 33) (oi := _) (v := undef) rfl (by kernel_rfl) (by kernel_rfl) (by kernel_rfl) (fun _ _ _ h => h) (Or.inr ⟨by kernel_rfl, rfl⟩) hHeld ?_
 change wpAnyH _ _ _ _ _ _ _ (Act.put _ (some 47) _) _
 (try simp only [Act.put, List.setIfInBounds_toArray, List.set_cons_zero, List.set_cons_succ])
 refine wpAnyH_take (i := 34) (oi := _) (v := undef) rfl (by kernel_rfl) (by kernel_rfl) (by kernel_rfl) (fun _ _ _ h => h) (Or.inr ⟨by kernel_rfl, rfl⟩) hHeld ?_
 change wpAnyH _ _ _ _ _ _ _ (Act.put _ (some 48) _) _
 (try simp only [Act.put, List.setIfInBounds_toArray, List.set_cons_zero, List.set_cons_succ])
 refine wpAnyH_take (i := 35) (oi := _) (v := undef) rfl (by kernel_rfl) (by kernel_rfl) (by kernel_rfl) (fun _ _ _ h => h) (Or.inr ⟨by kernel_rfl, rfl⟩) hHeld ?_
 change wpAnyH _ _ _ _ _ _ _ (Act.put _ (some 49) _) _
 (try simp only [Act.put, List.setIfInBounds_toArray, List.set_cons_zero, List.set_cons_succ])
 refine wpAnyH_take (i := 36) (oi := _) (v := undef) rfl (by kernel_rfl) (by kernel_rfl) (by kernel_rfl) (fun _ _ _ h => h) (Or.inr ⟨by kernel_rfl, rfl⟩) hHeld ?_
 change wpAnyH _ _ _ _ _ _ _ (Act.put _ (some 50) _) _
 (try simp only [Act.put, List.setIfInBounds_toArray, List.set_cons_zero, List.set_cons_succ])
 refine wpAnyH_take (i := 37) (oi := _) (v := undef) rfl (by kernel_rfl) (by kernel_rfl) (by kernel_rfl) (fun _ _ _ h => h) (Or.inr ⟨by kernel_rfl, rfl⟩) hHeld ?_
 change wpAnyH _ _ _ _ _ _ _ (Act.put _ (some 51) _) _
 (try simp only [Act.put, List.setIfInBounds_toArray, List.set_cons_zero, List.set_cons_succ])
 refine wpAnyH_take (i := 38) (oi := _) (v := undef) rfl (by kernel_rfl) (by kernel_rfl) (by kernel_rfl) (fun _ _ _ h => h) (Or.inr ⟨by kernel_rfl, rfl⟩) hHeld ?_
 change wpAnyH _ _ _ _ _ _ _ (Act.put _ (some 52) _) _
 (try simp only [Act.put, List.setIfInBounds_toArray, List.set_cons_zero, List.set_cons_succ])
 refine wpAnyH_take (i := 39) (oi := _) (v := undef) rfl (by kernel_rfl) (by kernel_rfl) (by kernel_rfl) (fun _ _ _ h => h) (Or.inr ⟨by kernel_rfl, rfl⟩) hHeld ?_
 change wpAnyH _ _ _ _ _ _ _ (Act.put _ (some 53) _) _
 (try simp only [Act.put, List.setIfInBounds_toArray, List.set_cons_zero, List.set_cons_succ])
 refine wpAnyH_take (i := 40) (oi := _) (v := undef) rfl (by kernel_rfl) (by kernel_rfl) (by kernel_rfl) (fun _ _ _ h => h) (Or.inr ⟨by kernel_rfl, rfl⟩) hHeld ?_
 change wpAnyH _ _ _ _ _ _ _ (Act.put _ (some 54) _) _
 (try simp only [Act.put, List.setIfInBounds_toArray, List.set_cons_zero, List.set_cons_succ])
 refine wpAnyH_take (i := 41) (oi := _) (v := .bool false) rfl (by kernel_rfl) (by kernel_rfl) (by kernel_rfl) (fun _ _ _ h => h) (Or.inl ⟨by kernel_rfl, fun W hSw => ?_⟩) hHeld ?_
 ·dsimp only at hSw
  go_simp
 change wpAnyH _ _ _ _ _ _ _ (Act.put _ (some 55) _) _
 (try simp only [Act.put, List.setIfInBounds_toArray, List.set_cons_zero, List.set_cons_succ])
 refine wpAnyH_take (i := 42) (oi := _) (v := .bool false) rfl (by kernel_rfl) (by kernel_rfl) (by kernel_rfl) (fun _ _ _ h => h) (Or.inl ⟨by kernel_rfl, fun W hSw => ?_⟩) hHeld ?_
 ·dsimp only at hSw
  go_simp
 change wpAnyH _ _ _ _ _ _ _ (Act.put _ (some 56) _) _
 (try simp only [Act.put, List.setIfInBounds_toArray, List.set_cons_zero, List.set_cons_succ])
 refine wpAnyH_take (i := 43) (oi := _) (v := undef) rfl (by kernel_rfl) (by kernel_rfl) (by kernel_rfl) (fun _ _ _ h => h) (Or.inr ⟨by kernel_rfl, rfl⟩) hHeld ?_
 change wpAnyH _ _ _ _ _ _ _ (Act.put _ (some 57) _) _
 (try simp only [Act.put, List.setIfInBounds_toArray, List.set_cons_zero, List.set_cons_succ])
 refine wpAnyH_take (i := 44) (oi := _) (v := undef) rfl (by kernel_rfl) (by kernel_rfl) (by kernel_rfl) (fun _ _ _ h => h) (Or.inr ⟨by kernel_rfl, rfl⟩) hHeld ?_
 change wpAnyH _ _ _ _ _ _ _ (Act.put _ (some 58) _) _
 (try simp only [Act.put, List.setIfInBounds_toArray, List.set_cons_zero, List.set_cons_succ])
 refine wpAnyH_take (i := 45) (oi := _) (v := undef) rfl (by kernel_rfl) (by kernel_rfl) (by kernel_rfl) (fun _ _ _ h => h) (Or.inr ⟨by kernel_rfl, rfl⟩) hHeld ?_
 change wpAnyH _ _ _ _ _ _ _ (Act.put _ (some 59) _) _
 (try simp only [Act.put, List.setIfInBounds_toArray, List.set_cons_zero, List.set_cons_succ])
 refine wpAnyH_take (i := 46) (oi := _) (v := undef) rfl (by kernel_rfl) (by kernel_rfl) (by kernel_rfl) (fun _ _ _ h => h) (Or.inr ⟨by kernel_rfl, rfl⟩) hHeld ?_
 change wpAnyH _ _ _ _ _ _ _ (Act.put _ (some 60) _) _
 (try simp only [Act.put, List.setIfInBounds_toArray, List.set_cons_zero, List.set_cons_succ])
 refine wpAnyH_take (i := 47) (oi := _) (v := undef) rfl (by kernel_rfl) (by kernel_rfl) (by kernel_rfl) (fun _ _ _ h => h) (Or.inr ⟨by kernel_rfl, rfl⟩) hHeld ?_
 change wpAnyH _ _ _ _ _ _ _ (Act.put _ (some 61) _) _
 (try simp only [Act.put, List.setIfInBounds_toArray, List.set_cons_zero, List.set_cons_succ])
 refine wpAnyH_take (i := 48) (oi := _) (v := undef) rfl (by kernel_rfl) (by kernel_rfl) (by kernel_rfl) (fun _ _ _ h => h) (Or.inr ⟨by kernel_rfl, rfl⟩) hHeld ?_
 change wpAnyH _ _ _ _ _ _ _ (Act.put _ (some 62) _) _
 (try simp only [Act.put, List.setIfInBounds_toArray, List.set_cons_zero, List.set_cons_succ])
 refine wpAnyH_take (i := 49) (oi := _) (v := undef) rfl (by kernel_rfl) (by kernel_rfl) (by kernel_rfl) (fun _ _ _ h => h) (Or.inr ⟨by kernel_rfl, rfl⟩) hHeld ?_
 change wpAnyH _ _ _ _ _ _ _ (Act.put _ (some 63) _) _
 (try simp only [Act.put, List.setIfInBounds_toArray, List.set_cons_zero, List.set_cons_succ])
 refine wpAnyH_take (i := 50) (oi := _) (v := undef) rfl (by kernel_rfl) (by kernel_rfl) (by kernel_rfl) (fun _ _ _ h => h) (Or.inr ⟨by kernel_rfl, rfl⟩) hHeld ?_
 change wpAnyH _ _ _ _ _ _ _ (Act.put _ (some 64) _) _
 (try simp only [Act.put, List.setIfInBounds_toArray, List.set_cons_zero, List.set_cons_succ])
 refine wpAnyH_take (i := 51) (oi := _) (v := undef) rfl (by kernel_rfl) (by kernel_rfl) (by kernel_rfl) (fun _ _ _ h => h) (Or.inr ⟨by kernel_rfl, rfl⟩) hHeld ?_
 change wpAnyH _ _ _ _ _ _ _ (Act.put _ (some 65) _) _
 (try simp only [Act.put, List.setIfInBounds_toArray, List.set_cons_zero, List.set_cons_succ])
 refine wpAnyH_take (i := 52) (oi := _) (v := undef) rfl (by kernel_rfl) (by kernel_rfl) (by kernel_rfl) (fun _ _ _ h => h) (Or.inr ⟨by kernel_rfl, rfl⟩) hHeld ?_
 change wpAnyH _ _ _ _ _ _ _ (Act.put _ (some 66) _) _
 (try simp only [Act.put, List.setIfInBounds_toArray, List.set_cons_zero, List.set_cons_succ])
 refine wpAnyH_take (i := 53) (oi := _) (v := undef) rfl (by kernel_rfl) (by kernel_rfl) (by kernel_rfl) (fun _ _ _ h => h) (Or.inr ⟨by kernel_rfl, rfl⟩) hHeld ?_
 change wpAnyH _ _ _ _ _ _ _ (Act.put _ (some 67) _) _
 (try simp only [Act.put, List.setIfInBounds_toArray, List.set_cons_zero, List.set_cons_succ])
 refine wpAnyH_take (i := 54) (oi := _) (v := .bool false) rfl (by kernel_rfl) (by kernel_rfl) (by kernel_rfl) (fun _ _ _ h => h) (Or.inl ⟨by kernel_rfl, fun W hSw => ?_⟩) hHeld ?_
 ·dsimp only at hSw
  go_simp
 change wpAnyH _ _ _ _ _ _ _ (Act.put _ (some 68) _) _
 (try simp only [Act.put, List.setIfInBounds_toArray, List.set_cons_zero, List.set_cons_succ])
 refine wpAnyH_take (i := 55) (oi := _) (v := .bool false) rfl (by kernel_rfl) (by kernel_rfl) (by kernel_rfl) (fun _ _ _ h => h) (Or.inl ⟨by kernel_rfl, fun W hSw => ?_⟩) hHeld ?_
 ·dsimp only at hSw
  go_simp
 change wpAnyH _ _ _ _ _ _ _ (Act.put _ (some 4) _) _
 (try simp only [Act.put, List.setIfInBounds_toArray, List.set_cons_zero, List.set_cons_succ])
 refine wpAnyH_done (by kernel_rfl) ?_ _
 all_goals
  have K := Lib.hid k3
  clear hd k1 bb1 k2 bb2 k3 bb3
  go_wp2_with fail
  go_ret
  exact ⟨rfl, K.out⟩
set_option maxHeartbeats 3200000 in
set_option maxRecDepth 100000 in
theorem same3 (E : Nat → Addr) {p p2 g l h s q c g2 l2 h2 s2 q2 c2 : Nat} {B C : BkV} {w : World} (hm : BookM w p g l h s q c B) (hm2 : BookM w p2 g2 l2 h2 s2 q2 c2 C) (_ : BkI B) (_ : BkI C) (_ : PlaceG E w) (e0 : ∀ i, goodsF B i = goodsF C i) (e1 : ∀ i, lotsF B i = lotsF C i) (e2 : ∀ i, heldF B i = heldF C i) (n3 : ¬ ∀ i, sumsF B i = sumsF C i) :
  Calls Tryz.prog 11 #[.pointer (some ⟨p, 0, none⟩), .pointer (some ⟨p2, 0, none⟩)] w fun e w' => e = .returned (.bool false) ∧ Below w.heap.size w w' := by
 have HE0 := Lib.hid (fun W (hb : Below w.heap.size w W) => equalGoods_is (hm.goods.below hb) (hm2.goods.below hb) true ⟨fun _ => e0, fun _ => rfl⟩)
 have HE1 := Lib.hid (fun W (hb : Below w.heap.size w W) => equalLot_is (hm.lots.below hb) (hm2.lots.below hb) true ⟨fun _ => e1, fun _ => rfl⟩)
 have HE2 := Lib.hid (fun W (hb : Below w.heap.size w W) => equalInt_is (hm.held.below hb) (hm2.held.below hb) true ⟨fun _ => e2, fun _ => rfl⟩)
 have HE3 := Lib.hid (fun W (hb : Below w.heap.size w W) => equalSums_is (hm.sums.below hb) (hm2.sums.below hb) false ⟨fun h => Bool.noConfusion h, fun h => absurd h n3⟩)
 have HUP : Hid (∀ W : World, Below w.heap.size w W → W.cell? ⟨p, 0, none⟩ = some (.map (some g)) ∧ W.cell? ⟨p, 1, none⟩ = some (.map (some l)) ∧ W.cell? ⟨p, 2, none⟩ = some (.map (some h)) ∧ W.cell? ⟨p, 3, none⟩ = some (.map (some s)) ∧ W.cell? ⟨p2, 0, none⟩ = some (.map (some g2)) ∧ W.cell? ⟨p2, 1, none⟩ = some (.map (some l2)) ∧ W.cell? ⟨p2, 2, none⟩ = some (.map (some h2)) ∧ W.cell? ⟨p2, 3, none⟩ = some (.map (some s2))) := fun W hb => by
  obtain ⟨⟨x0, x1, x2, x3, x4⟩, -⟩ := (BookM.below hm hb).cells
  obtain ⟨⟨y0, y1, y2, y3, y4⟩, -⟩ := (BookM.below hm2 hb).cells
  exact ⟨x0, x1, x2, x3, y0, y1, y2, y3⟩
 have hd := (Below.refl w.heap.size w).drew
 clear hm hm2 e0 e1 e2 n3
 go_enter Tryz.func11, Tryz.ntmps11
 go_wp2_with fail
 refine wp_region_held_drew (S := fun W => W.cell? ⟨p, 0, none⟩ = some (.map (some g)) ∧ W.cell? ⟨p, 1, none⟩ = some (.map (some l)) ∧ W.cell? ⟨p, 2, none⟩ = some (.map (some h)) ∧ W.cell? ⟨p, 3, none⟩ = some (.map (some s)) ∧ W.cell? ⟨p2, 0, none⟩ = some (.map (some g2)) ∧ W.cell? ⟨p2, 1, none⟩ = some (.map (some l2)) ∧ W.cell? ⟨p2, 2, none⟩ = some (.map (some h2)) ∧ W.cell? ⟨p2, 3, none⟩ = some (.map (some s2))) (by kernel_rfl) (HUP.out _ hd) (fun hHeld => ?_)
 refine wpAnyH_take (i := 0) (oi := _) (v := .pointer (some ⟨p, 0, none⟩)) rfl (by kernel_rfl) (by kernel_rfl) (by kernel_rfl) (fun _ _ _ h => h) (Or.inl ⟨by kernel_rfl, fun W hSw => ?_⟩) hHeld ?_
 ·dsimp only at hSw
  go_simp
 change wpAnyH _ _ _ _ _ _ _ (Act.put _ (some 14) _) _
 (try simp only [Act.put, List.setIfInBounds_toArray, List.set_cons_zero, List.set_cons_succ])
 refine wpAnyH_take (i := 1) (oi := _) (v := .pointer (some ⟨p, 0, none⟩)) rfl (by kernel_rfl) (by kernel_rfl) (by kernel_rfl) (fun _ _ _ h => h) (Or.inl ⟨by kernel_rfl, fun W hSw => ?_⟩) hHeld ?_
 ·dsimp only at hSw
  go_simp
 change wpAnyH _ _ _ _ _ _ _ (Act.put _ (some 15) _) _
 (try simp only [Act.put, List.setIfInBounds_toArray, List.set_cons_zero, List.set_cons_succ])
 refine wpAnyH_take (i := 2) (oi := _) (v := .pointer (some ⟨p, 0, none⟩)) rfl (by kernel_rfl) (by kernel_rfl) (by kernel_rfl) (fun _ _ _ h => h) (Or.inl ⟨by kernel_rfl, fun W hSw => ?_⟩) hHeld ?_
 ·dsimp only at hSw
  go_simp
 change wpAnyH _ _ _ _ _ _ _ (Act.put _ (some 16) _) _
 (try simp only [Act.put, List.setIfInBounds_toArray, List.set_cons_zero, List.set_cons_succ])
 refine wpAnyH_take (i := 3) (oi := _) (v := .map (some g)) rfl (by kernel_rfl) (by kernel_rfl) (by kernel_rfl) (fun _ _ _ h => h) (Or.inl ⟨by kernel_rfl, fun W hSw => ?_⟩) hHeld ?_
 ·dsimp only at hSw
  go_simp
 change wpAnyH _ _ _ _ _ _ _ (Act.put _ (some 17) _) _
 (try simp only [Act.put, List.setIfInBounds_toArray, List.set_cons_zero, List.set_cons_succ])
 refine wpAnyH_take (i := 4) (oi := _) (v := .pointer (some ⟨p2, 0, none⟩)) rfl (by kernel_rfl) (by kernel_rfl) (by kernel_rfl) (fun _ _ _ h => h) (Or.inl ⟨by kernel_rfl, fun W hSw => ?_⟩) hHeld ?_
 ·dsimp only at hSw
  go_simp
 change wpAnyH _ _ _ _ _ _ _ (Act.put _ (some 18) _) _
 (try simp only [Act.put, List.setIfInBounds_toArray, List.set_cons_zero, List.set_cons_succ])
 refine wpAnyH_take (i := 5) (oi := _) (v := .pointer (some ⟨p2, 0, none⟩)) rfl (by kernel_rfl) (by kernel_rfl) (by kernel_rfl) (fun _ _ _ h => h) (Or.inl ⟨by kernel_rfl, fun W hSw => ?_⟩) hHeld ?_
 ·dsimp only at hSw
  go_simp
 change wpAnyH _ _ _ _ _ _ _ (Act.put _ (some 19) _) _
 (try simp only [Act.put, List.setIfInBounds_toArray, List.set_cons_zero, List.set_cons_succ])
 refine wpAnyH_take (i := 6) (oi := _) (v := .pointer (some ⟨p2, 0, none⟩)) rfl (by kernel_rfl) (by kernel_rfl) (by kernel_rfl) (fun _ _ _ h => h) (Or.inl ⟨by kernel_rfl, fun W hSw => ?_⟩) hHeld ?_
 ·dsimp only at hSw
  go_simp
 change wpAnyH _ _ _ _ _ _ _ (Act.put _ (some 20) _) _
 (try simp only [Act.put, List.setIfInBounds_toArray, List.set_cons_zero, List.set_cons_succ])
 refine wpAnyH_take (i := 7) (oi := _) (v := .map (some g2)) rfl (by kernel_rfl) (by kernel_rfl) (by kernel_rfl) (fun _ _ _ h => h) (Or.inl ⟨by kernel_rfl, fun W hSw => ?_⟩) hHeld ?_
 ·dsimp only at hSw
  go_simp
 change wpAnyH _ _ _ _ _ _ _ (Act.put _ (some 21) _) _
 (try simp only [Act.put, List.setIfInBounds_toArray, List.set_cons_zero, List.set_cons_succ])
 refine wpAnyH_ready (rs := [8]) (by kernel_rfl) (by simp) (AllReadyH.cons (o := _) rfl (fun K hK => ?_) AllReadyH.nil)
 go_simp
 refine (HE0.out _ hd).mono ?_
 rintro e v1 ⟨rfl, bb1⟩
 have k1 := hd.trans (bb1.mono hd.size)
 clear hHeld
 go_wp2_with fail
 refine hK.out _ _ (HUP.out _ k1) (fun hHeld => ?_)
 clear hK K
 (try simp only [Act.put, List.setIfInBounds_toArray, List.set_cons_zero, List.set_cons_succ])
 refine wpAnyH_take (i := 9) (oi := _) (v := .bool true) rfl (by kernel_rfl) (by kernel_rfl) (by kernel_rfl) (fun _ _ _ h => h) (Or.inl ⟨by kernel_rfl, fun W hSw => ?_⟩) hHeld ?_
 ·dsimp only at hSw
  go_simp
 change wpAnyH _ _ _ _ _ _ _ (Act.put _ (some 23) _) _
 (try simp only [Act.put, List.setIfInBounds_toArray, List.set_cons_zero, List.set_cons_succ])
 refine wpAnyH_take (i := 10) (oi := _) (v := .pointer (some ⟨p, 0, none⟩)) rfl (by kernel_rfl) (by kernel_rfl) (by kernel_rfl) (fun _ _ _ h => h) (Or.inl ⟨by kernel_rfl, fun W hSw => ?_⟩) hHeld ?_
 ·dsimp only at hSw
  go_simp
 change wpAnyH _ _ _ _ _ _ _ (Act.put _ (some 24) _) _
 (try simp only [Act.put, List.setIfInBounds_toArray, List.set_cons_zero, List.set_cons_succ])
 refine wpAnyH_take (i := 11) (oi := _) (v := .pointer (some ⟨p, 0, none⟩)) rfl (by kernel_rfl) (by kernel_rfl) (by kernel_rfl) (fun _ _ _ h => h) (Or.inl ⟨by kernel_rfl, fun W hSw => ?_⟩) hHeld ?_
 ·dsimp only at hSw
  go_simp
 change wpAnyH _ _ _ _ _ _ _ (Act.put _ (some 25) _) _
 (try simp only [Act.put, List.setIfInBounds_toArray, List.set_cons_zero, List.set_cons_succ])
 refine wpAnyH_take (i := 12) (oi := _) (v := .pointer (some ⟨p, 1, none⟩)) rfl (by kernel_rfl) (by kernel_rfl) (by kernel_rfl) (fun _ _ _ h => h) (Or.inl ⟨by kernel_rfl, fun W hSw => ?_⟩) hHeld ?_
 ·dsimp only at hSw
  go_simp
 change wpAnyH _ _ _ _ _ _ _ (Act.put _ (some 26) _) _
 (try simp only [Act.put, List.setIfInBounds_toArray, List.set_cons_zero, List.set_cons_succ])
 refine wpAnyH_take (i := 13) (oi := _) (v := .map (some l)) rfl (by kernel_rfl) (by kernel_rfl) (by kernel_rfl) (fun _ _ _ h => h) (Or.inl ⟨by kernel_rfl, fun W hSw => ?_⟩) hHeld ?_
 ·dsimp only at hSw
  go_simp
 change wpAnyH _ _ _ _ _ _ _ (Act.put _ (some 27) _) _
 (try simp only [Act.put, List.setIfInBounds_toArray, List.set_cons_zero, List.set_cons_succ])
 refine wpAnyH_take (i := 14) (oi := _) (v := .pointer (some ⟨p2, 0, none⟩)) rfl (by kernel_rfl) (by kernel_rfl) (by kernel_rfl) (fun _ _ _ h => h) (Or.inl ⟨by kernel_rfl, fun W hSw => ?_⟩) hHeld ?_
 ·dsimp only at hSw
  go_simp
 change wpAnyH _ _ _ _ _ _ _ (Act.put _ (some 28) _) _
 (try simp only [Act.put, List.setIfInBounds_toArray, List.set_cons_zero, List.set_cons_succ])
 refine wpAnyH_take (i := 15) (oi := _) (v := .pointer (some ⟨p2, 0, none⟩)) rfl (by kernel_rfl) (by kernel_rfl) (by kernel_rfl) (fun _ _ _ h => h) (Or.inl ⟨by kernel_rfl, fun W hSw => ?_⟩) hHeld ?_
 ·dsimp only at hSw
  go_simp
 change wpAnyH _ _ _ _ _ _ _ (Act.put _ (some 29) _) _
 (try simp only [Act.put, List.setIfInBounds_toArray, List.set_cons_zero, List.set_cons_succ])
 refine wpAnyH_take (i := 16) (oi := _) (v := .pointer (some ⟨p2, 1, none⟩)) rfl (by kernel_rfl) (by kernel_rfl) (by kernel_rfl) (fun _ _ _ h => h) (Or.inl ⟨by kernel_rfl, fun W hSw => ?_⟩) hHeld ?_
 ·dsimp only at hSw
  go_simp
 change wpAnyH _ _ _ _ _ _ _ (Act.put _ (some 30) _) _
 (try simp only [Act.put, List.setIfInBounds_toArray, List.set_cons_zero, List.set_cons_succ])
 refine wpAnyH_take (i := 17) (oi := _) (v := .map (some l2)) rfl (by kernel_rfl) (by kernel_rfl) (by kernel_rfl) (fun _ _ _ h => h) (Or.inl ⟨by kernel_rfl, fun W hSw => ?_⟩) hHeld ?_
 ·dsimp only at hSw
  go_simp
 change wpAnyH _ _ _ _ _ _ _ (Act.put _ (some 31) _) _
 (try simp only [Act.put, List.setIfInBounds_toArray, List.set_cons_zero, List.set_cons_succ])
 refine wpAnyH_ready (rs := [18]) (by kernel_rfl) (by simp) (AllReadyH.cons (o := _) rfl (fun K hK => ?_) AllReadyH.nil)
 go_simp
 refine (HE1.out _ k1).mono ?_
 rintro e v2 ⟨rfl, bb2⟩
 have k2 := k1.trans (bb2.mono k1.size)
 clear hHeld
 go_wp2_with fail
 refine hK.out _ _ (HUP.out _ k2) (fun hHeld => ?_)
 clear hK K
 (try simp only [Act.put, List.setIfInBounds_toArray, List.set_cons_zero, List.set_cons_succ])
 refine wpAnyH_take (i := 19) (oi := _) (v := .bool true) rfl (by kernel_rfl) (by kernel_rfl) (by kernel_rfl) (fun _ _ _ h => h) (Or.inl ⟨by kernel_rfl, fun W hSw => ?_⟩) hHeld ?_
 ·dsimp only at hSw
  go_simp
 change wpAnyH _ _ _ _ _ _ _ (Act.put _ (some 33) _) _
 (try simp only [Act.put, List.setIfInBounds_toArray, List.set_cons_zero, List.set_cons_succ])
 refine wpAnyH_take (i := 20) (oi := _) (v := .bool true) rfl (by kernel_rfl) (by kernel_rfl) (by kernel_rfl) (fun _ _ _ h => h) (Or.inl ⟨by kernel_rfl, fun W hSw => ?_⟩) hHeld ?_
 ·dsimp only at hSw
  go_simp
 change wpAnyH _ _ _ _ _ _ _ (Act.put _ (some 34) _) _
 (try simp only [Act.put, List.setIfInBounds_toArray, List.set_cons_zero, List.set_cons_succ])
 refine wpAnyH_take (i := 21) (oi := _) (v := .pointer (some ⟨p, 0, none⟩)) rfl (by kernel_rfl) (by kernel_rfl) (by kernel_rfl) (fun _ _ _ h => h) (Or.inl ⟨by kernel_rfl, fun W hSw => ?_⟩) hHeld ?_
 ·dsimp only at hSw
  go_simp
 change wpAnyH _ _ _ _ _ _ _ (Act.put _ (some 35) _) _
 (try simp only [Act.put, List.setIfInBounds_toArray, List.set_cons_zero, List.set_cons_succ])
 refine wpAnyH_take (i := 22) (oi := _) (v := .pointer (some ⟨p, 0, none⟩)) rfl (by kernel_rfl) (by kernel_rfl) (by kernel_rfl) (fun _ _ _ h => h) (Or.inl ⟨by kernel_rfl, fun W hSw => ?_⟩) hHeld ?_
 ·dsimp only at hSw
  go_simp
 change wpAnyH _ _ _ _ _ _ _ (Act.put _ (some 36) _) _
 (try simp only [Act.put, List.setIfInBounds_toArray, List.set_cons_zero, List.set_cons_succ])
 refine wpAnyH_take (i := 23) (oi := _) (v := .pointer (some ⟨p, 2, none⟩)) rfl (by kernel_rfl) (by kernel_rfl) (by kernel_rfl) (fun _ _ _ h => h) (Or.inl ⟨by kernel_rfl, fun W hSw => ?_⟩) hHeld ?_
 ·dsimp only at hSw
  go_simp
 change wpAnyH _ _ _ _ _ _ _ (Act.put _ (some 37) _) _
 (try simp only [Act.put, List.setIfInBounds_toArray, List.set_cons_zero, List.set_cons_succ])
 refine wpAnyH_take (i := 24) (oi := _) (v := .map (some h)) rfl (by kernel_rfl) (by kernel_rfl) (by kernel_rfl) (fun _ _ _ h => h) (Or.inl ⟨by kernel_rfl, fun W hSw => ?_⟩) hHeld ?_
 ·dsimp only at hSw
  go_simp
 change wpAnyH _ _ _ _ _ _ _ (Act.put _ (some 38) _) _
 (try simp only [Act.put, List.setIfInBounds_toArray, List.set_cons_zero, List.set_cons_succ])
 refine wpAnyH_take (i := 25) (oi := _) (v := .pointer (some ⟨p2, 0, none⟩)) rfl (by kernel_rfl) (by kernel_rfl) (by kernel_rfl) (fun _ _ _ h => h) (Or.inl ⟨by kernel_rfl, fun W hSw => ?_⟩) hHeld ?_
 ·dsimp only at hSw
  go_simp
 change wpAnyH _ _ _ _ _ _ _ (Act.put _ (some 39) _) _
 (try simp only [Act.put, List.setIfInBounds_toArray, List.set_cons_zero, List.set_cons_succ])
 refine wpAnyH_take (i := 26) (oi := _) (v := .pointer (some ⟨p2, 0, none⟩)) rfl (by kernel_rfl) (by kernel_rfl) (by kernel_rfl) (fun _ _ _ h => h) (Or.inl ⟨by kernel_rfl, fun W hSw => ?_⟩) hHeld ?_
 ·dsimp only at hSw
  go_simp
 change wpAnyH _ _ _ _ _ _ _ (Act.put _ (some 40) _) _
 (try simp only [Act.put, List.setIfInBounds_toArray, List.set_cons_zero, List.set_cons_succ])
 refine wpAnyH_take (i := 27) (oi := _) (v := .pointer (some ⟨p2, 2, none⟩)) rfl (by kernel_rfl) (by kernel_rfl) (by kernel_rfl) (fun _ _ _ h => h) (Or.inl ⟨by kernel_rfl, fun W hSw => ?_⟩) hHeld ?_
 ·dsimp only at hSw
  go_simp
 change wpAnyH _ _ _ _ _ _ _ (Act.put _ (some 41) _) _
 (try simp only [Act.put, List.setIfInBounds_toArray, List.set_cons_zero, List.set_cons_succ])
 refine wpAnyH_take (i := 28) (oi := _) (v := .map (some h2)) rfl (by kernel_rfl) (by kernel_rfl) (by kernel_rfl) (fun _ _ _ h => h) (Or.inl ⟨by kernel_rfl, fun W hSw => ?_⟩) hHeld ?_
 ·dsimp only at hSw
  go_simp
 change wpAnyH _ _ _ _ _ _ _ (Act.put _ (some 42) _) _
 (try simp only [Act.put, List.setIfInBounds_toArray, List.set_cons_zero, List.set_cons_succ])
 refine wpAnyH_ready (rs := [29]) (by kernel_rfl) (by simp) (AllReadyH.cons (o := _) rfl (fun K hK => ?_) AllReadyH.nil)
 go_simp
 refine (HE2.out _ k2).mono ?_
 rintro e v3 ⟨rfl, bb3⟩
 have k3 := k2.trans (bb3.mono k2.size)
 clear hHeld
 go_wp2_with fail
 refine hK.out _ _ (HUP.out _ k3) (fun hHeld => ?_)
 clear hK K
 (try simp only [Act.put, List.setIfInBounds_toArray, List.set_cons_zero, List.set_cons_succ])
 refine wpAnyH_take (i := 30) (oi := _) (v := .bool true) rfl (by kernel_rfl) (by kernel_rfl) (by kernel_rfl) (fun _ _ _ h => h) (Or.inl ⟨by kernel_rfl, fun W hSw => ?_⟩) hHeld ?_
 ·dsimp only at hSw
  go_simp
 change wpAnyH _ _ _ _ _ _ _ (Act.put _ (some 44) _) _
 (try simp only [Act.put, List.setIfInBounds_toArray, List.set_cons_zero, List.set_cons_succ])
 refine wpAnyH_take (i := 31) (oi := _) (v := .bool true) rfl (by kernel_rfl) (by kernel_rfl) (by kernel_rfl) (fun _ _ _ h => h) (Or.inl ⟨by kernel_rfl, fun W hSw => ?_⟩) hHeld ?_
 ·dsimp only at hSw
  go_simp
 change wpAnyH _ _ _ _ _ _ _ (Act.put _ (some 45) _) _
 (try simp only [Act.put, List.setIfInBounds_toArray, List.set_cons_zero, List.set_cons_succ])
 refine wpAnyH_take (i := 32) (oi := _) (v := .pointer (some ⟨p, 0, none⟩)) rfl (by kernel_rfl) (by kernel_rfl) (by kernel_rfl) (fun _ _ _ h => h) (Or.inl ⟨by kernel_rfl, fun W hSw => ?_⟩) hHeld ?_
 ·dsimp only at hSw
  go_simp
 change wpAnyH _ _ _ _ _ _ _ (Act.put _ (some 46) _) _
 (try simp only [Act.put, List.setIfInBounds_toArray, List.set_cons_zero, List.set_cons_succ])
 refine wpAnyH_take (i := 33) (oi := _) (v := .pointer (some ⟨p, 0, none⟩)) rfl (by kernel_rfl) (by kernel_rfl) (by kernel_rfl) (fun _ _ _ h => h) (Or.inl ⟨by kernel_rfl, fun W hSw => ?_⟩) hHeld ?_
 ·dsimp only at hSw
  go_simp
 change wpAnyH _ _ _ _ _ _ _ (Act.put _ (some 47) _) _
 (try simp only [Act.put, List.setIfInBounds_toArray, List.set_cons_zero, List.set_cons_succ])
 refine wpAnyH_take (i := 34) (oi := _) (v := .pointer (some ⟨p, 3, none⟩)) rfl (by kernel_rfl) (by kernel_rfl) (by kernel_rfl) (fun _ _ _ h => h) (Or.inl ⟨by kernel_rfl, fun W hSw => ?_⟩) hHeld ?_
 ·dsimp only at hSw
  go_simp
 change wpAnyH _ _ _ _ _ _ _ (Act.put _ (some 48) _) _
 (try simp only [Act.put, List.setIfInBounds_toArray, List.set_cons_zero, List.set_cons_succ])
 refine wpAnyH_take (i := 35) (oi := _) (v := .map (some s)) rfl (by kernel_rfl) (by kernel_rfl) (by kernel_rfl) (fun _ _ _ h => h) (Or.inl ⟨by kernel_rfl, fun W hSw => ?_⟩) hHeld ?_
 ·dsimp only at hSw
  go_simp
 change wpAnyH _ _ _ _ _ _ _ (Act.put _ (some 49) _) _
 (try simp only [Act.put, List.setIfInBounds_toArray, List.set_cons_zero, List.set_cons_succ])
 refine wpAnyH_take (i := 36) (oi := _) (v := .pointer (some ⟨p2, 0, none⟩)) rfl (by kernel_rfl) (by kernel_rfl) (by kernel_rfl) (fun _ _ _ h => h) (Or.inl ⟨by kernel_rfl, fun W hSw => ?_⟩) hHeld ?_
 ·dsimp only at hSw
  go_simp
 change wpAnyH _ _ _ _ _ _ _ (Act.put _ (some 50) _) _
 (try simp only [Act.put, List.setIfInBounds_toArray, List.set_cons_zero, List.set_cons_succ])
 refine wpAnyH_take (i := 37) (oi := _) (v := .pointer (some ⟨p2, 0, none⟩)) rfl (by kernel_rfl) (by kernel_rfl) (by kernel_rfl) (fun _ _ _ h => h) (Or.inl ⟨by kernel_rfl, fun W hSw => ?_⟩) hHeld ?_
 ·dsimp only at hSw
  go_simp
 change wpAnyH _ _ _ _ _ _ _ (Act.put _ (some 51) _) _
 (try simp only [Act.put, List.setIfInBounds_toArray, List.set_cons_zero, List.set_cons_succ])
 refine wpAnyH_take (i := 38) (oi := _) (v := .pointer (some ⟨p2, 3, none⟩)) rfl (by kernel_rfl) (by kernel_rfl) (by kernel_rfl) (fun _ _ _ h => h) (Or.inl ⟨by kernel_rfl, fun W hSw => ?_⟩) hHeld ?_
 ·dsimp only at hSw
  go_simp
 change wpAnyH _ _ _ _ _ _ _ (Act.put _ (some 52) _) _
 (try simp only [Act.put, List.setIfInBounds_toArray, List.set_cons_zero, List.set_cons_succ])
 refine wpAnyH_take (i := 39) (oi := _) (v := .map (some s2)) rfl (by kernel_rfl) (by kernel_rfl) (by kernel_rfl) (fun _ _ _ h => h) (Or.inl ⟨by kernel_rfl, fun W hSw => ?_⟩) hHeld ?_
 ·dsimp only at hSw
  go_simp
 change wpAnyH _ _ _ _ _ _ _ (Act.put _ (some 53) _) _
 (try simp only [Act.put, List.setIfInBounds_toArray, List.set_cons_zero, List.set_cons_succ])
 refine wpAnyH_ready (rs := [40]) (by kernel_rfl) (by simp) (AllReadyH.cons (o := _) rfl (fun K hK => ?_) AllReadyH.nil)
 go_simp
 refine (HE3.out _ k3).mono ?_
 rintro e v4 ⟨rfl, bb4⟩
 have k4 := k3.trans (bb4.mono k3.size)
 clear hHeld
 go_wp2_with fail
 refine hK.out _ _ (HUP.out _ k4) (fun hHeld => ?_)
 clear hK K
 (try simp only [Act.put, List.setIfInBounds_toArray, List.set_cons_zero, List.set_cons_succ])
 refine wpAnyH_take (i := 41) (oi := _) (v := .bool false) rfl (by kernel_rfl) (by kernel_rfl) (by kernel_rfl) (fun _ _ _ h => h) (Or.inl ⟨by kernel_rfl, fun W hSw => ?_⟩) hHeld ?_
 ·dsimp only at hSw
  go_simp
 change wpAnyH _ _ _ _ _ _ _ (Act.put _ (some 55) _) _
 (try simp only [Act.put, List.setIfInBounds_toArray, List.set_cons_zero, List.set_cons_succ])
 refine wpAnyH_take (i := 42) (oi := _) (v := .bool false) rfl (by kernel_rfl) (by kernel_rfl) (by kernel_rfl) (fun _ _ _ h => h) (Or.inl ⟨by kernel_rfl, fun W hSw => ?_⟩) hHeld ?_
 ·dsimp only at hSw
  go_simp
 change wpAnyH _ _ _ _ _ _ _ (Act.put _ (some 56) _) _
 (try simp only [Act.put, List.setIfInBounds_toArray, List.set_cons_zero, List.set_cons_succ])
 refine wpAnyH_take (i := 43) (oi := _) (v := undef) rfl (by kernel_rfl) (by kernel_rfl) (by kernel_rfl) (fun _ _ _ h => h) (Or.inr ⟨by kernel_rfl, rfl⟩) hHeld ?_
 change wpAnyH _ _ _ _ _ _ _ (Act.put _ (some 57) _) _
 (try simp only [Act.put, List.setIfInBounds_toArray, List.set_cons_zero, List.set_cons_succ])
 refine wpAnyH_take (i := 44) (oi := _) (v := undef) rfl (by kernel_rfl) (by kernel_rfl) (by kernel_rfl) (fun _ _ _ h => h) (Or.inr ⟨by kernel_rfl, rfl⟩) hHeld ?_
 change wpAnyH _ _ _ _ _ _ _ (Act.put _ (some 58) _) _
 (try simp only [Act.put, List.setIfInBounds_toArray, List.set_cons_zero, List.set_cons_succ])
 refine wpAnyH_take (i := 45) (oi := _) (v := undef) rfl (by kernel_rfl) (by kernel_rfl) (by kernel_rfl) (fun _ _ _ h => h) (Or.inr ⟨by kernel_rfl, rfl⟩) hHeld ?_
 change wpAnyH _ _ _ _ _ _ _ (Act.put _ (some 59) _) _
 (try simp only [Act.put, List.setIfInBounds_toArray, List.set_cons_zero, List.set_cons_succ])
 refine wpAnyH_take (i := 46) (oi := _) (v := undef) rfl (by kernel_rfl) (by kernel_rfl) (by kernel_rfl) (fun _ _ _ h => h) (Or.inr ⟨by kernel_rfl, rfl⟩) hHeld ?_
 change wpAnyH _ _ _ _ _ _ _ (Act.put _ (some 60) _) _
 (try simp only [Act.put, List.setIfInBounds_toArray, List.set_cons_zero, List.set_cons_succ])
 refine wpAnyH_take (i := 47) (oi := _) (v := undef) rfl (by kernel_rfl) (by kernel_rfl) (by kernel_rfl) (fun _ _ _ h => h) (Or.inr ⟨by kernel_rfl, rfl⟩) hHeld ?_
 change wpAnyH _ _ _ _ _ _ _ (Act.put _ (some 61) _) _
 (try simp only [Act.put, List.setIfInBounds_toArray, List.set_cons_zero, List.set_cons_succ])
 refine wpAnyH_take (i := 48) (oi := _) (v := undef) rfl (by kernel_rfl) (by kernel_rfl) (by kernel_rfl) (fun _ _ _ h => h) (Or.inr ⟨by kernel_rfl, rfl⟩) hHeld ?_
 change wpAnyH _ _ _ _ _ _ _ (Act.put _ (some 62) _) _
 (try simp only [Act.put, List.setIfInBounds_toArray, List.set_cons_zero, List.set_cons_succ])
 refine wpAnyH_take (i := 49) (oi := _) (v := undef) rfl (by kernel_rfl) (by kernel_rfl) (by kernel_rfl) (fun _ _ _ h => h) (Or.inr ⟨by kernel_rfl, rfl⟩) hHeld ?_
 change wpAnyH _ _ _ _ _ _ _ (Act.put _ (some 63) _) _
 (try simp only [Act.put, List.setIfInBounds_toArray, List.set_cons_zero, List.set_cons_succ])
 refine wpAnyH_take (i := 50) (oi := _) (v := undef) rfl (by kernel_rfl) (by kernel_rfl) (by kernel_rfl) (fun _ _ _ h => h) (Or.inr ⟨by kernel_rfl, rfl⟩) hHeld ?_
 change wpAnyH _ _ _ _ _ _ _ (Act.put _ (some 64) _) _
 (try simp only [Act.put, List.setIfInBounds_toArray, List.set_cons_zero, List.set_cons_succ])
 refine wpAnyH_take (i := 51) (oi := _) (v := undef) rfl (by kernel_rfl) (by kernel_rfl) (by kernel_rfl) (fun _ _ _ h => h) (Or.inr ⟨by kernel_rfl, rfl⟩) hHeld ?_
 change wpAnyH _ _ _ _ _ _ _ (Act.put _ (some 65) _) _
 (try simp only [Act.put, List.setIfInBounds_toArray, List.set_cons_zero, List.set_cons_succ])
 refine wpAnyH_take (i := 52) (oi := _) (v := undef) rfl (by kernel_rfl) (by kernel_rfl) (by kernel_rfl) (fun _ _ _ h => h) (Or.inr ⟨by kernel_rfl, rfl⟩) hHeld ?_
 change wpAnyH _ _ _ _ _ _ _ (Act.put _ (some 66) _) _
 (try simp only [Act.put, List.setIfInBounds_toArray, List.set_cons_zero, List.set_cons_succ])
 refine wpAnyH_take (i := 53) (oi := _) (v := undef) rfl (by kernel_rfl) (by kernel_rfl) (by kernel_rfl) (fun _ _ _ h => h) (Or.inr ⟨by kernel_rfl, rfl⟩) hHeld ?_
 change wpAnyH _ _ _ _ _ _ _ (Act.put _ (some 67) _) _
 (try simp only [Act.put, List.setIfInBounds_toArray, List.set_cons_zero, List.set_cons_succ])
 refine wpAnyH_take (i := 54) (oi := _) (v := .bool false) rfl (by kernel_rfl) (by kernel_rfl) (by kernel_rfl) (fun _ _ _ h => h) (Or.inl ⟨by kernel_rfl, fun W hSw => ?_⟩) hHeld ?_
 ·dsimp only at hSw
  go_simp
 change wpAnyH _ _ _ _ _ _ _ (Act.put _ (some 68) _) _
 (try simp only [Act.put, List.setIfInBounds_toArray, List.set_cons_zero, List.set_cons_succ])
 refine wpAnyH_take (i := 55) (oi := _) (v := .bool false) rfl (by kernel_rfl) (by kernel_rfl) (by kernel_rfl) (fun _ _ _ h => h) (Or.inl ⟨by kernel_rfl, fun W hSw => ?_⟩) hHeld ?_
 ·dsimp only at hSw
  go_simp
 change wpAnyH _ _ _ _ _ _ _ (Act.put _ (some 4) _) _
 (try simp only [Act.put, List.setIfInBounds_toArray, List.set_cons_zero, List.set_cons_succ])
 refine wpAnyH_done (by kernel_rfl) ?_ _
 all_goals
  have K := Lib.hid k4
  clear hd k1 bb1 k2 bb2 k3 bb3 k4 bb4
  go_wp2_with fail
  go_ret
  exact ⟨rfl, K.out⟩
set_option maxHeartbeats 3200000 in
set_option maxRecDepth 100000 in
theorem same4 (E : Nat → Addr) {p p2 g l h s q c g2 l2 h2 s2 q2 c2 : Nat} {B C : BkV} {w : World} (hm : BookM w p g l h s q c B) (hm2 : BookM w p2 g2 l2 h2 s2 q2 c2 C) (hI : BkI B) (hI2 : BkI C) (hG : PlaceG E w) (e0 : ∀ i, goodsF B i = goodsF C i) (e1 : ∀ i, lotsF B i = lotsF C i) (e2 : ∀ i, heldF B i = heldF C i) (e3 : ∀ i, sumsF B i = sumsF C i) (n4 : ¬ textM B.2.2 = textM C.2.2) :
  Calls Tryz.prog 11 #[.pointer (some ⟨p, 0, none⟩), .pointer (some ⟨p2, 0, none⟩)] w fun e w' => e = .returned (.bool false) ∧ Below w.heap.size w w' := by
 have HE0 := Lib.hid (fun W (hb : Below w.heap.size w W) => equalGoods_is (hm.goods.below hb) (hm2.goods.below hb) true ⟨fun _ => e0, fun _ => rfl⟩)
 have HE1 := Lib.hid (fun W (hb : Below w.heap.size w W) => equalLot_is (hm.lots.below hb) (hm2.lots.below hb) true ⟨fun _ => e1, fun _ => rfl⟩)
 have HE2 := Lib.hid (fun W (hb : Below w.heap.size w W) => equalInt_is (hm.held.below hb) (hm2.held.below hb) true ⟨fun _ => e2, fun _ => rfl⟩)
 have HE3 := Lib.hid (fun W (hb : Below w.heap.size w W) => equalSums_is (hm.sums.below hb) (hm2.sums.below hb) true ⟨fun _ => e3, fun _ => rfl⟩)
 have HT1 := Lib.hid (fun W (hb : Below w.heap.size w W) => textStock_P E hI.stk W (hm.stk.below hb) (hG.below hb))
 have HT2 := Lib.hid (fun W (hb : Below w.heap.size w W) => textStock_P E hI2.stk W (hm2.stk.below hb) (hG.below hb))
 have hne : (textM B.2.2 == textM C.2.2) = false := by simpa using n4
 generalize textM C.2.2 = T2 at HT2 hne
 generalize textM B.2.2 = T1 at *
 have HUP : Hid (∀ W : World, Below w.heap.size w W → W.cell? ⟨p, 0, none⟩ = some (.map (some g)) ∧ W.cell? ⟨p, 1, none⟩ = some (.map (some l)) ∧ W.cell? ⟨p, 2, none⟩ = some (.map (some h)) ∧ W.cell? ⟨p, 3, none⟩ = some (.map (some s)) ∧ W.cell? ⟨p, 4, none⟩ = some (.pointer (some ⟨q, 0, none⟩)) ∧ W.cell? ⟨p2, 0, none⟩ = some (.map (some g2)) ∧ W.cell? ⟨p2, 1, none⟩ = some (.map (some l2)) ∧ W.cell? ⟨p2, 2, none⟩ = some (.map (some h2)) ∧ W.cell? ⟨p2, 3, none⟩ = some (.map (some s2)) ∧ W.cell? ⟨p2, 4, none⟩ = some (.pointer (some ⟨q2, 0, none⟩))) := fun W hb => by
  obtain ⟨⟨x0, x1, x2, x3, x4⟩, -⟩ := (BookM.below hm hb).cells
  obtain ⟨⟨y0, y1, y2, y3, y4⟩, -⟩ := (BookM.below hm2 hb).cells
  exact ⟨x0, x1, x2, x3, x4, y0, y1, y2, y3, y4⟩
 have hd := (Below.refl w.heap.size w).drew
 clear hm hm2 hI hI2 hG e0 e1 e2 e3 n4
 go_enter Tryz.func11, Tryz.ntmps11
 go_wp2_with fail
 go_region_held3 (fun W => W.cell? ⟨p, 0, none⟩ = some (.map (some g)) ∧ W.cell? ⟨p, 1, none⟩ = some (.map (some l)) ∧ W.cell? ⟨p, 2, none⟩ = some (.map (some h)) ∧ W.cell? ⟨p, 3, none⟩ = some (.map (some s)) ∧ W.cell? ⟨p, 4, none⟩ = some (.pointer (some ⟨q, 0, none⟩)) ∧ W.cell? ⟨p2, 0, none⟩ = some (.map (some g2)) ∧ W.cell? ⟨p2, 1, none⟩ = some (.map (some l2)) ∧ W.cell? ⟨p2, 2, none⟩ = some (.map (some h2)) ∧ W.cell? ⟨p2, 3, none⟩ = some (.map (some s2)) ∧ W.cell? ⟨p2, 4, none⟩ = some (.pointer (some ⟨q2, 0, none⟩)))
  (first | exact HUP.out _ hd | exact HUP.out _ k1 | exact HUP.out _ k2 | exact HUP.out _ k3 | exact HUP.out _ k4 | exact HUP.out _ k5 | exact HUP.out _ k6 | go_keep)
  (first
   |(go_at_call 40; refine (HE0.out _ hd).mono ?_; rintro e v1 ⟨rfl, bb1⟩; have k1 := hd.trans (bb1.mono hd.size))
   |(go_at_call 41; refine (HE1.out _ k1).mono ?_; rintro e v2 ⟨rfl, bb2⟩; have k2 := k1.trans (bb2.mono k1.size))
   |(go_at_call 42; refine (HE2.out _ k2).mono ?_; rintro e v3 ⟨rfl, bb3⟩; have k3 := k2.trans (bb3.mono k2.size))
   |(go_at_call 43; refine (HE3.out _ k3).mono ?_; rintro e v4 ⟨rfl, bb4⟩; have k4 := k3.trans (bb4.mono k3.size))
   |(go_at_call 44; (with_reducible refine (HT1.out _ k4).mono ?_); rintro e v5 ⟨rfl, bb5⟩; have k5 := k4.trans (bb5.mono k4.size))
   |(go_at_call 44; (with_reducible refine (HT2.out _ k5).mono ?_); rintro e v6 ⟨rfl, bb6⟩; have k6 := k5.trans (bb6.mono k5.size)))
 all_goals
  have K := Lib.hid k6
  clear hd k1 bb1 k2 bb2 k3 bb3 k4 bb4 k5 bb5 k6 bb6
  go_wp2_with fail
  go_ret
  exact ⟨rfl, K.out⟩
set_option maxHeartbeats 3200000 in
set_option maxRecDepth 100000 in
theorem same5 (E : Nat → Addr) {p p2 g l h s q c g2 l2 h2 s2 q2 c2 : Nat} {B C : BkV} {w : World} (hm : BookM w p g l h s q c B) (hm2 : BookM w p2 g2 l2 h2 s2 q2 c2 C) (hI : BkI B) (hI2 : BkI C) (hG : PlaceG E w) (e0 : ∀ i, goodsF B i = goodsF C i) (e1 : ∀ i, lotsF B i = lotsF C i) (e2 : ∀ i, heldF B i = heldF C i) (e3 : ∀ i, sumsF B i = sumsF C i) (e4 : textM B.2.2 = textM C.2.2) :
  Calls Tryz.prog 11 #[.pointer (some ⟨p, 0, none⟩), .pointer (some ⟨p2, 0, none⟩)] w fun e w' => e = .returned (.bool true) ∧ Below w.heap.size w w' := by
 have HE0 := Lib.hid (fun W (hb : Below w.heap.size w W) => equalGoods_is (hm.goods.below hb) (hm2.goods.below hb) true ⟨fun _ => e0, fun _ => rfl⟩)
 have HE1 := Lib.hid (fun W (hb : Below w.heap.size w W) => equalLot_is (hm.lots.below hb) (hm2.lots.below hb) true ⟨fun _ => e1, fun _ => rfl⟩)
 have HE2 := Lib.hid (fun W (hb : Below w.heap.size w W) => equalInt_is (hm.held.below hb) (hm2.held.below hb) true ⟨fun _ => e2, fun _ => rfl⟩)
 have HE3 := Lib.hid (fun W (hb : Below w.heap.size w W) => equalSums_is (hm.sums.below hb) (hm2.sums.below hb) true ⟨fun _ => e3, fun _ => rfl⟩)
 have HT1 := Lib.hid (fun W (hb : Below w.heap.size w W) => textStock_P E hI.stk W (hm.stk.below hb) (hG.below hb))
 have HT2 := Lib.hid (fun W (hb : Below w.heap.size w W) => textStock_P E hI2.stk W (hm2.stk.below hb) (hG.below hb))
 rw [← e4] at HT2
 generalize textM B.2.2 = T1 at *
 have HUP : Hid (∀ W : World, Below w.heap.size w W → W.cell? ⟨p, 0, none⟩ = some (.map (some g)) ∧ W.cell? ⟨p, 1, none⟩ = some (.map (some l)) ∧ W.cell? ⟨p, 2, none⟩ = some (.map (some h)) ∧ W.cell? ⟨p, 3, none⟩ = some (.map (some s)) ∧ W.cell? ⟨p, 4, none⟩ = some (.pointer (some ⟨q, 0, none⟩)) ∧ W.cell? ⟨p2, 0, none⟩ = some (.map (some g2)) ∧ W.cell? ⟨p2, 1, none⟩ = some (.map (some l2)) ∧ W.cell? ⟨p2, 2, none⟩ = some (.map (some h2)) ∧ W.cell? ⟨p2, 3, none⟩ = some (.map (some s2)) ∧ W.cell? ⟨p2, 4, none⟩ = some (.pointer (some ⟨q2, 0, none⟩))) := fun W hb => by
  obtain ⟨⟨x0, x1, x2, x3, x4⟩, -⟩ := (BookM.below hm hb).cells
  obtain ⟨⟨y0, y1, y2, y3, y4⟩, -⟩ := (BookM.below hm2 hb).cells
  exact ⟨x0, x1, x2, x3, x4, y0, y1, y2, y3, y4⟩
 have hd := (Below.refl w.heap.size w).drew
 clear hm hm2 hI hI2 hG e0 e1 e2 e3 e4
 go_enter Tryz.func11, Tryz.ntmps11
 go_wp2_with fail
 go_region_held3 (fun W => W.cell? ⟨p, 0, none⟩ = some (.map (some g)) ∧ W.cell? ⟨p, 1, none⟩ = some (.map (some l)) ∧ W.cell? ⟨p, 2, none⟩ = some (.map (some h)) ∧ W.cell? ⟨p, 3, none⟩ = some (.map (some s)) ∧ W.cell? ⟨p, 4, none⟩ = some (.pointer (some ⟨q, 0, none⟩)) ∧ W.cell? ⟨p2, 0, none⟩ = some (.map (some g2)) ∧ W.cell? ⟨p2, 1, none⟩ = some (.map (some l2)) ∧ W.cell? ⟨p2, 2, none⟩ = some (.map (some h2)) ∧ W.cell? ⟨p2, 3, none⟩ = some (.map (some s2)) ∧ W.cell? ⟨p2, 4, none⟩ = some (.pointer (some ⟨q2, 0, none⟩)))
  (first | exact HUP.out _ hd | exact HUP.out _ k1 | exact HUP.out _ k2 | exact HUP.out _ k3 | exact HUP.out _ k4 | exact HUP.out _ k5 | exact HUP.out _ k6 | go_keep)
  (first
   |(go_at_call 40; refine (HE0.out _ hd).mono ?_; rintro e v1 ⟨rfl, bb1⟩; have k1 := hd.trans (bb1.mono hd.size))
   |(go_at_call 41; refine (HE1.out _ k1).mono ?_; rintro e v2 ⟨rfl, bb2⟩; have k2 := k1.trans (bb2.mono k1.size))
   |(go_at_call 42; refine (HE2.out _ k2).mono ?_; rintro e v3 ⟨rfl, bb3⟩; have k3 := k2.trans (bb3.mono k2.size))
   |(go_at_call 43; refine (HE3.out _ k3).mono ?_; rintro e v4 ⟨rfl, bb4⟩; have k4 := k3.trans (bb4.mono k3.size))
   |(go_at_call 44; (with_reducible refine (HT1.out _ k4).mono ?_); rintro e v5 ⟨rfl, bb5⟩; have k5 := k4.trans (bb5.mono k4.size))
   |(go_at_call 44; (with_reducible refine (HT2.out _ k5).mono ?_); rintro e v6 ⟨rfl, bb6⟩; have k6 := k5.trans (bb6.mono k5.size)))
 all_goals
  have K := Lib.hid k6
  clear hd k1 bb1 k2 bb2 k3 bb3 k4 bb4 k5 bb5 k6 bb6
  go_wp2_with fail
  go_ret
  exact ⟨rfl, K.out⟩
theorem sameBk_any (E : Nat → Addr) {p p2 : Nat} {F F2 : List Nat} {B C : BkV} {w : World} (H : BookIs w p F B) (H2 : BookIs w p2 F2 C) (hI : BkI B) (hI2 : BkI C) (hG : PlaceG E w) :
  Tells Tryz.prog 11 #[.pointer (some ⟨p, 0, none⟩), .pointer (some ⟨p2, 0, none⟩)] w (BkEq B C) := by
 have hs := same_of hI hI2
 obtain ⟨g, l, h, s, q, c, -, -, hm⟩ := H
 obtain ⟨g2, l2, h2, s2, q2, c2, -, -, hm2⟩ := H2
 by_cases e0 : ∀ i, goodsF B i = goodsF C i
 ·by_cases e1 : ∀ i, lotsF B i = lotsF C i
  ·by_cases e2 : ∀ i, heldF B i = heldF C i
   ·by_cases e3 : ∀ i, sumsF B i = sumsF C i
    ·by_cases e4 : textM B.2.2 = textM C.2.2
     ·exact ⟨true, ⟨fun _ => hs.2 ⟨e0, e1, e2, e3, e4⟩, fun _ => rfl⟩, same5 E hm hm2 hI hI2 hG e0 e1 e2 e3 e4⟩
     ·exact ⟨false, ⟨fun h => Bool.noConfusion h, fun h => absurd (hs.1 h).2.2.2.2 e4⟩, same4 E hm hm2 hI hI2 hG e0 e1 e2 e3 e4⟩
    ·exact ⟨false, ⟨fun h => Bool.noConfusion h, fun h => absurd (hs.1 h).2.2.2.1 e3⟩, same3 E hm hm2 hI hI2 hG e0 e1 e2 e3⟩
   ·exact ⟨false, ⟨fun h => Bool.noConfusion h, fun h => absurd (hs.1 h).2.2.1 e2⟩, same2 E hm hm2 hI hI2 hG e0 e1 e2⟩
  ·exact ⟨false, ⟨fun h => Bool.noConfusion h, fun h => absurd (hs.1 h).2.1 e1⟩, same1 E hm hm2 hI hI2 hG e0 e1⟩
 ·exact ⟨false, ⟨fun h => Bool.noConfusion h, fun h => absurd (hs.1 h).1 e0⟩, same0 E hm hm2 hI hI2 hG e0⟩
end Go.Proofs.YteaalifehokgoaaGreatDoor
