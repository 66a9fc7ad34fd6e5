/- Equal lines. An entry's parts in memory. The program's book: taken; sums compared; an entry's error, step by step. What stays where little turns. -/
import Derived.Test.YtgllddebodfhkaaGreatDoorM01
import Derived.Test.YtgllddebodfhkaaGreatDoorM04
import Derived.Test.YtgllddebodfhkaaGreatDoorM07
import Derived.Test.YtgllddebodfhkaaGreatDoorM18
import Derived.Test.YtgllddebodfhkaaGreatDoorM19
import Derived.Test.YtgllddebodfhkaaGreatDoorM22
import Derived.Test.YtgllddebodfhkaaGreatDoorM24
namespace Go.Proofs.YtgllddebodfhkaaGreatDoor
open Go.RowKit Go.Sort Go.Proofs

theorem eqInLine (x y : LineV) (W : World) : (Op.equalIn 10000 82 (.agg (encLine x).toArray) (.agg (encLine y).toArray)).run Tryz.prog W = .ok (decide (x = y)) W := by
  have u3 := Tryz.underlying3
  have u9 := Tryz.underlying9
  have hS : Tryz.prog.underlying 82 = some (.struct (Tryz.prog.fieldsOf 82)) := by kernel_rfl
  have hp : Tryz.prog.stoodInHeld 82 = false := by kernel_rfl
  have pS : Tryz.prog.underlying 40 = some (.struct (Tryz.prog.fieldsOf 40)) := by kernel_rfl
  have pp : Tryz.prog.stoodInHeld 40 = false := by kernel_rfl
  have eP : ∀ (a1 b1 : List UInt8) (a2 a3 b2 b3 : Int) (W : World), (Op.equalIn 9999 40 (.agg #[.string ⟨a1.toArray⟩, .int .i64 a2, .int .i64 a3]) (.agg #[.string ⟨b1.toArray⟩, .int .i64 b2, .int .i64 b3])).run Tryz.prog W = .ok (decide (a1 = b1 ∧ a2 = b2 ∧ a3 = b3)) W := fun a1 b1 a2 a3 b2 b3 W => by
    rw [show (9999 : Nat) = 9998 + 1 from rfl, run_equalIn_agg W 9998 40 _ _ pS pp]
    simp only [Program.fieldsOf, Tryz.underlying40]
    go_simp
    by_cases h1 : a1 = b1 <;> by_cases h2 : a2 = b2 <;> by_cases h3 : a3 = b3 <;> simp [h1, h2, h3]
  simp only [encLine]
  rw [show (10000 : Nat) = 9999 + 1 from rfl, run_equalIn_agg W 9999 82 _ _ hS hp]
  clear hS hp pS pp
  simp only [Program.fieldsOf, Tryz.underlying82]
  go_simp
  obtain ⟨⟨a1, a2, a3⟩, a4, a5⟩ := x
  obtain ⟨⟨b1, b2, b3⟩, b4, b5⟩ := y
  by_cases h1 : a1 = b1 <;> by_cases h2 : a2 = b2 <;> by_cases h3 : a3 = b3 <;> by_cases h4 : a4 = b4 <;> by_cases h5 : a5 = b5 <;> simp [h1, h2, h3, h4, h5]
theorem neqLine (x y : LineV) (W : World) : (binOp .neq 82 (.agg (encLine x).toArray) (.agg (encLine y).toArray)).run Tryz.prog W = .ok (.bool (!decide (x = y))) W := by
  rw [run_neq_struct, eqInLine]
  rfl
theorem eqLine (x y : LineV) (W : World) : (binOp .eql 82 (.agg (encLine x).toArray) (.agg (encLine y).toArray)).run Tryz.prog W = .ok (.bool (decide (x = y))) W := by
  rw [run_eql_struct, eqInLine]
  rfl
end Go.Proofs.YtgllddebodfhkaaGreatDoor
namespace Go.Proofs.YtgllddebodfhkaaGreatDoor
open Go.RowKit Go.Sort Go.Proofs

theorem entP_len (x : EntV) : (encPlace x.2.2.2.1).length = 3 ∧ (encPlace x.2.2.2.2.1).length = 3 ∧ (encLot x.2.2.1).length = 4 := ⟨rfl, rfl, rfl⟩
theorem ent_from {w : World} {b : Nat} {x : EntV} (h : Lies w b 0 (encEnt x)) : Lies w b 7 (encPlace x.2.2.2.1) := fun j v hv => by
  have hj : j < 3 := (List.getElem?_eq_some_iff.1 hv).1
  have := h (7 + j) v (by match j, hj, hv with | 0, _, hv => exact hv | 1, _, hv => exact hv | 2, _, hv => exact hv)
  simpa using this
theorem ent_to {w : World} {b : Nat} {x : EntV} (h : Lies w b 0 (encEnt x)) : Lies w b 10 (encPlace x.2.2.2.2.1) := fun j v hv => by
  have hj : j < 3 := (List.getElem?_eq_some_iff.1 hv).1
  have := h (10 + j) v (by match j, hj, hv with | 0, _, hv => exact hv | 1, _, hv => exact hv | 2, _, hv => exact hv)
  simpa using this
theorem ent_lot {w : World} {b : Nat} {x : EntV} (h : Lies w b 0 (encEnt x)) : Lies w b 3 (encLot x.2.2.1) := fun j v hv => by
  have hj : j < 4 := (List.getElem?_eq_some_iff.1 hv).1
  have := h (3 + j) v (by match j, hj, hv with | 0, _, hv => exact hv | 1, _, hv => exact hv | 2, _, hv => exact hv | 3, _, hv => exact hv)
  simpa using this
theorem Lies.at {w : World} {b : Nat} {L : List Value} (h : Lies w b 0 L) (i : Nat) (v : Value) (hv : L[i]? = some v) : w.cell? ⟨b, i, none⟩ = some v := by
  have := h i v hv
  rwa [Nat.zero_add] at this
end Go.Proofs.YtgllddebodfhkaaGreatDoor
namespace Go.Proofs.YtgllddebodfhkaaGreatDoor
open Go.RowKit Go.Sort Go.Proofs

theorem eqInSums (x y : SumsV) (W : World) : (Op.equalIn 10000 60 (.agg (encSums x).toArray) (.agg (encSums y).toArray)).run Tryz.prog W = .ok (decide (x = y)) W := by
  have u3 := Tryz.underlying3
  have hS : Tryz.prog.underlying 60 = some (.struct (Tryz.prog.fieldsOf 60)) := by kernel_rfl
  have hp : Tryz.prog.stoodInHeld 60 = false := by kernel_rfl
  simp only [encSums]
  rw [show (10000 : Nat) = 9999 + 1 from rfl, run_equalIn_agg W 9999 60 _ _ hS hp]
  clear hS hp
  simp only [Program.fieldsOf, Tryz.underlying60]
  go_simp
  obtain ⟨a1, a2, a3, a4⟩ := x
  obtain ⟨b1, b2, b3, b4⟩ := y
  by_cases h1 : a1 = b1 <;> by_cases h2 : a2 = b2 <;> by_cases h3 : a3 = b3 <;> by_cases h4 : a4 = b4 <;> simp [h1, h2, h3, h4]
theorem neqSums (x y : SumsV) (W : World) : (binOp .neq 60 (.agg (encSums x).toArray) (.agg (encSums y).toArray)).run Tryz.prog W = .ok (.bool (!decide (x = y))) W := by
  rw [run_neq_struct, eqInSums]
  rfl
theorem eqSums (x y : SumsV) (W : World) : (binOp .eql 60 (.agg (encSums x).toArray) (.agg (encSums y).toArray)).run Tryz.prog W = .ok (.bool (decide (x = y))) W := by
  rw [run_eql_struct, eqInSums]
  rfl

/-- What taken answers; what the switch leaves; what the check behind it makes of that; the error in the end. -/
def takenE (m : StkV) (h : Nat) (x : EntV) : Nat := if takeE m x.2.2.2.1 x.2.2.1.1 x.2.2.2.2.2 ≠ 0 then takeE m x.2.2.2.1 x.2.2.1.1 x.2.2.2.2.2 else if ofM (takeM m x.2.2.2.1 x.2.2.1.1 x.2.2.2.2.2) x.2.2.1.1 < h then 9 else 0
def actS (m : StkV) (h : Nat) (x : EntV) : Nat :=
  if x.1 = kIn ∨ x.1 = kMore then putE m x.2.2.2.2.1 x.2.2.1.1 x.2.2.2.2.2 else if x.1 = kOut ∨ x.1 = kLess then takenE m h x
  else if x.1 = kMove then moveE m x.2.2.2.1 x.2.2.2.2.1 x.2.2.1.1 x.2.2.2.2.2 else 0
def heldS (m : StkV) (h : Nat) (x : EntV) : Nat := if actS m h x = 0 ∧ (heldN h x < 0 ∨ (ofM (actM m x) x.2.2.1.1 : Int) < heldN h x) then 9 else actS m h x
theorem pcE_steps {B : BkV} {x : EntV} {y : LoH} (hy : fL B x.2.2.1.1 = some y) : pcE B x = if heldS B.2.2 y.2 x ≠ 0 then heldS B.2.2 y.2 x else if overS (summ (sumsOf B y.1.2.1) x) = true then 2 else 0 := by
  unfold pcE
  rw [hy]
  simp only
  have key : heldS B.2.2 y.2 x = if actE B.2.2 x ≠ 0 then actE B.2.2 x else if heldN y.2 x < 0 ∨ (ofM (actM B.2.2 x) x.2.2.1.1 : Int) < heldN y.2 x then 9 else 0 := by
    unfold heldS actS actE
    by_cases k1 : x.1 = kIn ∨ x.1 = kMore
    · simp only [if_pos k1]
      split
      · rename_i h; rw [if_neg (by simp [h.1]), if_pos h.2]
      · rename_i h
        split
        · rfl
        · rename_i h0
          simp only [ne_eq, Decidable.not_not] at h0
          rw [h0, if_neg (fun e => h ⟨h0, e⟩)]
    · simp only [if_neg k1]
      by_cases k2 : x.1 = kOut ∨ x.1 = kLess
      · simp only [if_pos k2]
        have ea : actM B.2.2 x = takeM B.2.2 x.2.2.2.1 x.2.2.1.1 x.2.2.2.2.2 := by
          unfold actM
          rw [if_neg k1, if_pos k2]
        have eh : heldN y.2 x = y.2 := by
          unfold heldN
          rw [if_neg (by rcases k2 with h | h <;> rw [h] <;> decide), if_neg (by rcases k2 with h | h <;> rw [h] <;> decide)]
        rw [ea, eh]
        unfold takenE
        by_cases h0 : takeE B.2.2 x.2.2.2.1 x.2.2.1.1 x.2.2.2.2.2 = 0
        · simp only [h0, ne_eq, not_true_eq_false, if_false]
          by_cases h1 : ofM (takeM B.2.2 x.2.2.2.1 x.2.2.1.1 x.2.2.2.2.2) x.2.2.1.1 < y.2
          · simp only [if_pos h1]
            rw [if_neg (by simp), if_pos (.inr (by omega))]
          · simp only [if_neg h1]
            rw [if_neg (by omega), if_neg (by omega)]
        · simp only [ne_eq, h0, not_false_eq_true, if_true, false_and, if_false]
      · simp only [if_neg k2]
        by_cases k3 : x.1 = kMove
        · simp only [if_pos k3]
          split
          · rename_i h; rw [if_neg (by simp [h.1]), if_pos h.2]
          · rename_i h
            split
            · rfl
            · rename_i h0
              simp only [ne_eq, Decidable.not_not] at h0
              rw [h0, if_neg (fun e => h ⟨h0, e⟩)]
        · simp only [if_neg k3]
          simp
  rw [key]
  by_cases h0 : actE B.2.2 x = 0
  · simp only [h0, ne_eq, not_true_eq_false, if_false]
    split
    · simp
    · simp
  · simp only [ne_eq, h0, not_false_eq_true, if_true]

set_option maxHeartbeats 800000 in
set_option maxRecDepth 100000 in
theorem taken_any (E : Nat → Addr) (p h q c : Nat) (f : List UInt8 → Option Nat) (m : StkV) (x : EntV) (w : World) (cp : w.cell? ⟨p, 2, none⟩ = some (.map (some h))) (hf : MapF eNat w h f) (hS : StkP w q c m) (hI : StkI m) (hpc : p ≠ c) (hhc : h ≠ c) (hG : ∀ W, But c w W → StkG E W) :
    Calls Tryz.prog 100 #[.pointer (some ⟨p, 0, none⟩), .pointer (some ⟨q, 0, none⟩), .agg (encEnt x).toArray] w fun e w' => e = .returned (errOf E (takenE m ((f x.2.2.1.1).getD 0) x)) ∧ StkP w' q c (takeM m x.2.2.2.1 x.2.2.1.1 x.2.2.2.2.2) ∧ But c w w' := by
  have b0 := below_one w (.cells (encEnt x).toArray 49)
  have hrow := heap_alloc_new w (.cells (encEnt x).toArray 49)
  have hcl := hS.lt.2
  have cp0 := (b0.cell (p := ⟨p, 2, none⟩) (lt_of_cell cp)).trans cp
  have hpl := lt_of_cell cp
  have HT := Lib.hid (fun W (k : StkP W q c m) g => takeStock_P E hI x.2.2.2.1 x.2.2.1.1 x.2.2.2.2.2 W k g)
  have HO := Lib.hid (fun W (k : StkP W q c (takeM m x.2.2.2.1 x.2.2.1.1 x.2.2.2.2.2)) => ofStock_P (hI.take x.2.2.2.1 x.2.2.1.1 x.2.2.2.2.2) x.2.2.1.1 W k)
  have HL := Lib.hid (fun W (k : MapF eNat W h f) => k.look (P := Tryz.prog) (t := 109) (kt := 9) (by kernel_rfl) Tryz.underlying109 (zeroIntE W) x.2.2.1.1 false)
  have HF := Lib.hid (hf.below b0)
  have HS := Lib.hid (hS.below b0)
  have HG := Lib.hid hG
  obtain ⟨r, hr⟩ : ∃ r, r = takenE m ((f x.2.2.1.1).getD 0) x := ⟨_, rfl⟩
  rw [← hr]
  unfold takenE at hr
  have HR := Lib.hid hr
  have hlo : (encEnt x)[3]? = some (.string ⟨x.2.2.1.1.toArray⟩) := rfl
  have hn : (encEnt x)[13]? = some (.int .i64 x.2.2.2.2.2) := rfl
  have hfr := Lib.hid (fun (W : World) (b : Nat) (h : Lies W b 0 (encEnt x)) => ent_from h)
  have hpl3 : (encPlace x.2.2.2.1).length = 3 := rfl
  have B0 := Lib.hid b0
  clear hr hf hS hG b0 cp
  generalize takeM m x.2.2.2.1 x.2.2.1.1 x.2.2.2.2.2 = m1 at *
  generalize takeE m x.2.2.2.1 x.2.2.1.1 x.2.2.2.2.2 = te at *
  generalize ofM m1 x.2.2.1.1 = o at HO HR
  generalize (f x.2.2.1.1).getD 0 = hd at HL HR
  simp only [eNat, Bool.false_eq_true, if_false] at HL
  generalize x.2.2.1.1 = id at *
  generalize x.2.2.2.2.2 = n at *
  generalize encPlace x.2.2.2.1 = LP at *
  generalize encEnt x = LX at *
  go_enter Tryz.func100, Tryz.ntmps100
  go_upto_region 1 with fail
  generalize w.alloc (.cells LX.toArray 49) = W0 at hrow cp0 HF HS B0 ⊢
  have e3 : W0.cell? ⟨w.heap.size, 3, none⟩ = some (.string ⟨id.toArray⟩) := (cell_of_row _ _ _ _ _ _ hrow).trans (by simpa using hlo)
  have e13 : W0.cell? ⟨w.heap.size, 13, none⟩ = some (.int .i64 n) := (cell_of_row _ _ _ _ _ _ hrow).trans (by simpa using hn)
  have HFR := Lib.hid (hfr.out W0 _ (Lies.row _ hrow))
  clear hfr hrow hlo hn
  go_wp2_with (refine wpList_load_at rfl 40 _ rfl w.heap.size 7 rfl LP HFR.out _ Tryz.underlying40 rfl (by rw [hpl3]; kernel_rfl) ?_)
  refine (HT.out W0 HS.out (HG.out _ (But.of_below B0.out))).mono ?_
  rintro e w2 ⟨rfl, hS2, t2⟩
  have cp2 : w2.cell? ⟨p, 2, none⟩ = some (.map (some h)) := (World.cell?_of_block (t2.block p (lt_of_cell cp0) hpc)).trans cp0
  have hf2 := HF.out.keep (t2.block h HF.out.lt hhc)
  have HF2 := Lib.hid hf2
  have HS2 := Lib.hid hS2
  have B2 := Lib.hid ((But.of_below B0.out).trans t2)
  have e32 : w2.cell? ⟨w.heap.size, 3, none⟩ = some (.string ⟨id.toArray⟩) := (World.cell?_of_block (t2.block w.heap.size (lt_of_cell e3) (Nat.ne_of_gt hcl))).trans e3
  clear e3 e13 cp0 HF HS hS2 t2 hf2 HT HFR
  by_cases hte : te = 0
  · have HR0 := Lib.hid (HR.out.trans (if_neg (by simp [hte])))
    subst hte
    rw [errOf_zero]
    have hl := HL.out w2.drew HF2.out
    have cpd : w2.drew.cell? ⟨p, 2, none⟩ = some (.map (some h)) := cp2
    have hfd : MapF eNat w2.drew h f := HF2.out
    have HK : Hid (∀ W, Below w2.drew.heap.size w2.drew W → W.cell? ⟨p, 2, none⟩ = some (.map (some h)) ∧ (Instr.lookup 109 (.map (some h)) (.string ⟨id.toArray⟩) false).run Tryz.prog W = .ok (.int .i64 (hd : Nat)) W) := fun W bb => ⟨(bb.cell (p := ⟨p, 2, none⟩) (lt_of_cell cpd)).trans cpd, HL.out W (hfd.below bb)⟩
    clear cpd hfd
    go_wp2_with fail
    go_region_held3 (fun W => W.cell? ⟨p, 2, none⟩ = some (.map (some h)) ∧ (Instr.lookup 109 (.map (some h)) (.string ⟨id.toArray⟩) false).run Tryz.prog W = .ok (.int .i64 (hd : Nat)) W)
      (first | exact ⟨cp2, hl⟩ | exact HK.out _ bb | go_keep)
      (first | (go_at_call 22; refine (HO.out w2.drew HS2.out).mono ?_; rintro e v ⟨rfl, bb⟩))
    all_goals
      have B3 := Lib.hid (B2.out.drew.trans (But.of_below bb))
      have HS3 := Lib.hid ((show StkP w2.drew q c m1 from HS2.out).below bb)
      have hsh := (HG.out v B3.out).short
      unfold ErrAt at hsh
      clear bb hl cp2 HF2 HS2
      by_cases ho : o < hd
      · have HR1 := Lib.hid (HR0.out.trans (if_pos ho))
        go_wp2_with fail
        go_ret
        rw [HR1.out]
        exact ⟨rfl, HS3.out, B3.out⟩
      · have HR1 := Lib.hid (HR0.out.trans (if_neg ho))
        go_wp2_with fail
        go_ret
        rw [HR1.out]
        exact ⟨rfl, HS3.out, B3.out⟩
  · have HR0 := Lib.hid (HR.out.trans (if_pos hte))
    rw [errOf_pos _ _ hte]
    go_wp2_with fail
    go_ret
    rw [HR0.out, errOf_pos _ _ hte]
    exact ⟨rfl, HS2.out, B2.out⟩
end Go.Proofs.YtgllddebodfhkaaGreatDoor
namespace Go.Proofs.YtgllddebodfhkaaGreatDoor
open Go.RowKit Go.Sort Go.Proofs

theorem But.cellAt {b : Nat} {w w' : World} (h : But b w w') {a : Addr} {v : Value} (hc : w.cell? a = some v) (hne : a.block ≠ b) : w'.cell? a = some v := (World.cell?_of_block (h.block _ (lt_of_cell hc) hne)).trans hc
theorem But.row {b : Nat} {w w' : World} (h : But b w w') {k : Nat} {o : Obj} (hc : w.heap[k]? = some o) (hne : k ≠ b) : w'.heap[k]? = some o := (h.block _ (row_lt hc) hne).trans hc
theorem But2.row {p b : Nat} {w w' : World} (h : But2 p b w w') {k : Nat} {o : Obj} (hc : w.heap[k]? = some o) (h1 : k ≠ p) (hne : k ≠ b) : w'.heap[k]? = some o := (h.block _ (row_lt hc) h1 hne).trans hc
theorem row_below {B : Nat} {w w' : World} (h : Below B w w') {k : Nat} {o : Obj} (hc : w.heap[k]? = some o) (hk : k < B) : w'.heap[k]? = some o := (h.block _ hk).trans hc
end Go.Proofs.YtgllddebodfhkaaGreatDoor
