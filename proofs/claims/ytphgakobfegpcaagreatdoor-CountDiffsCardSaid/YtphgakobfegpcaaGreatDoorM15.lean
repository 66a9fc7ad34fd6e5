/- Parts of a text, plainly. Texts cut by a byte, plainly: strings.Split's answer and the document's. Slices of strings, as a walk reads them; the same texts? strings.Split at one byte, walked. Lots read: lot.Read, the document's ReadLot. Places read: place.Read. The document's Cut, walked. Rows of cells, as walks read them. Places read by the document: ReadPlace. A line's words; a line read by the document: ReadLine. A stock read, plainly: pieces of a text, line by line. -/
import Derived.Lib.SplitLaws
import Derived.Laws.AppendOwn
import Derived.Deep.AppendLies
import Derived.Test.YtphgakobfegpcaaGreatDoorM01
import Derived.Test.YtphgakobfegpcaaGreatDoorM03
import Derived.Test.YtphgakobfegpcaaGreatDoorM05
import Derived.Test.YtphgakobfegpcaaGreatDoorM06
import Derived.Test.YtphgakobfegpcaaGreatDoorM08
import Derived.Test.YtphgakobfegpcaaGreatDoorM09
import Derived.Test.YtphgakobfegpcaaGreatDoorM10
import Derived.Test.YtphgakobfegpcaaGreatDoorM14
namespace Go.Proofs.YtphgakobfegpcaaGreatDoor
open Go.RowKit

theorem ext_data (s : ByteArray) (l : List UInt8) (h : bts s = l) : s = ⟨l.toArray⟩ := by
  apply ByteArray.ext
  rw [← h]
  simp [bts]
theorem bts_extract (s : ByteArray) (i j : Nat) : bts (s.extract i j) = ((bts s).take j).drop i := by
  show (s.extract i j).data.toList = _
  rw [ByteArray.data_extract, Array.toList_extract, List.extract_eq_take_drop, List.drop_take]
  rfl
theorem _root_.List.drop_take_comm' (l : List UInt8) (i j : Nat) : (l.drop i).take (j - i) = (l.take j).drop i := by rw [List.drop_take]
end Go.Proofs.YtphgakobfegpcaaGreatDoor
namespace Go.Proofs.YtphgakobfegpcaaGreatDoor
open Go.RowKit

/-- Pieces between a byte. -/
def splitL (c : UInt8) : List UInt8 → List (List UInt8)
  | [] => [[]]
  | x :: r => if x = c then [] :: splitL c r else match splitL c r with
    | [] => [[x]]
    | p :: q => (x :: p) :: q
theorem splitL_ne (c : UInt8) (l : List UInt8) : splitL c l ≠ [] := by
  cases l with
  | nil => simp [splitL]
  | cons x r =>
    rw [splitL]
    split
    · simp
    · split <;> simp
theorem splitL_none {c : UInt8} {l : List UInt8} (h : c ∉ l) : splitL c l = [l] := by
  induction l with
  | nil => rfl
  | cons x r ih =>
    rw [splitL, if_neg (fun e => h (by rw [e]; exact List.mem_cons_self)), ih (fun e => h (List.mem_cons_of_mem _ e))]
theorem splitL_at {c : UInt8} (a b : List UInt8) (h : c ∉ a) : splitL c (a ++ c :: b) = a :: splitL c b := by
  induction a with
  | nil => rw [List.nil_append, splitL, if_pos rfl]
  | cons x r ih =>
    rw [List.cons_append, splitL, if_neg (fun e => h (by rw [e]; exact List.mem_cons_self)), ih (fun e => h (List.mem_cons_of_mem _ e))]
theorem splitL_snoc_sep (c : UInt8) (l : List UInt8) : splitL c (l ++ [c]) = splitL c l ++ [[]] := by
  induction l with
  | nil => simp [splitL]
  | cons x r ih =>
    rw [List.cons_append, splitL, splitL, ih]
    by_cases h : x = c
    · rw [if_pos h, if_pos h]; rfl
    · rw [if_neg h, if_neg h]
      cases hs : splitL c r with
      | nil => exact absurd hs (splitL_ne c r)
      | cons p q => rfl
theorem splitL_snoc {c x : UInt8} (l : List UInt8) (hx : x ≠ c) (out : List (List UInt8)) (cur : List UInt8) (h : splitL c l = out ++ [cur]) : splitL c (l ++ [x]) = out ++ [cur ++ [x]] := by
  induction l generalizing out cur with
  | nil =>
    have : out = [] ∧ cur = [] := by
      cases out with
      | nil => simpa [splitL] using h
      | cons p q => simp [splitL] at h
    rw [this.1, this.2]
    simp [splitL, hx]
  | cons y r ih =>
    rw [List.cons_append, splitL]
    rw [splitL] at h
    by_cases hy : y = c
    · rw [if_pos hy] at h ⊢
      cases out with
      | nil =>
        exfalso
        have := congrArg List.length h
        have h2 := List.length_pos_iff.2 (splitL_ne c r)
        simp at this
        exact splitL_ne c r this
      | cons p q =>
        simp only [List.cons_append, List.cons.injEq] at h
        rw [ih q cur h.2, h.1]; rfl
    · rw [if_neg hy] at h ⊢
      cases hs : splitL c r with
      | nil => exact absurd hs (splitL_ne c r)
      | cons p q =>
        rw [hs] at h
        cases out with
        | nil =>
          simp only [List.nil_append, List.cons.injEq] at h
          obtain ⟨rfl, rfl⟩ := h
          rw [ih [] p (by rw [hs]; rfl)]; rfl
        | cons p' q' =>
          simp only [List.cons_append, List.cons.injEq] at h
          obtain ⟨rfl, h2⟩ := h
          rw [ih (p :: q') cur (by rw [hs, h2]; rfl)]; rfl

theorem index_miss {l : List UInt8} {c : UInt8} (h : c ∉ l) : Lib.index l [c] = -1 := Lib.index_none (fun j _ => by
  rw [← Bool.not_eq_true, occ_one]
  intro hj
  exact h (List.mem_of_getElem? hj))
theorem index_hit {a b : List UInt8} {c : UInt8} (h : c ∉ a) : Lib.index (a ++ c :: b) [c] = (a.length : Nat) := Lib.index_first (by simp) ((occ_one _ _ _).2 (by simp)) (fun j hj => by
  rw [← Bool.not_eq_true, occ_one]
  intro hh
  rw [List.getElem?_append_left hj] at hh
  exact h (List.mem_of_getElem? hh))
theorem splitK_is (c : UInt8) (n : Nat) : ∀ l : List UInt8, l.length ≤ n → Lib.splitK [c] 0 (l.count c) l = splitL c l := by
  induction n with
  | zero =>
    intro l hl
    obtain rfl := List.eq_nil_of_length_eq_zero (Nat.le_zero.1 hl)
    rfl
  | succ n ih =>
    intro l hl
    by_cases h : c ∈ l
    · obtain ⟨a, b, rfl, ha⟩ := List.eq_append_cons_of_mem h
      have hcount : (a ++ c :: b).count c = b.count c + 1 := by
        rw [List.count_append, List.count_cons_self, List.count_eq_zero.2 ha, Nat.zero_add]
      rw [hcount, Lib.splitK, index_hit ha, if_neg (by simp), splitL_at a b ha]
      have h1 : ((a.length : Nat) : Int).toNat = a.length := by omega
      rw [h1, Nat.add_zero, List.take_left]
      have h2 : (a ++ c :: b).drop (a.length + [c].length) = b := by
        rw [← List.drop_drop, List.drop_left]; rfl
      rw [h2, ih b (by simp at hl; omega)]
    · rw [List.count_eq_zero.2 h, splitL_none h]; rfl
theorem splitB_is (s : ByteArray) (c : UInt8) : (Lib.splitB ⟨#[c]⟩ 0 (Lib.countB s ⟨#[c]⟩) s).map (·.data.toList) = splitL c (bts s) := by
  rw [Lib.splitB_data]
  have : Lib.countB s ⟨#[c]⟩ = (bts s).count c := by
    show Lib.count s.data.toList [c] = _
    rw [Lib.count_one]; rfl
  rw [this]
  exact splitK_is c _ (bts s) (Nat.le_refl _)
end Go.Proofs.YtphgakobfegpcaaGreatDoor
namespace Go.Proofs.YtphgakobfegpcaaGreatDoor
open Go.RowKit

/-- The slice at A reads as the texts xs. -/
def StrsAt (w : World) (A : Option Addr) (xs : List (List UInt8)) : Prop :=
  xs = [] ∨ ∃ b o, A = some ⟨b, o, none⟩ ∧ b < w.heap.size ∧ ∀ i (h : i < xs.length), w.cell? ⟨b, o + i, none⟩ = some (.string ⟨xs[i].toArray⟩)
theorem StrsAt.below {w w' : World} {A : Option Addr} {xs : List (List UInt8)} (h : StrsAt w A xs) (hb : Below w.heap.size w w') : StrsAt w' A xs := by
  rcases h with h | ⟨b, o, h1, h2, h3⟩
  · exact .inl h
  · exact .inr ⟨b, o, h1, Nat.lt_of_lt_of_le h2 hb.size, fun i hi => (hb.cell h2).trans (h3 i hi)⟩
def strVals (xs : List (List UInt8)) : List Value := xs.map fun x => .string ⟨x.toArray⟩
theorem strVals_length (xs : List (List UInt8)) : (strVals xs).length = xs.length := by simp [strVals]
theorem StrsAt.of_own {w : World} {B : Nat} {v : Value} {xs : List (List UInt8)} (h : w.ownsRow B 9 1 v xs.length (strVals xs)) : ∃ A cap, v = .slice A xs.length cap ∧ StrsAt w A xs ∧ ∀ a, A = some a → B ≤ a.block := by
  rcases h.2 with ⟨rfl, h0⟩ | ⟨g, cap, cur, rfl, hB, hg, _, _, _, ht⟩
  · obtain rfl := List.eq_nil_of_length_eq_zero h0
    exact ⟨_, _, rfl, .inl rfl, fun a ha => by cases ha⟩
  · refine ⟨_, _, rfl, .inr ⟨g, 0, rfl, ?_, fun i hi => ?_⟩, fun a ha => by cases ha; exact hB⟩
    · rcases Nat.lt_or_ge g w.heap.size with hl | hl
      · exact hl
      · rw [Array.getElem?_eq_none hl] at hg; cases hg
    · rw [cell_of_row w g _ cur _ _ hg, Nat.zero_add, ← Array.getElem?_toList, ← List.getElem?_take_of_lt (l := cur.toList) (show i < xs.length * 1 by omega), ht]
      simp [strVals, List.getElem?_eq_getElem hi]

theorem stringInfo1 : (Tryz.prog.info? 9).map (fun i => (i.zero, i.size, i.bytes)) = some (some (.string ⟨#[]⟩), 1, 16) := by kernel_rfl

/-- Two lists are alike up to k. -/
theorem alike_step {xs ys : List (List UInt8)} (k : Nat) (h1 : k < xs.length) (h2 : k < ys.length) (h : xs.take k = ys.take k) (he : xs[k] = ys[k]) : xs.take (k + 1) = ys.take (k + 1) := by
  rw [List.take_succ_eq_append_getElem h1, List.take_succ_eq_append_getElem h2, h, he]

set_option maxHeartbeats 800000 in
theorem sameTexts_any (A A' : Option Addr) (c c' : Nat) (xs ys : List (List UInt8)) (w : World) (hx : StrsAt w A xs) (hy : StrsAt w A' ys) (hl : xs.length ≤ 1000000000) :
    Calls Tryz.prog 26 #[.slice A xs.length c, .slice A' ys.length c'] w fun e w' => e = .returned (.bool (decide (xs = ys))) ∧ Below w.heap.size w w' := by
  by_cases hlen : xs.length = ys.length
  · have HL := Lib.hid hlen
    have hb0 : decide (xs.length = ys.length) = true := by simpa using hlen
    have HX := Lib.hid hx
    have HY := Lib.hid hy
    clear hx hy hlen hb0
    obtain ⟨n, hn⟩ : ∃ n, n = xs.length := ⟨_, rfl⟩
    have e2 : ys.length = n := by rw [hn]; exact HL.out.symm
    have HN := Lib.hid hn
    have HN2 := Lib.hid e2
    rw [← hn] at hl
    rw [e2, ← hn]
    clear hn e2
    go_enter Tryz.func26, Tryz.ntmps26
    go_wp2
    go_loopw [5] (fun i wr => ∃ k : Nat, k ≤ n ∧ i = .int .i64 k ∧ xs.take k = ys.take k ∧ ∃ m, wr = w.drewN m) (fun i _ => n - (intOf i).toNat)
    case atStart => exact ⟨0, by omega, rfl, rfl, 0, rfl⟩
    case round =>
      obtain ⟨k, hk, rfl, hek, m, rfl⟩ := hrel
      have HE := Lib.hid hek
      clear hek
      by_cases hlt : k < n
      · have hkx : k < xs.length := by rw [← HN.out]; exact hlt
        have hky : k < ys.length := by rw [HN2.out]; exact hlt
        obtain ⟨bx, ox, rfl, lx, cx⟩ := HX.out.resolve_left (fun h => by rw [h] at hkx; simp at hkx)
        obtain ⟨by', oy, rfl, ly, cy⟩ := HY.out.resolve_left (fun h => by rw [h] at hky; simp at hky)
        have dx := cx k hkx
        have dy := cy k hky
        clear cx cy
        have i1 : (k : Int) < (n : Int) := by omega
        have i0 : (0 : Int) ≤ (k : Int) := by omega
        by_cases he : xs[k] = ys[k]
        · have HS := Lib.hid (alike_step k hkx hky HE.out he)
          rw [← he] at dy
          generalize xs[k] = x at dx dy
          clear he
          go_wp2_with fail
          go_quiet (fail)
          go_wp2_with fail
          go_roundw
          case rel => exact ⟨k + 1, by omega, by go_num, HS.out, _, rfl⟩
          case measure => simp [intOf]; omega
        · have HNE := Lib.hid (show ¬ xs = ys from fun h => he (by simp [h]))
          have hb : (xs[k] == ys[k]) = false := by simpa using he
          clear he
          generalize xs[k] = x at dx hb
          generalize ys[k] = y at dy hb
          go_wp2_with fail
          go_quiet (fail)
          go_wp2_with fail
          go_ret
          exact ⟨by rw [decide_eq_false HNE.out]; rfl, below_drewN (below_drewN (Below.refl _ _) _) _⟩
      · obtain rfl : k = n := by omega
        have hxy : xs = ys := by
          have := HE.out
          rw [List.take_of_length_le (by rw [← HN.out]; exact Nat.le_refl _), List.take_of_length_le (by rw [HN2.out]; exact Nat.le_refl _)] at this
          exact this
        go_wp2_with fail
        go_ret
        exact ⟨by rw [decide_eq_true hxy]; rfl, below_drewN (Below.refl _ _) _⟩
  · have hd : decide (xs = ys) = false := by
      simp only [decide_eq_false_iff_not]
      intro h
      exact hlen (by rw [h])
    rw [hd]
    clear hd
    generalize xs.length = n at hlen
    generalize ys.length = m at hlen
    have hb0 : ¬ (n : Int) = (m : Int) := by omega
    go_enter Tryz.func26, Tryz.ntmps26
    go_wp2
    go_ret
    exact ⟨rfl, Below.refl _ _⟩
end Go.Proofs.YtphgakobfegpcaaGreatDoor
namespace Go.Proofs.YtphgakobfegpcaaGreatDoor
open Go.RowKit

/-- What a call that hands back texts leaves. -/
def TextsEnds (xs : List (List UInt8)) (w : World) (e : Ending) (w' : World) : Prop :=
  ∃ A cap, e = .returned (.slice A xs.length cap) ∧ StrsAt w' A xs ∧ (∀ a, A = some a → w.heap.size ≤ a.block) ∧ Below w.heap.size w w'

end Go.Proofs.YtphgakobfegpcaaGreatDoor
namespace Go.Proofs.YtphgakobfegpcaaGreatDoor
open Go.RowKit Go.Sort Go.Proofs

def zeroLot : LotV := ([], [], 0, 0)
/-- What reading a lot's words answers. -/
def lotWords (ws : List (List UInt8)) : LotV × Nat :=
  match ws with
  | [a, b, c, d] => match numQ c 9, numQ d 9 with
    | some u, some v => if lotE (a, b, (u : Int), (v : Int)) = 0 then ((a, b, (u : Int), (v : Int)), 0) else (zeroLot, lotE (a, b, (u : Int), (v : Int)))
    | _, _ => (zeroLot, 1)
  | _ => (zeroLot, 1)
theorem lotWords_len {ws : List (List UInt8)} (h : ws.length ≠ 4) : lotWords ws = (zeroLot, 1) := by
  unfold lotWords
  split
  · simp at h
  · rfl
theorem lotE_le (x : LotV) : lotE x ≤ 5 := by
  unfold lotE
  split
  · omega
  · split <;> omega
theorem lotWords_le (ws : List (List UInt8)) : (lotWords ws).2 ≤ 12 := by
  unfold lotWords
  split
  · split
    · rename_i u v _ _
      split
      · simp
      · exact Nat.le_trans (lotE_le _) (by omega)
    · simp
  · simp

theorem four {ws : List (List UInt8)} (h : ws.length = 4) : ∃ a b c d, ws = [a, b, c, d] := by
  match ws, h with
  | [a, b, c, d], _ => exact ⟨a, b, c, d, rfl⟩
theorem splitL_lens {c : UInt8} {l w : List UInt8} (h : w ∈ splitL c l) : w.length ≤ l.length := by
  induction l generalizing w with
  | nil => simp [splitL] at h; subst h; simp
  | cons x r ih =>
    rw [splitL] at h
    by_cases hx : x = c
    · rw [if_pos hx] at h
      rcases List.mem_cons.1 h with rfl | h
      · simp
      · have := ih h; simp; omega
    · rw [if_neg hx] at h
      cases hs : splitL c r with
      | nil => exact absurd hs (splitL_ne c r)
      | cons p q =>
        rw [hs] at h ih
        rcases List.mem_cons.1 h with rfl | h
        · have := ih (w := p) (by simp); simp; omega
        · have := ih (w := w) (by simp [h]); simp; omega

theorem strs4 {w : World} {A : Option Addr} {a b c d : List UInt8} (h : StrsAt w A [a, b, c, d]) : ∃ bl o, A = some ⟨bl, o, none⟩ ∧ bl < w.heap.size ∧ w.cell? ⟨bl, o, none⟩ = some (.string ⟨a.toArray⟩) ∧ w.cell? ⟨bl, o + 1, none⟩ = some (.string ⟨b.toArray⟩) ∧ w.cell? ⟨bl, o + 2, none⟩ = some (.string ⟨c.toArray⟩) ∧ w.cell? ⟨bl, o + 3, none⟩ = some (.string ⟨d.toArray⟩) := by
  obtain ⟨bl, o, h1, h2, h3⟩ := h.resolve_left (by simp)
  exact ⟨bl, o, h1, h2, h3 0 (by simp), h3 1 (by simp), h3 2 (by simp), h3 3 (by simp)⟩

end Go.Proofs.YtphgakobfegpcaaGreatDoor
namespace Go.Proofs.YtphgakobfegpcaaGreatDoor
open Go.RowKit Go.Sort Go.Proofs

def zeroPlace : PlaceV := ([], 0, 0)
/-- What reading a place's words answers. -/
def placeWords (ws : List (List UInt8)) : PlaceV × Nat :=
  match ws with
  | [a, c, d] => match numQ c 4, numQ d 4 with
    | some u, some v => if placeE (a, (u : Int), (v : Int)) = 0 then ((a, (u : Int), (v : Int)), 0) else (zeroPlace, placeE (a, (u : Int), (v : Int)))
    | _, _ => (zeroPlace, 1)
  | _ => (zeroPlace, 1)
theorem placeWords_len {ws : List (List UInt8)} (h : ws.length ≠ 3) : placeWords ws = (zeroPlace, 1) := by
  unfold placeWords
  split
  · simp at h
  · rfl
theorem placeE_le (x : PlaceV) : placeE x ≤ 5 := by
  unfold placeE
  split
  · omega
  · split <;> omega
theorem placeWords_le (ws : List (List UInt8)) : (placeWords ws).2 ≤ 12 := by
  unfold placeWords
  split
  · split
    · rename_i u v _ _
      split
      · simp
      · exact Nat.le_trans (placeE_le _) (by omega)
    · simp
  · simp
theorem three {ws : List (List UInt8)} (h : ws.length = 3) : ∃ a b c, ws = [a, b, c] := by
  match ws, h with
  | [a, b, c], _ => exact ⟨a, b, c, rfl⟩
theorem strs3 {w : World} {A : Option Addr} {a b c : List UInt8} (h : StrsAt w A [a, b, c]) : ∃ bl o, A = some ⟨bl, o, none⟩ ∧ bl < w.heap.size ∧ w.cell? ⟨bl, o, none⟩ = some (.string ⟨a.toArray⟩) ∧ w.cell? ⟨bl, o + 1, none⟩ = some (.string ⟨b.toArray⟩) ∧ w.cell? ⟨bl, o + 2, none⟩ = some (.string ⟨c.toArray⟩) := by
  obtain ⟨bl, o, h1, h2, h3⟩ := h.resolve_left (by simp)
  exact ⟨bl, o, h1, h2, h3 0 (by simp), h3 1 (by simp), h3 2 (by simp)⟩

end Go.Proofs.YtphgakobfegpcaaGreatDoor
namespace Go.Proofs.YtphgakobfegpcaaGreatDoor
open Go.RowKit

/-- The texts lie in a slice that has room for them. -/
def TextsCap (xs : List (List UInt8)) (w : World) (e : Ending) (w' : World) : Prop :=
  ∃ A cap, e = .returned (.slice A xs.length cap) ∧ StrsAt w' A xs ∧ (∀ a, A = some a → w.heap.size ≤ a.block) ∧ Below w.heap.size w w' ∧ xs.length ≤ cap
theorem own_cap {w : World} {B e size n cap : Nat} {A : Option Addr} {v : Value} {xs : List Value} (h : w.ownsRow B e size v n xs) (hv : v = .slice A n cap) : n ≤ cap := by
  subst hv
  rcases h.2 with ⟨h0, h1⟩ | ⟨g, cap', cur, h1, _, _, h2, _⟩
  · omega
  · cases h1
    exact h2
end Go.Proofs.YtphgakobfegpcaaGreatDoor
namespace Go.Proofs.YtphgakobfegpcaaGreatDoor
open Go.RowKit

theorem rowC {w : World} {b : Nat} {cs : Array Value} {t : TypeId} (h : w.heap[b]? = some (.cells cs t (0, 0))) (j : Nat) : w.cell? ⟨b, j, none⟩ = cs[j]? := cell_of_row _ _ _ _ _ _ h
theorem rowF {w : World} {b : Nat} {cs : Array Value} {t : TypeId} (h : w.heap[b]? = some (.cells cs t (0, 0))) (j : Nat) : w.frozen? ⟨b, j, none⟩ = false := frozen_of_row _ _ _ _ _ h
theorem row3f {w : World} {b : Nat} {u v x : Value} {t : TypeId} (h : w.heap[b]? = some (.cells #[u, v, x] t (0, 0))) :
    (w.cell? ⟨b, 0, none⟩ = some u ∧ w.cell? ⟨b, 1, none⟩ = some v ∧ w.cell? ⟨b, 2, none⟩ = some x) ∧ w.frozen? ⟨b, 0, none⟩ = false ∧ w.frozen? ⟨b, 1, none⟩ = false ∧ w.frozen? ⟨b, 2, none⟩ = false :=
  ⟨⟨rowC h 0, rowC h 1, rowC h 2⟩, rowF h 0, rowF h 1, rowF h 2⟩
theorem row5f {w : World} {b : Nat} {u v x y z : Value} {t : TypeId} (h : w.heap[b]? = some (.cells #[u, v, x, y, z] t (0, 0))) :
    (w.cell? ⟨b, 0, none⟩ = some u ∧ w.cell? ⟨b, 1, none⟩ = some v ∧ w.cell? ⟨b, 2, none⟩ = some x ∧ w.cell? ⟨b, 3, none⟩ = some y ∧ w.cell? ⟨b, 4, none⟩ = some z) ∧ w.frozen? ⟨b, 0, none⟩ = false ∧ w.frozen? ⟨b, 1, none⟩ = false ∧ w.frozen? ⟨b, 2, none⟩ = false ∧ w.frozen? ⟨b, 3, none⟩ = false ∧ w.frozen? ⟨b, 4, none⟩ = false :=
  ⟨⟨rowC h 0, rowC h 1, rowC h 2, rowC h 3, rowC h 4⟩, rowF h 0, rowF h 1, rowF h 2, rowF h 3, rowF h 4⟩

/-- A struct stored into a box of its own. -/
theorem wpList_store_box {P : Program} {ops : Array Oper} {rest : List Oper} {o : Oper} {a : Act} {w : World} {Q : Exit → Act → World → Prop} (hgd : o.guard = none) (ty : TypeId) (x y : Operand) (ho : o.op = .store ty x y) (b : Nat) (vs : List Value) (hx : a.eval x = .pointer (some ⟨b, 0, none⟩)) (hy : a.eval y = .agg vs.toArray)
    (t : TypeId) (L : List Value) (hb : w.heap[b]? = some (.cells L.toArray t (0, 0))) (hi : (P.info? ty).map (·.size) = some vs.length) (hl : L.length = vs.length) (h1 : ∀ v ∈ vs, v.oneCell' = true)
    (h : ∀ w', w'.heap[b]? = some (.cells vs.toArray t (0, 0)) → Turned b w w' → wpList P ops Q rest (a.put o.dst undef) w') : wpList P ops Q (o :: rest) a w :=
  wpList_store_at hgd ty x y ho b 0 vs hx hy t L hb hi (by omega) h1 fun w' hr ht => h w' (by rw [hr, Nat.zero_add, List.drop_of_length_le (Nat.le_of_eq hl)]; simp) ht
end Go.Proofs.YtphgakobfegpcaaGreatDoor
namespace Go.Proofs.YtphgakobfegpcaaGreatDoor
open Go.RowKit Go.Sort Go.Proofs

theorem placeWords_cases (a c d : List UInt8) : ((refNum c 4 < 0 ∨ ¬ refNum c 4 < 0 ∧ refNum d 4 < 0) ∧ placeWords [a, c, d] = (zeroPlace, 1)) ∨ (¬ refNum c 4 < 0 ∧ ¬ refNum d 4 < 0 ∧ placeWords [a, c, d] = if placeE (a, refNum c 4, refNum d 4) = 0 then ((a, refNum c 4, refNum d 4), 0) else (zeroPlace, placeE (a, refNum c 4, refNum d 4))) := by
  rw [refNum_eq c 4 (by omega), refNum_eq d 4 (by omega)]
  rw [show placeWords [a, c, d] = match numQ c 4, numQ d 4 with
    | some u, some v => if placeE (a, (u : Int), (v : Int)) = 0 then ((a, (u : Int), (v : Int)), 0) else (zeroPlace, placeE (a, (u : Int), (v : Int)))
    | _, _ => (zeroPlace, 1) from rfl]
  cases numQ c 4 with
  | none => exact .inl ⟨.inl (by simp), rfl⟩
  | some u =>
    cases numQ d 4 with
    | none => exact .inl ⟨.inr ⟨by simp, by simp⟩, rfl⟩
    | some v => exact .inr ⟨by simp, by simp, rfl⟩

end Go.Proofs.YtphgakobfegpcaaGreatDoor
namespace Go.Proofs.YtphgakobfegpcaaGreatDoor
open Go.RowKit Go.Sort Go.Proofs

def zeroLine : LineV := (([], 0, 0), [], 0)
/-- What reading a line's words answers. -/
def lineWords (ws : List (List UInt8)) : LineV × Nat :=
  match ws with
  | [a, b, c] => match numQ c 13 with
    | none => (zeroLine, 1)
    | some n => if (placeWords (splitL 45 a)).2 ≠ 0 then (zeroLine, (placeWords (splitL 45 a)).2) else if nameB b = false then (zeroLine, 5) else if wiB (n : Int) 1 1099511627776 = false then (zeroLine, 2) else (((placeWords (splitL 45 a)).1, b, (n : Int)), 0)
  | _ => (zeroLine, 1)
theorem lineWords_len {ws : List (List UInt8)} (h : ws.length ≠ 3) : lineWords ws = (zeroLine, 1) := by
  unfold lineWords
  split
  · simp at h
  · rfl
theorem lineWords_le (ws : List (List UInt8)) : (lineWords ws).2 ≤ 12 := by
  unfold lineWords
  split
  · rename_i a b c
    have := placeWords_le (splitL 45 a)
    split
    · simp
    · repeat' split
      all_goals first | exact this | simp
  · simp
theorem lineWords_none {a b c : List UInt8} (h : numQ c 13 = none) : lineWords [a, b, c] = (zeroLine, 1) := by
  show (match numQ c 13 with | none => (zeroLine, 1) | some n => _) = _
  rw [h]
theorem lineWords_some {a b c : List UInt8} {n : Nat} (h : numQ c 13 = some n) : lineWords [a, b, c] = if (placeWords (splitL 45 a)).2 ≠ 0 then (zeroLine, (placeWords (splitL 45 a)).2) else if nameB b = false then (zeroLine, 5) else if wiB (n : Int) 1 1099511627776 = false then (zeroLine, 2) else (((placeWords (splitL 45 a)).1, b, (n : Int)), 0) := by
  show (match numQ c 13 with | none => (zeroLine, 1) | some n => _) = _
  rw [h]

end Go.Proofs.YtphgakobfegpcaaGreatDoor
namespace Go.Proofs.YtphgakobfegpcaaGreatDoor
open Go.RowKit Go.Sort Go.Proofs

theorem placeWords_ok {ws : List (List UInt8)} (h : (placeWords ws).2 = 0) : placeE (placeWords ws).1 = 0 := by
  unfold placeWords at *
  split at h
  · split at h
    · split at h
      · rename_i h0; rw [if_pos h0]; exact h0
      · rename_i h0; exact absurd h h0
    · cases h
  · cases h
theorem lineWords_ok {ws : List (List UInt8)} (h : (lineWords ws).2 = 0) : placeE (lineWords ws).1.1 = 0 ∧ nameB (lineWords ws).1.2.1 = true ∧ wiB (lineWords ws).1.2.2 1 1099511627776 = true := by
  match ws with
  | [a, b, c] =>
    cases hq : numQ c 13 with
    | none => rw [lineWords_none hq] at h; cases h
    | some n =>
      rw [lineWords_some hq] at h ⊢
      by_cases h1 : (placeWords (splitL 45 a)).2 ≠ 0
      · rw [if_pos h1] at h; exact absurd h h1
      rw [if_neg h1] at h ⊢
      by_cases h2 : nameB b = false
      · rw [if_pos h2] at h; cases h
      rw [if_neg h2] at h ⊢
      by_cases h3 : wiB (n : Int) 1 1099511627776 = false
      · rw [if_pos h3] at h; cases h
      rw [if_neg h3]
      exact ⟨placeWords_ok (by omega), by simpa using h2, by simpa using h3⟩
  | [] => rw [lineWords_len (by simp)] at h; cases h
  | [_] => rw [lineWords_len (by simp)] at h; cases h
  | [_, _] => rw [lineWords_len (by simp)] at h; cases h
  | _ :: _ :: _ :: _ :: _ => rw [lineWords_len (by simp)] at h; cases h

/-- Lines as a map, in the order in which they came. -/
def toM (l : List LineV) : StkV := l.map fun x => ((x.1, x.2.1), x.2.2.toNat)
theorem toM_snoc (l : List LineV) (x : LineV) : toM (l ++ [x]) = toM l ++ [((x.1, x.2.1), x.2.2.toNat)] := by simp [toM]
/-- What reading has done so far. -/
structure RdI (l : List LineV) : Prop where
  inv : StkI (toM l)
  up : l.Pairwise fun x y => ltOf cfLine x y = true
  pos : ∀ x ∈ l, 0 ≤ x.2.2
theorem RdI.nil : RdI [] := ⟨StkI.nil, List.Pairwise.nil, by simp⟩
theorem back_toM {l : List LineV} (h : ∀ x ∈ l, 0 ≤ x.2.2) : (toM l).map lineOf = l := by
  induction l with
  | nil => rfl
  | cons x r ih =>
    have e : toM (x :: r) = ((x.1, x.2.1), x.2.2.toNat) :: toM r := rfl
    rw [e, List.map_cons, ih fun y hy => h y (List.mem_cons_of_mem _ hy)]
    have := h x List.mem_cons_self
    obtain ⟨p, q, n⟩ := x
    simp only [lineOf, List.cons.injEq, Prod.mk.injEq, true_and, and_true] at *
    omega
theorem RdI.lines {l : List LineV} (h : RdI l) : linesM (toM l) = l := by
  refine (lines_of h.inv.nodup (d := l) ?_ ?_).symm
  · rw [back_toM h.pos]
  · exact h.up.imp fun hxy => ltL_asym hxy
theorem RdI.len {l : List LineV} (h : RdI l) : l.length ≤ 200 := by
  have := h.inv.well.few
  simpa [toM] using this
theorem lt_irr {x y : LineV} (h : ltOf cfLine x y = true) : ¬ (x.1 = y.1 ∧ x.2.1 = y.2.1) := fun e => by
  have h1 := (cfLine_zero x y).2 e
  unfold ltOf at h
  rw [h1] at h
  exact absurd h (by decide)

/-- What a line of a text answers, behind these. -/
def rdE (d : List LineV) (t : List UInt8) : Nat :=
  if (lineWords (splitL 32 t)).2 ≠ 0 then (lineWords (splitL 32 t)).2
  else if (match d.getLast? with | some z => !ltOf cfLine z (lineWords (splitL 32 t)).1 | none => false) = true then 10
  else putE (toM d) (lineWords (splitL 32 t)).1.1 (lineWords (splitL 32 t)).1.2.1 (lineWords (splitL 32 t)).1.2.2
theorem rdE_le (d : List LineV) (t : List UInt8) : rdE d t ≤ 12 := by
  have h1 := lineWords_le (splitL 32 t)
  have h2 : ∀ m pl lot n, putE m pl lot n ≤ 12 := fun m pl lot n => by
    have h3 : placeE pl ≤ 12 := Nat.le_trans (placeE_le pl) (by omega)
    unfold putE
    repeat' split
    all_goals omega
  unfold rdE
  repeat' split
  all_goals first | exact h1 | exact h2 _ _ _ _ | omega
theorem getLast_lt {d : List LineV} (hp : d.Pairwise fun x y => ltOf cfLine x y = true) {z x : LineV} (hz : d.getLast? = some z) (hx : ltOf cfLine z x = true) : ∀ y ∈ d, ltOf cfLine y x = true := fun y hy => by
  obtain ⟨r, rfl⟩ := List.getLast?_eq_some_iff.1 hz
  rcases List.mem_append.1 hy with h | h
  · exact likeLine.swo.trans _ _ _ ((List.pairwise_append.1 hp).2.2 y h z (by simp)) hx
  · rw [List.mem_singleton.1 h]; exact hx
theorem RdI.next {d : List LineV} (h : RdI d) {x : LineV} (hx : ∀ z, d.getLast? = some z → ltOf cfLine z x = true) (hp : putE (toM d) x.1 x.2.1 x.2.2 = 0) : RdI (d ++ [x]) ∧ toM (d ++ [x]) = putM (toM d) x.1 x.2.1 x.2.2 := by
  have hall : ∀ y ∈ d, ltOf cfLine y x = true := by
    cases hl : d.getLast? with
    | none => rw [List.getLast?_eq_none_iff.1 hl]; simp
    | some z => exact getLast_lt h.up hl (hx z hl)
  have hnew : ∀ p ∈ toM d, p.1 ≠ (x.1, x.2.1) := fun p hp e => by
    obtain ⟨y, hy, rfl⟩ := List.mem_map.1 hp
    simp only [Prod.mk.injEq] at e
    exact lt_irr (hall y hy) e
  obtain ⟨-, -, h3, -⟩ := putE_zero hp
  have he : toM (d ++ [x]) = putM (toM d) x.1 x.2.1 x.2.2 := by
    unfold putM
    rw [if_pos hp, mput_new _ hnew, toM_snoc]
    have : atM (toM d) (x.1, x.2.1) = 0 := by unfold atM; rw [mget_none hnew]; rfl
    rw [this, Nat.zero_add]
  refine ⟨⟨by rw [he]; exact h.inv.put _ _ _, ?_, fun y hy => ?_⟩, he⟩
  · rw [List.pairwise_append]
    exact ⟨h.up, by simp, fun y hy z hz => by rw [List.mem_singleton.1 hz]; exact hall y hy⟩
  · rcases List.mem_append.1 hy with hy | hy
    · exact h.pos y hy
    · rw [List.mem_singleton.1 hy]; omega
theorem rdE_zero {d : List LineV} {t : List UInt8} (h : rdE d t = 0) : (lineWords (splitL 32 t)).2 = 0 ∧ (∀ z, d.getLast? = some z → ltOf cfLine z (lineWords (splitL 32 t)).1 = true) ∧ putE (toM d) (lineWords (splitL 32 t)).1.1 (lineWords (splitL 32 t)).1.2.1 (lineWords (splitL 32 t)).1.2.2 = 0 := by
  unfold rdE at h
  by_cases h1 : (lineWords (splitL 32 t)).2 ≠ 0
  · rw [if_pos h1] at h; exact absurd h h1
  rw [if_neg h1] at h
  refine ⟨by omega, ?_⟩
  cases hl : d.getLast? with
  | none =>
    rw [hl] at h
    exact ⟨(fun z hz => by cases hz), by simpa using h⟩
  | some z =>
    rw [hl] at h
    cases h2 : ltOf cfLine z (lineWords (splitL 32 t)).1 with
    | false => simp [h2] at h
    | true => exact ⟨(fun y hy => by cases hy; exact h2), by simpa [h2] using h⟩

/-- The rest of the pieces read: an error and where, or the lines. -/
def rdGo : List (List UInt8) → Nat → List LineV → (Nat × Nat) ⊕ List LineV
  | [], _, d => .inr d
  | [t], i, d => if t = [] then .inr d else .inl (1, i)
  | t :: u :: r, i, d => if rdE d t = 0 then rdGo (u :: r) (i + 1) (d ++ [(lineWords (splitL 32 t)).1]) else .inl (rdE d t, i)
theorem rdGo_ok {t : List UInt8} {q : List (List UInt8)} {i : Nat} {d : List LineV} (hq : q ≠ []) (h : rdE d t = 0) : rdGo (t :: q) i d = rdGo q (i + 1) (d ++ [(lineWords (splitL 32 t)).1]) := by
  cases q with
  | nil => exact absurd rfl hq
  | cons u r => rw [rdGo, if_pos h]
theorem rdGo_bad {t : List UInt8} {q : List (List UInt8)} {i : Nat} {d : List LineV} (hq : q ≠ []) (h : rdE d t ≠ 0) : rdGo (t :: q) i d = .inl (rdE d t, i) := by
  cases q with
  | nil => exact absurd rfl hq
  | cons u r => rw [rdGo, if_neg h]
theorem rdGo_inv : ∀ (ps : List (List UInt8)) (i : Nat) (d l : List LineV), RdI d → rdGo ps i d = .inr l → RdI l
  | [], _, d, l, h, e => by rw [rdGo] at e; injection e with e; rw [← e]; exact h
  | [t], i, d, l, h, e => by
    rw [rdGo] at e
    split at e
    · injection e with e; rw [← e]; exact h
    · cases e
  | t :: u :: r, i, d, l, h, e => by
    rw [rdGo] at e
    split at e
    · rename_i h0
      obtain ⟨h1, h2, h3⟩ := rdE_zero h0
      exact rdGo_inv (u :: r) _ _ l (h.next h2 h3).1 e
    · cases e
theorem rdGo_code : ∀ (ps : List (List UInt8)) (i : Nat) (d : List LineV) (c k : Nat), rdGo ps i d = .inl (c, k) → 1 ≤ c ∧ c ≤ 12 ∧ k < i + ps.length
  | [], _, d, c, k, e => by rw [rdGo] at e; cases e
  | [t], i, d, c, k, e => by
    rw [rdGo] at e
    split at e
    · cases e
    · injection e with e; cases e; simp
  | t :: u :: r, i, d, c, k, e => by
    rw [rdGo] at e
    split at e
    · have := rdGo_code (u :: r) _ _ c k e
      simp only [List.length_cons] at *
      omega
    · rename_i h0
      injection e with e
      cases e
      have := rdE_le d t
      simp only [List.length_cons]
      omega
end Go.Proofs.YtphgakobfegpcaaGreatDoor
