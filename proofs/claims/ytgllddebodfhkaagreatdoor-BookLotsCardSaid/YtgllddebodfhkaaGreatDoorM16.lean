/- Parts of a text, plainly. Texts cut by a byte, plainly: strings.Split's answer and the document's. Slices of strings, as a walk reads them; the same texts? strings.Split at one byte, walked. Lots read: lot.Read, the document's ReadLot. Places read: place.Read. The document's Cut, walked. -/
import Derived.Lib.SplitLaws
import Derived.Laws.AppendOwn
import Derived.Deep.AppendLies
import Derived.Test.YtgllddebodfhkaaGreatDoorM01
import Derived.Test.YtgllddebodfhkaaGreatDoorM03
import Derived.Test.YtgllddebodfhkaaGreatDoorM05
import Derived.Test.YtgllddebodfhkaaGreatDoorM09
import Derived.Test.YtgllddebodfhkaaGreatDoorM10
import Derived.Test.YtgllddebodfhkaaGreatDoorM15
namespace Go.Proofs.YtgllddebodfhkaaGreatDoor
open Go.RowKit

theorem ext_data (s : ByteArray) (l : List UInt8) (h : bts s = l) : s = ⟨l.toArray⟩ := by
  apply ByteArray.ext
  rw [← h]
  simp [bts]
theorem bts_extract (s : ByteArray) (i j : Nat) : bts (s.extract i j) = ((bts s).take j).drop i := by
  show (s.extract i j).data.toList = _
  rw [ByteArray.data_extract, Array.toList_extract, List.extract_eq_take_drop, List.drop_take]
  rfl
theorem _root_.List.drop_take_comm' (l : List UInt8) (i j : Nat) : (l.drop i).take (j - i) = (l.take j).drop i := by rw [List.drop_take]
end Go.Proofs.YtgllddebodfhkaaGreatDoor
namespace Go.Proofs.YtgllddebodfhkaaGreatDoor
open Go.RowKit

/-- Pieces between a byte. -/
def splitL (c : UInt8) : List UInt8 → List (List UInt8)
  | [] => [[]]
  | x :: r => if x = c then [] :: splitL c r else match splitL c r with
    | [] => [[x]]
    | p :: q => (x :: p) :: q
theorem splitL_ne (c : UInt8) (l : List UInt8) : splitL c l ≠ [] := by
  cases l with
  | nil => simp [splitL]
  | cons x r =>
    rw [splitL]
    split
    · simp
    · split <;> simp
theorem splitL_none {c : UInt8} {l : List UInt8} (h : c ∉ l) : splitL c l = [l] := by
  induction l with
  | nil => rfl
  | cons x r ih =>
    rw [splitL, if_neg (fun e => h (by rw [e]; exact List.mem_cons_self)), ih (fun e => h (List.mem_cons_of_mem _ e))]
theorem splitL_at {c : UInt8} (a b : List UInt8) (h : c ∉ a) : splitL c (a ++ c :: b) = a :: splitL c b := by
  induction a with
  | nil => rw [List.nil_append, splitL, if_pos rfl]
  | cons x r ih =>
    rw [List.cons_append, splitL, if_neg (fun e => h (by rw [e]; exact List.mem_cons_self)), ih (fun e => h (List.mem_cons_of_mem _ e))]
theorem splitL_snoc_sep (c : UInt8) (l : List UInt8) : splitL c (l ++ [c]) = splitL c l ++ [[]] := by
  induction l with
  | nil => simp [splitL]
  | cons x r ih =>
    rw [List.cons_append, splitL, splitL, ih]
    by_cases h : x = c
    · rw [if_pos h, if_pos h]; rfl
    · rw [if_neg h, if_neg h]
      cases hs : splitL c r with
      | nil => exact absurd hs (splitL_ne c r)
      | cons p q => rfl
theorem splitL_snoc {c x : UInt8} (l : List UInt8) (hx : x ≠ c) (out : List (List UInt8)) (cur : List UInt8) (h : splitL c l = out ++ [cur]) : splitL c (l ++ [x]) = out ++ [cur ++ [x]] := by
  induction l generalizing out cur with
  | nil =>
    have : out = [] ∧ cur = [] := by
      cases out with
      | nil => simpa [splitL] using h
      | cons p q => simp [splitL] at h
    rw [this.1, this.2]
    simp [splitL, hx]
  | cons y r ih =>
    rw [List.cons_append, splitL]
    rw [splitL] at h
    by_cases hy : y = c
    · rw [if_pos hy] at h ⊢
      cases out with
      | nil =>
        exfalso
        have := congrArg List.length h
        have h2 := List.length_pos_iff.2 (splitL_ne c r)
        simp at this
        exact splitL_ne c r this
      | cons p q =>
        simp only [List.cons_append, List.cons.injEq] at h
        rw [ih q cur h.2, h.1]; rfl
    · rw [if_neg hy] at h ⊢
      cases hs : splitL c r with
      | nil => exact absurd hs (splitL_ne c r)
      | cons p q =>
        rw [hs] at h
        cases out with
        | nil =>
          simp only [List.nil_append, List.cons.injEq] at h
          obtain ⟨rfl, rfl⟩ := h
          rw [ih [] p (by rw [hs]; rfl)]; rfl
        | cons p' q' =>
          simp only [List.cons_append, List.cons.injEq] at h
          obtain ⟨rfl, h2⟩ := h
          rw [ih (p :: q') cur (by rw [hs, h2]; rfl)]; rfl

theorem index_miss {l : List UInt8} {c : UInt8} (h : c ∉ l) : Lib.index l [c] = -1 := Lib.index_none (fun j _ => by
  rw [← Bool.not_eq_true, occ_one]
  intro hj
  exact h (List.mem_of_getElem? hj))
theorem index_hit {a b : List UInt8} {c : UInt8} (h : c ∉ a) : Lib.index (a ++ c :: b) [c] = (a.length : Nat) := Lib.index_first (by simp) ((occ_one _ _ _).2 (by simp)) (fun j hj => by
  rw [← Bool.not_eq_true, occ_one]
  intro hh
  rw [List.getElem?_append_left hj] at hh
  exact h (List.mem_of_getElem? hh))
theorem splitK_is (c : UInt8) (n : Nat) : ∀ l : List UInt8, l.length ≤ n → Lib.splitK [c] 0 (l.count c) l = splitL c l := by
  induction n with
  | zero =>
    intro l hl
    obtain rfl := List.eq_nil_of_length_eq_zero (Nat.le_zero.1 hl)
    rfl
  | succ n ih =>
    intro l hl
    by_cases h : c ∈ l
    · obtain ⟨a, b, rfl, ha⟩ := List.eq_append_cons_of_mem h
      have hcount : (a ++ c :: b).count c = b.count c + 1 := by
        rw [List.count_append, List.count_cons_self, List.count_eq_zero.2 ha, Nat.zero_add]
      rw [hcount, Lib.splitK, index_hit ha, if_neg (by simp), splitL_at a b ha]
      have h1 : ((a.length : Nat) : Int).toNat = a.length := by omega
      rw [h1, Nat.add_zero, List.take_left]
      have h2 : (a ++ c :: b).drop (a.length + [c].length) = b := by
        rw [← List.drop_drop, List.drop_left]; rfl
      rw [h2, ih b (by simp at hl; omega)]
    · rw [List.count_eq_zero.2 h, splitL_none h]; rfl
theorem splitB_is (s : ByteArray) (c : UInt8) : (Lib.splitB ⟨#[c]⟩ 0 (Lib.countB s ⟨#[c]⟩) s).map (·.data.toList) = splitL c (bts s) := by
  rw [Lib.splitB_data]
  have : Lib.countB s ⟨#[c]⟩ = (bts s).count c := by
    show Lib.count s.data.toList [c] = _
    rw [Lib.count_one]; rfl
  rw [this]
  exact splitK_is c _ (bts s) (Nat.le_refl _)
end Go.Proofs.YtgllddebodfhkaaGreatDoor
namespace Go.Proofs.YtgllddebodfhkaaGreatDoor
open Go.RowKit

/-- The slice at A reads as the texts xs. -/
def StrsAt (w : World) (A : Option Addr) (xs : List (List UInt8)) : Prop :=
  xs = [] ∨ ∃ b o, A = some ⟨b, o, none⟩ ∧ b < w.heap.size ∧ ∀ i (h : i < xs.length), w.cell? ⟨b, o + i, none⟩ = some (.string ⟨xs[i].toArray⟩)
theorem StrsAt.below {w w' : World} {A : Option Addr} {xs : List (List UInt8)} (h : StrsAt w A xs) (hb : Below w.heap.size w w') : StrsAt w' A xs := by
  rcases h with h | ⟨b, o, h1, h2, h3⟩
  · exact .inl h
  · exact .inr ⟨b, o, h1, Nat.lt_of_lt_of_le h2 hb.size, fun i hi => (hb.cell h2).trans (h3 i hi)⟩
def strVals (xs : List (List UInt8)) : List Value := xs.map fun x => .string ⟨x.toArray⟩
theorem strVals_length (xs : List (List UInt8)) : (strVals xs).length = xs.length := by simp [strVals]
theorem StrsAt.of_own {w : World} {B : Nat} {v : Value} {xs : List (List UInt8)} (h : w.ownsRow B 9 1 v xs.length (strVals xs)) : ∃ A cap, v = .slice A xs.length cap ∧ StrsAt w A xs ∧ ∀ a, A = some a → B ≤ a.block := by
  rcases h.2 with ⟨rfl, h0⟩ | ⟨g, cap, cur, rfl, hB, hg, _, _, _, ht⟩
  · obtain rfl := List.eq_nil_of_length_eq_zero h0
    exact ⟨_, _, rfl, .inl rfl, fun a ha => by cases ha⟩
  · refine ⟨_, _, rfl, .inr ⟨g, 0, rfl, ?_, fun i hi => ?_⟩, fun a ha => by cases ha; exact hB⟩
    · rcases Nat.lt_or_ge g w.heap.size with hl | hl
      · exact hl
      · rw [Array.getElem?_eq_none hl] at hg; cases hg
    · rw [cell_of_row w g _ cur _ _ hg, Nat.zero_add, ← Array.getElem?_toList, ← List.getElem?_take_of_lt (l := cur.toList) (show i < xs.length * 1 by omega), ht]
      simp [strVals, List.getElem?_eq_getElem hi]

theorem stringInfo1 : (Tryz.prog.info? 9).map (fun i => (i.zero, i.size, i.bytes)) = some (some (.string ⟨#[]⟩), 1, 16) := by kernel_rfl

/-- Two lists are alike up to k. -/
theorem alike_step {xs ys : List (List UInt8)} (k : Nat) (h1 : k < xs.length) (h2 : k < ys.length) (h : xs.take k = ys.take k) (he : xs[k] = ys[k]) : xs.take (k + 1) = ys.take (k + 1) := by
  rw [List.take_succ_eq_append_getElem h1, List.take_succ_eq_append_getElem h2, h, he]

set_option maxHeartbeats 800000 in
theorem sameTexts_any (A A' : Option Addr) (c c' : Nat) (xs ys : List (List UInt8)) (w : World) (hx : StrsAt w A xs) (hy : StrsAt w A' ys) (hl : xs.length ≤ 1000000000) :
    Calls Tryz.prog 42 #[.slice A xs.length c, .slice A' ys.length c'] w fun e w' => e = .returned (.bool (decide (xs = ys))) ∧ Below w.heap.size w w' := by
  by_cases hlen : xs.length = ys.length
  · have HL := Lib.hid hlen
    have hb0 : decide (xs.length = ys.length) = true := by simpa using hlen
    have HX := Lib.hid hx
    have HY := Lib.hid hy
    clear hx hy hlen hb0
    obtain ⟨n, hn⟩ : ∃ n, n = xs.length := ⟨_, rfl⟩
    have e2 : ys.length = n := by rw [hn]; exact HL.out.symm
    have HN := Lib.hid hn
    have HN2 := Lib.hid e2
    rw [← hn] at hl
    rw [e2, ← hn]
    clear hn e2
    go_enter Tryz.func42, Tryz.ntmps42
    go_wp2
    go_loopw [5] (fun i wr => ∃ k : Nat, k ≤ n ∧ i = .int .i64 k ∧ xs.take k = ys.take k ∧ ∃ m, wr = w.drewN m) (fun i _ => n - (intOf i).toNat)
    case atStart => exact ⟨0, by omega, rfl, rfl, 0, rfl⟩
    case round =>
      obtain ⟨k, hk, rfl, hek, m, rfl⟩ := hrel
      have HE := Lib.hid hek
      clear hek
      by_cases hlt : k < n
      · have hkx : k < xs.length := by rw [← HN.out]; exact hlt
        have hky : k < ys.length := by rw [HN2.out]; exact hlt
        obtain ⟨bx, ox, rfl, lx, cx⟩ := HX.out.resolve_left (fun h => by rw [h] at hkx; simp at hkx)
        obtain ⟨by', oy, rfl, ly, cy⟩ := HY.out.resolve_left (fun h => by rw [h] at hky; simp at hky)
        have dx := cx k hkx
        have dy := cy k hky
        clear cx cy
        have i1 : (k : Int) < (n : Int) := by omega
        have i0 : (0 : Int) ≤ (k : Int) := by omega
        by_cases he : xs[k] = ys[k]
        · have HS := Lib.hid (alike_step k hkx hky HE.out he)
          rw [← he] at dy
          generalize xs[k] = x at dx dy
          clear he
          go_wp2_with fail
          go_quiet (fail)
          go_wp2_with fail
          go_roundw
          case rel => exact ⟨k + 1, by omega, by go_num, HS.out, _, rfl⟩
          case measure => simp [intOf]; omega
        · have HNE := Lib.hid (show ¬ xs = ys from fun h => he (by simp [h]))
          have hb : (xs[k] == ys[k]) = false := by simpa using he
          clear he
          generalize xs[k] = x at dx hb
          generalize ys[k] = y at dy hb
          go_wp2_with fail
          go_quiet (fail)
          go_wp2_with fail
          go_ret
          exact ⟨by rw [decide_eq_false HNE.out]; rfl, below_drewN (below_drewN (Below.refl _ _) _) _⟩
      · obtain rfl : k = n := by omega
        have hxy : xs = ys := by
          have := HE.out
          rw [List.take_of_length_le (by rw [← HN.out]; exact Nat.le_refl _), List.take_of_length_le (by rw [HN2.out]; exact Nat.le_refl _)] at this
          exact this
        go_wp2_with fail
        go_ret
        exact ⟨by rw [decide_eq_true hxy]; rfl, below_drewN (Below.refl _ _) _⟩
  · have hd : decide (xs = ys) = false := by
      simp only [decide_eq_false_iff_not]
      intro h
      exact hlen (by rw [h])
    rw [hd]
    clear hd
    generalize xs.length = n at hlen
    generalize ys.length = m at hlen
    have hb0 : ¬ (n : Int) = (m : Int) := by omega
    go_enter Tryz.func42, Tryz.ntmps42
    go_wp2
    go_ret
    exact ⟨rfl, Below.refl _ _⟩
end Go.Proofs.YtgllddebodfhkaaGreatDoor
namespace Go.Proofs.YtgllddebodfhkaaGreatDoor
open Go.RowKit

/-- What a call that hands back texts leaves. -/
def TextsEnds (xs : List (List UInt8)) (w : World) (e : Ending) (w' : World) : Prop :=
  ∃ A cap, e = .returned (.slice A xs.length cap) ∧ StrsAt w' A xs ∧ (∀ a, A = some a → w.heap.size ≤ a.block) ∧ Below w.heap.size w w'

theorem split_any (s : ByteArray) (c : UInt8) (w : World) (hs : s.size ≤ 1000000000) (hM : MaxG w) :
    Calls Tryz.prog 115 #[.string s, .string ⟨#[c]⟩] w (TextsEnds (splitL c (bts s)) w) := by
  obtain ⟨m, hm⟩ := hM
  refine (Tryz.strings_Split s ⟨#[c]⟩ m w (by omega) hm (by show 1 ≤ (#[c] : Array UInt8).size; simp)).mono ?_
  rintro e w' ⟨rfl, rfl⟩
  have hsp := splitB_is s c
  have hl : Lib.countB s ⟨#[c]⟩ + 1 = (splitL c (bts s)).length := by
    rw [← hsp, List.length_map, Lib.splitB_all ⟨#[c]⟩ (by show 1 ≤ (#[c] : Array UInt8).size; simp) 0 _ s rfl]
  refine ⟨some ⟨w.heap.size, 0, none⟩, Lib.countB s ⟨#[c]⟩ + 1, by rw [hl], .inr ⟨w.heap.size, 0, rfl, by simp, fun i hi => ?_⟩, fun a ha => by cases ha; exact Nat.le_refl _, (Below.refl _ _).alloc (Nat.le_refl _) _⟩
  rw [cell_of_row _ _ _ _ _ _ (heap_alloc_new _ _), Nat.zero_add]
  have h2 : i < (Lib.splitB ⟨#[c]⟩ 0 (Lib.countB s ⟨#[c]⟩) s).length := by rw [← hsp, List.length_map] at hi; exact hi
  simp only [List.getElem?_toArray, List.getElem?_map, List.getElem?_eq_getElem h2, Option.map_some]
  have h3 : (splitL c (bts s))[i] = ((Lib.splitB ⟨#[c]⟩ 0 (Lib.countB s ⟨#[c]⟩) s)[i]).data.toList := by
    simp only [← hsp, List.getElem_map]
  rw [h3]
end Go.Proofs.YtgllddebodfhkaaGreatDoor
namespace Go.Proofs.YtgllddebodfhkaaGreatDoor
open Go.RowKit Go.Sort Go.Proofs

/-- goods.Number, told in one. -/
theorem numb_any (l : List UInt8) (d : Nat) (hs : l.length ≤ 1000000000) (hd : d ≤ 18) (w : World) (hT : TabG w) (hA : AtoiG w) :
    Calls Tryz.prog 116 #[.string ⟨l.toArray⟩, .int .i64 d] w fun e w' => ∃ n : Int, e = .returned (.tuple #[.int .i64 n, .bool (numQ l d).isSome]) ∧ (∀ v, numQ l d = some v → n = v) ∧ Below w.heap.size w w' := by
  refine (number_any ⟨l.toArray⟩ d (by show l.toArray.size ≤ _; simp; omega) (by omega) w hT hA).mono ?_
  rintro e w' (⟨n, hq, -, rfl, hb⟩ | ⟨hq, m, -, -, rfl, hb⟩)
  · have hq : numQ l d = some n := hq
    refine ⟨n, by rw [hq]; rfl, fun v hv => ?_, hb⟩
    rw [hq] at hv; injection hv with hv; rw [hv]
  · have hq : numQ l d = none := hq
    refine ⟨m, by rw [hq]; rfl, fun v hv => ?_, hb⟩
    rw [hq] at hv; cases hv

/-- What the readers lean on. -/
structure ReadG (E : Nat → Addr) (w : World) : Prop where
  text : ErrAt 4 (E 1) w
  name : ErrAt 9 (E 5) w
  bound : ErrAt 1 (E 2) w
  tab : TabG w
  atoi : AtoiG w
  maxl : MaxG w
theorem ReadG.below {E : Nat → Addr} {w w' : World} (h : ReadG E w) (hb : Below w.heap.size w w') : ReadG E w' := ⟨h.text.below hb, h.name.below hb, h.bound.below hb, h.tab.below hb, h.atoi.below hb, h.maxl.below hb⟩
theorem ReadG.lot {E : Nat → Addr} {w : World} (h : ReadG E w) : LotG E w := ⟨h.name, h.bound, h.tab⟩

def zeroLot : LotV := ([], [], 0, 0)
/-- What reading a lot's words answers. -/
def lotWords (ws : List (List UInt8)) : LotV × Nat :=
  match ws with
  | [a, b, c, d] => match numQ c 9, numQ d 9 with
    | some u, some v => if lotE (a, b, (u : Int), (v : Int)) = 0 then ((a, b, (u : Int), (v : Int)), 0) else (zeroLot, lotE (a, b, (u : Int), (v : Int)))
    | _, _ => (zeroLot, 1)
  | _ => (zeroLot, 1)
theorem lotWords_len {ws : List (List UInt8)} (h : ws.length ≠ 4) : lotWords ws = (zeroLot, 1) := by
  unfold lotWords
  split
  · simp at h
  · rfl
theorem lotE_le (x : LotV) : lotE x ≤ 5 := by
  unfold lotE
  split
  · omega
  · split <;> omega
theorem lotWords_le (ws : List (List UInt8)) : (lotWords ws).2 ≤ 12 := by
  unfold lotWords
  split
  · split
    · rename_i u v _ _
      split
      · simp
      · exact Nat.le_trans (lotE_le _) (by omega)
    · simp
  · simp

theorem four {ws : List (List UInt8)} (h : ws.length = 4) : ∃ a b c d, ws = [a, b, c, d] := by
  match ws, h with
  | [a, b, c, d], _ => exact ⟨a, b, c, d, rfl⟩
theorem splitL_lens {c : UInt8} {l w : List UInt8} (h : w ∈ splitL c l) : w.length ≤ l.length := by
  induction l generalizing w with
  | nil => simp [splitL] at h; subst h; simp
  | cons x r ih =>
    rw [splitL] at h
    by_cases hx : x = c
    · rw [if_pos hx] at h
      rcases List.mem_cons.1 h with rfl | h
      · simp
      · have := ih h; simp; omega
    · rw [if_neg hx] at h
      cases hs : splitL c r with
      | nil => exact absurd hs (splitL_ne c r)
      | cons p q =>
        rw [hs] at h ih
        rcases List.mem_cons.1 h with rfl | h
        · have := ih (w := p) (by simp); simp; omega
        · have := ih (w := w) (by simp [h]); simp; omega

theorem strs4 {w : World} {A : Option Addr} {a b c d : List UInt8} (h : StrsAt w A [a, b, c, d]) : ∃ bl o, A = some ⟨bl, o, none⟩ ∧ bl < w.heap.size ∧ w.cell? ⟨bl, o, none⟩ = some (.string ⟨a.toArray⟩) ∧ w.cell? ⟨bl, o + 1, none⟩ = some (.string ⟨b.toArray⟩) ∧ w.cell? ⟨bl, o + 2, none⟩ = some (.string ⟨c.toArray⟩) ∧ w.cell? ⟨bl, o + 3, none⟩ = some (.string ⟨d.toArray⟩) := by
  obtain ⟨bl, o, h1, h2, h3⟩ := h.resolve_left (by simp)
  exact ⟨bl, o, h1, h2, h3 0 (by simp), h3 1 (by simp), h3 2 (by simp), h3 3 (by simp)⟩

end Go.Proofs.YtgllddebodfhkaaGreatDoor
namespace Go.Proofs.YtgllddebodfhkaaGreatDoor
open Go.RowKit Go.Sort Go.Proofs

theorem ReadG.place {E : Nat → Addr} {w : World} (h : ReadG E w) : PlaceG E w := ⟨h.name, h.bound, h.tab⟩
def zeroPlace : PlaceV := ([], 0, 0)
/-- What reading a place's words answers. -/
def placeWords (ws : List (List UInt8)) : PlaceV × Nat :=
  match ws with
  | [a, c, d] => match numQ c 4, numQ d 4 with
    | some u, some v => if placeE (a, (u : Int), (v : Int)) = 0 then ((a, (u : Int), (v : Int)), 0) else (zeroPlace, placeE (a, (u : Int), (v : Int)))
    | _, _ => (zeroPlace, 1)
  | _ => (zeroPlace, 1)
theorem placeWords_len {ws : List (List UInt8)} (h : ws.length ≠ 3) : placeWords ws = (zeroPlace, 1) := by
  unfold placeWords
  split
  · simp at h
  · rfl
theorem placeE_le (x : PlaceV) : placeE x ≤ 5 := by
  unfold placeE
  split
  · omega
  · split <;> omega
theorem placeWords_le (ws : List (List UInt8)) : (placeWords ws).2 ≤ 12 := by
  unfold placeWords
  split
  · split
    · rename_i u v _ _
      split
      · simp
      · exact Nat.le_trans (placeE_le _) (by omega)
    · simp
  · simp
theorem three {ws : List (List UInt8)} (h : ws.length = 3) : ∃ a b c, ws = [a, b, c] := by
  match ws, h with
  | [a, b, c], _ => exact ⟨a, b, c, rfl⟩
theorem strs3 {w : World} {A : Option Addr} {a b c : List UInt8} (h : StrsAt w A [a, b, c]) : ∃ bl o, A = some ⟨bl, o, none⟩ ∧ bl < w.heap.size ∧ w.cell? ⟨bl, o, none⟩ = some (.string ⟨a.toArray⟩) ∧ w.cell? ⟨bl, o + 1, none⟩ = some (.string ⟨b.toArray⟩) ∧ w.cell? ⟨bl, o + 2, none⟩ = some (.string ⟨c.toArray⟩) := by
  obtain ⟨bl, o, h1, h2, h3⟩ := h.resolve_left (by simp)
  exact ⟨bl, o, h1, h2, h3 0 (by simp), h3 1 (by simp), h3 2 (by simp)⟩

set_option maxHeartbeats 1600000 in
theorem placeRead_any (E : Nat → Addr) (s : ByteArray) (hs : s.size ≤ 1000000) (w : World) (hG : ReadG E w) :
    Calls Tryz.prog 117 #[.string s] w fun e w' => e = .returned (.tuple #[.agg (encPlace (placeWords (splitL 45 (bts s))).1).toArray, errOf E (placeWords (splitL 45 (bts s))).2]) ∧ Below w.heap.size w w' := by
  have HSP := Lib.hid (fun W (h : MaxG W) => split_any s 45 W (by omega) h)
  have hle := fun x (h : x ∈ splitL 45 (bts s)) => splitL_lens h
  generalize splitL 45 (bts s) = ws at HSP hle ⊢
  have hbl : (bts s).length = s.size := rfl
  rw [hbl] at hle
  have HG := Lib.hid hG
  clear hG hbl
  go_enter Tryz.func117, Tryz.ntmps117
  go_wp2_with fail
  have b0 := below_one w (.cells #[.string ⟨#[]⟩, .int .i64 0, .int .i64 0] 40)
  have hz0 : (w.alloc (.cells #[.string ⟨#[]⟩, .int .i64 0, .int .i64 0] 40)).heap[w.heap.size]? = some (.cells #[.string ⟨#[]⟩, .int .i64 0, .int .i64 0] 40 (0, 0)) := heap_alloc_new _ _
  have hG0 := HG.out.below b0
  obtain ⟨rb, hrb⟩ : ∃ rb, rb = w.heap.size := ⟨_, rfl⟩
  have HRB : Hid (w.heap.size ≤ rb) := by show _ ≤ _; omega
  rw [← hrb] at hz0 ⊢
  generalize w.alloc (.cells #[.string ⟨#[]⟩, .int .i64 0, .int .i64 0] 40) = W0 at b0 hz0 hG0 ⊢
  refine (HSP.out W0 hG0.maxl).mono ?_
  rintro e w1 ⟨A, cap, rfl, hS, -, bb1⟩
  have hz1 := (bb1.block rb (row_lt hz0)).trans hz0
  have HG1 := Lib.hid (hG0.below bb1)
  have B1 := Lib.hid (b0.trans (bb1.mono b0.size))
  have hg1 := HG1.out.text
  have lg := lt_of_cell hg1
  simp only at lg
  unfold ErrAt at hg1
  have hgrb : 4 ≠ rb := by have := lt_of_cell HG.out.text; simp only at this; omega
  clear bb1 hz0 b0 hG0 HSP HG hrb
  by_cases h4 : ws.length = 3
  · obtain ⟨a, c, d, rfl⟩ := three h4
    have ha := hle a (by simp)
    have hcl := hle c (by simp)
    have hdl := hle d (by simp)
    have HW := Lib.hid (show placeWords [a, c, d] = match numQ c 4, numQ d 4 with
      | some u, some v => if placeE (a, (u : Int), (v : Int)) = 0 then ((a, (u : Int), (v : Int)), 0) else (zeroPlace, placeE (a, (u : Int), (v : Int)))
      | _, _ => (zeroPlace, 1) from rfl)
    obtain ⟨bl, o, rfl, hl, p0, p1, p2⟩ := strs3 hS
    have l4 : [a, c, d].length = 3 := rfl
    rw [l4]
    have hblr : bl < w1.heap.size := hl
    clear hS l4 hle h4
    go_wp2_with fail
    refine (numb_any c 4 (by omega) (by omega) _ HG1.out.tab HG1.out.atoi).mono ?_
    rintro e w2 ⟨u, rfl, hu, b2⟩
    have q0 := (b2.cell (p := ⟨_, _, none⟩) (lt_of_cell p0)).trans p0
    have q1 := (b2.cell (p := ⟨_, _, none⟩) (lt_of_cell p1)).trans p1
    have q2 := (b2.cell (p := ⟨_, _, none⟩) (lt_of_cell p2)).trans p2
    have hz2 := (b2.block rb (row_lt hz1)).trans hz1
    have hg2 := (b2.cell (p := ⟨_, 0, none⟩) lg).trans hg1
    have lg2 : 4 < w2.heap.size := Nat.lt_of_lt_of_le lg b2.size
    have B2 := Lib.hid (B1.out.trans (b2.mono B1.out.size))
    have HG2 := Lib.hid (HG1.out.below b2)
    have HU := Lib.hid hu
    clear b2 hu p0 p1 p2 hz1 hg1 lg B1 HG1 hl hblr
    go_wp2_with fail
    refine (numb_any d 4 (by omega) (by omega) _ HG2.out.tab HG2.out.atoi).mono ?_
    rintro e w3 ⟨v, rfl, hv, b3⟩
    have r0 := (b3.cell (p := ⟨_, _, none⟩) (lt_of_cell q0)).trans q0
    have r1 := (b3.cell (p := ⟨_, _, none⟩) (lt_of_cell q1)).trans q1
    have r2 := (b3.cell (p := ⟨_, _, none⟩) (lt_of_cell q2)).trans q2
    have hz3 := (b3.block rb (row_lt hz2)).trans hz2
    have hg3 := (b3.cell (p := ⟨_, 0, none⟩) lg2).trans hg2
    have B3 := Lib.hid (B2.out.trans (b3.mono B2.out.size))
    have HG3 := Lib.hid (HG2.out.below b3)
    have HV := Lib.hid hv
    clear b3 hv q0 q1 q2 hz2 hg2 lg2 B2 HG2
    cases hq : numQ c 4 with
    | none =>
      rw [hq] at HW
      have z0 : w3.cell? ⟨rb, 0, none⟩ = some (.string ⟨#[]⟩) := cell_of_row _ _ _ _ _ _ hz3
      have f0 := frozen_of_row w3 rb 0 _ _ hz3
      have z1 : w3.cell? ⟨rb, 1, none⟩ = some (.int .i64 0) := cell_of_row _ _ _ _ _ _ hz3
      have f1 := frozen_of_row w3 rb 1 _ _ hz3
      have z2 : w3.cell? ⟨rb, 2, none⟩ = some (.int .i64 0) := cell_of_row _ _ _ _ _ _ hz3
      have f2 := frozen_of_row w3 rb 2 _ _ hz3
      go_wp2_with fail
      go_region
      all_goals
        have hrow := puts_row [.string ⟨#[]⟩, .int .i64 0, .int .i64 0] hz3 rfl
        go_wp2_with fail
        (try simp only [Exit.inBlock, Exit.then])
        refine bodyPost_ret (results_cell_row2 rfl _ _ rb 40 #[.string ⟨#[]⟩, .int .i64 0, .int .i64 0] (0, 0) _ rfl hrow Tryz.underlying40 rfl (by kernel_rfl)) rfl ?_
        rw [HW.out]
        exact ⟨rfl, (puts_below HRB.out [.string ⟨#[]⟩, .int .i64 0, .int .i64 0] w3 0 B3.out).drew⟩
    | some uu =>
      have hu := HU.out uu hq
      subst hu
      rw [hq] at HW
      cases hq2 : numQ d 4 with
      | none =>
        rw [hq2] at HW
        have z0 : w3.cell? ⟨rb, 0, none⟩ = some (.string ⟨#[]⟩) := cell_of_row _ _ _ _ _ _ hz3
        have f0 := frozen_of_row w3 rb 0 _ _ hz3
        have z1 : w3.cell? ⟨rb, 1, none⟩ = some (.int .i64 0) := cell_of_row _ _ _ _ _ _ hz3
        have f1 := frozen_of_row w3 rb 1 _ _ hz3
        have z2 : w3.cell? ⟨rb, 2, none⟩ = some (.int .i64 0) := cell_of_row _ _ _ _ _ _ hz3
        have f2 := frozen_of_row w3 rb 2 _ _ hz3
        go_wp2_with fail
        go_region
        all_goals
          have hrow := puts_row [.string ⟨#[]⟩, .int .i64 0, .int .i64 0] hz3 rfl
          go_wp2_with fail
          (try simp only [Exit.inBlock, Exit.then])
          refine bodyPost_ret (results_cell_row2 rfl _ _ rb 40 #[.string ⟨#[]⟩, .int .i64 0, .int .i64 0] (0, 0) _ rfl hrow Tryz.underlying40 rfl (by kernel_rfl)) rfl ?_
          rw [HW.out]
          exact ⟨rfl, (puts_below HRB.out [.string ⟨#[]⟩, .int .i64 0, .int .i64 0] w3 0 B3.out).drew⟩
      | some vv =>
        have hv := HV.out vv hq2
        subst hv
        rw [hq2] at HW
        have HCK := Lib.hid (fun W h => checkPlace_any E (a, (uu : Int), (vv : Int)) W h)
        have hW := HW.out
        simp only at hW
        have HWW := Lib.hid hW
        clear HW hW hq hq2 HU HV
        generalize placeE (a, (uu : Int), (vv : Int)) = k at HCK HWW
        simp only [encPlace] at HCK
        have HZ3 := Lib.hid hz3
        have t0 := ((below_one w3 (.cells #[.string ⟨#[]⟩, .int .i64 0, .int .i64 0] 40)).cell (p := ⟨_, _, none⟩) (lt_of_cell r0)).trans r0
        have t1 := ((below_one w3 (.cells #[.string ⟨#[]⟩, .int .i64 0, .int .i64 0] 40)).cell (p := ⟨_, _, none⟩) (lt_of_cell r1)).trans r1
        have t2 := ((below_one w3 (.cells #[.string ⟨#[]⟩, .int .i64 0, .int .i64 0] 40)).cell (p := ⟨_, _, none⟩) (lt_of_cell r2)).trans r2
        go_wp2_with fail
        skip
        all_goals
          have b30 : Below w3.heap.size w3 (w3.alloc (.cells #[.string ⟨a.toArray⟩, .int .i64 (uu : Nat), .int .i64 (vv : Nat)] 40)) := (below_one _ _)
          have hx4 : (w3.alloc (.cells #[.string ⟨a.toArray⟩, .int .i64 (uu : Nat), .int .i64 (vv : Nat)] 40)).heap[w3.heap.size]? = some (.cells #[.string ⟨a.toArray⟩, .int .i64 (uu : Nat), .int .i64 (vv : Nat)] 40 (0, 0)) := heap_alloc_new w3 _
          refine (HCK.out _ (HG3.out.below b30).place).mono ?_
          rintro e w4 ⟨rfl, b4⟩
          have hz4 := (b4.block rb (by have := row_lt HZ3.out; simp; omega)).trans ((heap_alloc_old w3 _ (row_lt HZ3.out)).trans HZ3.out)
          have hx5 := (b4.block w3.heap.size (by simp)).trans hx4
          have v0 : w4.cell? ⟨w3.heap.size, 0, none⟩ = some (.string ⟨a.toArray⟩) := cell_of_row _ _ _ _ _ _ hx5
          have v1 : w4.cell? ⟨w3.heap.size, 1, none⟩ = some (.int .i64 (uu : Nat)) := cell_of_row _ _ _ _ _ _ hx5
          have v2 : w4.cell? ⟨w3.heap.size, 2, none⟩ = some (.int .i64 (vv : Nat)) := cell_of_row _ _ _ _ _ _ hx5
          have B4 := Lib.hid (B3.out.trans ((b30.trans (b4.mono b30.size)).mono B3.out.size))
          clear b4 b30 hx4 hx5 r0 t0 r1 t1 r2 t2 HCK
          by_cases h0 : k = 0
          · subst h0
            rw [errOf_zero]
            have z0 : w4.cell? ⟨rb, 0, none⟩ = some (.string ⟨#[]⟩) := cell_of_row _ _ _ _ _ _ hz4
            have f0 := frozen_of_row w4 rb 0 _ _ hz4
            have z1 : w4.cell? ⟨rb, 1, none⟩ = some (.int .i64 0) := cell_of_row _ _ _ _ _ _ hz4
            have f1 := frozen_of_row w4 rb 1 _ _ hz4
            have z2 : w4.cell? ⟨rb, 2, none⟩ = some (.int .i64 0) := cell_of_row _ _ _ _ _ _ hz4
            have f2 := frozen_of_row w4 rb 2 _ _ hz4
            go_wp2_with fail
            have hrow := puts_row [.string ⟨a.toArray⟩, .int .i64 (uu : Nat), .int .i64 (vv : Nat)] hz4 rfl
            (try simp only [Exit.inBlock, Exit.then])
            refine bodyPost_ret (results_cell_row2 rfl _ _ rb 40 #[.string ⟨a.toArray⟩, .int .i64 (uu : Nat), .int .i64 (vv : Nat)] (0, 0) _ rfl hrow Tryz.underlying40 rfl (by kernel_rfl)) rfl ?_
            rw [HWW.out]
            exact ⟨rfl, (puts_below HRB.out [.string ⟨a.toArray⟩, .int .i64 (uu : Nat), .int .i64 (vv : Nat)] w4 0 B4.out)⟩
          · rw [errOf_pos _ _ h0]
            have z0 : w4.cell? ⟨rb, 0, none⟩ = some (.string ⟨#[]⟩) := cell_of_row _ _ _ _ _ _ hz4
            have f0 := frozen_of_row w4 rb 0 _ _ hz4
            have z1 : w4.cell? ⟨rb, 1, none⟩ = some (.int .i64 0) := cell_of_row _ _ _ _ _ _ hz4
            have f1 := frozen_of_row w4 rb 1 _ _ hz4
            have z2 : w4.cell? ⟨rb, 2, none⟩ = some (.int .i64 0) := cell_of_row _ _ _ _ _ _ hz4
            have f2 := frozen_of_row w4 rb 2 _ _ hz4
            go_wp2_with fail
            have hrow := puts_row [.string ⟨#[]⟩, .int .i64 0, .int .i64 0] hz4 rfl
            (try simp only [Exit.inBlock, Exit.then])
            refine bodyPost_ret (results_cell_row2 rfl _ _ rb 40 #[.string ⟨#[]⟩, .int .i64 0, .int .i64 0] (0, 0) _ rfl hrow Tryz.underlying40 rfl (by kernel_rfl)) rfl ?_
            rw [HWW.out, if_neg h0, errOf_pos _ _ h0]
            exact ⟨rfl, (puts_below HRB.out [.string ⟨#[]⟩, .int .i64 0, .int .i64 0] w4 0 B4.out)⟩
  · have HW0 := Lib.hid (placeWords_len h4)
    obtain ⟨n, hn⟩ : ∃ n, n = ws.length := ⟨_, rfl⟩
    rw [← hn] at h4 ⊢
    have h4' : ¬ (n : Int) = 3 := by omega
    clear hn
    have z0 : w1.cell? ⟨rb, 0, none⟩ = some (.string ⟨#[]⟩) := cell_of_row _ _ _ _ _ _ hz1
    have f0 := frozen_of_row w1 rb 0 _ _ hz1
    have z1 : w1.cell? ⟨rb, 1, none⟩ = some (.int .i64 0) := cell_of_row _ _ _ _ _ _ hz1
    have f1 := frozen_of_row w1 rb 1 _ _ hz1
    have z2 : w1.cell? ⟨rb, 2, none⟩ = some (.int .i64 0) := cell_of_row _ _ _ _ _ _ hz1
    have f2 := frozen_of_row w1 rb 2 _ _ hz1
    go_wp2_with fail
    go_region
    all_goals
      have hrow := puts_row [.string ⟨#[]⟩, .int .i64 0, .int .i64 0] hz1 rfl
      go_wp2_with fail
      (try simp only [Exit.inBlock, Exit.then])
      refine bodyPost_ret (results_cell_row2 rfl _ _ rb 40 #[.string ⟨#[]⟩, .int .i64 0, .int .i64 0] (0, 0) _ rfl hrow Tryz.underlying40 rfl (by kernel_rfl)) rfl ?_
      rw [HW0.out]
      exact ⟨rfl, (puts_below HRB.out [.string ⟨#[]⟩, .int .i64 0, .int .i64 0] w1 0 B1.out).drew⟩
end Go.Proofs.YtgllddebodfhkaaGreatDoor
namespace Go.Proofs.YtgllddebodfhkaaGreatDoor
open Go.RowKit

/-- The texts lie in a slice that has room for them. -/
def TextsCap (xs : List (List UInt8)) (w : World) (e : Ending) (w' : World) : Prop :=
  ∃ A cap, e = .returned (.slice A xs.length cap) ∧ StrsAt w' A xs ∧ (∀ a, A = some a → w.heap.size ≤ a.block) ∧ Below w.heap.size w w' ∧ xs.length ≤ cap
theorem own_cap {w : World} {B e size n cap : Nat} {A : Option Addr} {v : Value} {xs : List Value} (h : w.ownsRow B e size v n xs) (hv : v = .slice A n cap) : n ≤ cap := by
  subst hv
  rcases h.2 with ⟨h0, h1⟩ | ⟨g, cap', cur, h1, _, _, h2, _⟩
  · omega
  · cases h1
    exact h2
end Go.Proofs.YtgllddebodfhkaaGreatDoor
