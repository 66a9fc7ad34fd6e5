/- A stable sort, plainly: two runs merged by a symmetric search; blocks that double. No program in sight. slices.SortStableFunc at tithebarn/api.Lot: its parts, walked. slices.SortStableFunc at tithebarn/api.Lot: the rotation, walked. slices.SortStableFunc at tithebarn/api.Lot: two runs merged, walked. slices.SortStableFunc at tithebarn/api.Lot: one element put into the run ahead of it. -/
import Derived.Shelf.SlSortCmp.KitK
import Derived.Deep.LoopGhost
import Derived.Sort.WalkB2
import Derived.Sort.WalkB12
import Derived.Test.YtgllddebodfhkaaGreatDoorM01
import Derived.Test.YtgllddebodfhkaaGreatDoorM08
namespace Go.Proofs.YtgllddebodfhkaaGreatDoor.Stab
open Go.Sort

section
variable {α : Type} {lt : α → α → Bool}

theorem srt_le (hO : SWO lt) {l : List α} (h : Srt lt l) {i j : Nat} (hij : i ≤ j) (hj : j < l.length) : lt l[j] (l[i]'(by omega)) = false := by
  rcases Nat.lt_or_ge i j with h1 | h1
  · exact List.pairwise_iff_getElem.1 h i j (by omega) hj h1
  · obtain rfl : i = j := by omega
    exact hO.irrefl _
theorem ntrans3 (hO : SWO lt) {a b c d : α} (h1 : lt a b = false) (h2 : lt b c = false) (h3 : lt c d = false) : lt a d = false := hO.ntrans a c d (hO.ntrans a b c h1 h2) h3

/-- Where the symmetric search stopped the merge parts. -/
theorem sym_split (hO : SWO lt) (U V : List α) (s e : Nat) (hU : Srt lt U) (hV : Srt lt V) (hs : s ≤ U.length) (he : e ≤ V.length)
    (hA : s = 0 ∨ e = V.length ∨ ∃ (h1 : e < V.length) (h2 : s - 1 < U.length), lt V[e] U[s - 1] = false)
    (hB : s = U.length ∨ e = 0 ∨ ∃ (h1 : e - 1 < V.length) (h2 : s < U.length), lt V[e - 1] U[s] = true) :
    mrg lt U V = mrg lt (U.take s) (V.take e) ++ mrg lt (U.drop s) (V.drop e) := by
  have h := mrg_split lt _ (U.take s) (V.take e) (U.drop s) (V.drop e) rfl ?_ ?_
  · rw [List.take_append_drop, List.take_append_drop] at h; exact h
  · intro x hx y hy
    obtain ⟨i, hi, rfl⟩ := List.getElem_of_mem hx
    obtain ⟨j, hj, rfl⟩ := List.getElem_of_mem hy
    simp only [List.length_take] at hi
    simp only [List.length_drop] at hj
    rw [List.getElem_take, List.getElem_drop]
    rcases hA with h0 | h0 | ⟨h1, h2, h0⟩
    · omega
    · omega
    · exact ntrans3 hO (srt_le hO hV (show e ≤ e + j by omega) (by omega)) h0 (srt_le hO hU (show i ≤ s - 1 by omega) h2)
  · intro y hy x hx
    obtain ⟨i, hi, rfl⟩ := List.getElem_of_mem hx
    obtain ⟨j, hj, rfl⟩ := List.getElem_of_mem hy
    simp only [List.length_take] at hj
    simp only [List.length_drop] at hi
    rw [List.getElem_take, List.getElem_drop]
    rcases hB with h0 | h0 | ⟨h1, h2, h0⟩
    · omega
    · omega
    · rcases h : lt V[j] U[s + i] with _ | _
      · have := ntrans3 hO (srt_le hO hV (show j ≤ e - 1 by omega) h1) h (srt_le hO hU (show s ≤ s + i by omega) (by omega))
        rw [h0] at this; cases this
      · rfl

/-- One element into a sorted run: where a search stopped. -/
theorem ins_left (hO : SWO lt) (x : α) (V : List α) (s : Nat) (hV : Srt lt V) (hs : s ≤ V.length)
    (hA : s = 0 ∨ ∃ h : s - 1 < V.length, lt V[s - 1] x = true) (hB : s = V.length ∨ ∃ h : s < V.length, lt V[s] x = false) : mrg lt [x] V = V.take s ++ x :: V.drop s := by
  have h := put_mrg (lt := lt) (P := V.take s) (Q := V.drop s) x ?_ ?_
  · rw [List.take_append_drop] at h; exact h
  · intro y hy
    obtain ⟨j, hj, rfl⟩ := List.getElem_of_mem hy
    simp only [List.length_take] at hj
    rw [List.getElem_take]
    rcases hA with h0 | ⟨h1, h0⟩
    · omega
    · rcases h : lt V[j] x with _ | _
      · have := hO.ntrans _ _ _ (srt_le hO hV (show j ≤ s - 1 by omega) h1) h
        rw [h0] at this; cases this
      · rfl
  · intro y hy
    obtain ⟨j, hj, rfl⟩ := List.getElem_of_mem hy
    simp only [List.length_drop] at hj
    rw [List.getElem_drop]
    rcases hB with h0 | ⟨h1, h0⟩
    · omega
    · exact hO.ntrans _ _ _ (srt_le hO hV (show s ≤ s + j by omega) (by omega)) h0
theorem ins_right (hO : SWO lt) (x : α) (U : List α) (s : Nat) (hU : Srt lt U) (hs : s ≤ U.length)
    (hA : s = 0 ∨ ∃ h : s - 1 < U.length, lt x U[s - 1] = false) (hB : s = U.length ∨ ∃ h : s < U.length, lt x U[s] = true) : mrg lt U [x] = U.take s ++ x :: U.drop s := by
  have h := mrg_put (lt := lt) (X := U.take s) (Q := U.drop s) x ?_ ?_
  · rw [List.take_append_drop] at h; exact h
  · intro y hy
    obtain ⟨j, hj, rfl⟩ := List.getElem_of_mem hy
    simp only [List.length_take] at hj
    rw [List.getElem_take]
    rcases hA with h0 | ⟨h1, h0⟩
    · omega
    · exact hO.ntrans _ _ _ h0 (srt_le hO hU (show j ≤ s - 1 by omega) h1)
  · intro y hy
    obtain ⟨j, hj, rfl⟩ := List.getElem_of_mem hy
    simp only [List.length_drop] at hj
    rw [List.getElem_drop]
    rcases hB with h0 | ⟨h1, h0⟩
    · omega
    · rcases h : lt x U[s + j] with _ | _
      · have := hO.ntrans _ _ _ h (srt_le hO hU (show s ≤ s + j by omega) (by omega))
        rw [h0] at this; cases this
      · rfl

/-- Sorted blocks of n, one behind the other. -/
def blk (lt : α → α → Bool) (n : Nat) : Nat → List α → List α
  | 0, l => srt lt l
  | f + 1, l => if l.length ≤ n then srt lt l else srt lt (l.take n) ++ blk lt n f (l.drop n)
def blks (lt : α → α → Bool) (n : Nat) (l : List α) : List α := blk lt n l.length l
theorem blk_fuel (n : Nat) (hn : 0 < n) : ∀ (f f' : Nat) (l : List α), l.length ≤ f → l.length ≤ f' → blk lt n f l = blk lt n f' l
  | 0, 0, _, _, _ => rfl
  | 0, f' + 1, l, h, _ => by
    obtain rfl := List.eq_nil_of_length_eq_zero (Nat.le_zero.1 h); simp [blk]
  | f + 1, 0, l, _, h => by
    obtain rfl := List.eq_nil_of_length_eq_zero (Nat.le_zero.1 h); simp [blk]
  | f + 1, f' + 1, l, h, h' => by
    unfold blk
    by_cases hl : l.length ≤ n
    · rw [if_pos hl, if_pos hl]
    · rw [if_neg hl, if_neg hl, blk_fuel n hn f f' (l.drop n) (by simp; omega) (by simp; omega)]
theorem blks_small (n : Nat) (l : List α) (h : l.length ≤ n) : blks lt n l = srt lt l := by
  unfold blks
  cases hl : l.length with
  | zero => rfl
  | succ k => rw [blk, if_pos h]
theorem blks_step (n : Nat) (hn : 0 < n) (l : List α) (h : n < l.length) : blks lt n l = srt lt (l.take n) ++ blks lt n (l.drop n) := by
  unfold blks
  obtain ⟨k, hk⟩ : ∃ k, l.length = k + 1 := ⟨l.length - 1, by omega⟩
  rw [hk, blk, if_neg (by omega)]
  congr 1
  exact blk_fuel n hn _ _ _ (by simp; omega) (Nat.le_refl _)
theorem blks_length (n : Nat) (hn : 0 < n) (l : List α) : (blks lt n l).length = l.length := by
  have h : ∀ (m : Nat) (l : List α), l.length ≤ m → (blks lt n l).length = l.length := by
    intro m
    induction m with
    | zero =>
      intro l hl
      rw [blks_small n l (by omega), srt_length]
    | succ m ih =>
      intro l hl
      by_cases h : l.length ≤ n
      · rw [blks_small n l h, srt_length]
      · rw [blks_step n hn l (by omega), List.length_append, srt_length, ih (l.drop n) (by simp; omega)]
        simp; omega
  exact h _ l (Nat.le_refl _)
theorem blks_full (n : Nat) (hn : 0 < n) (P R : List α) (h : P.length = n) : blks lt n (P ++ R) = srt lt P ++ blks lt n R := by
  cases R with
  | nil => rw [List.append_nil, blks_small n P (by omega), blks_small n [] (by simp), srt_nil, List.append_nil]
  | cons x R =>
    rw [blks_step n hn _ (by simp; omega), List.take_append_of_le_length (by omega), List.take_of_length_le (by omega), List.drop_append_of_le_length (by omega), List.drop_of_length_le (by omega)]
    rfl
end

section
variable {α : Type}

/-- Two parts of one length exchanged, i rounds done. -/
def swR (A X M Y B : List α) (i : Nat) : List α := A ++ ((Y.take i ++ X.drop i) ++ (M ++ ((X.take i ++ Y.drop i) ++ B)))
theorem swR_zero (A X M Y B : List α) : swR A X M Y B 0 = A ++ (X ++ (M ++ (Y ++ B))) := by simp [swR]
theorem swR_all (A X M Y B : List α) (h : X.length = Y.length) : swR A X M Y B X.length = A ++ (Y ++ (M ++ (X ++ B))) := by
  unfold swR
  rw [List.take_of_length_le (by omega), List.drop_of_length_le (Nat.le_refl _), List.take_of_length_le (Nat.le_refl _), List.drop_of_length_le (by omega), List.append_nil, List.append_nil]
theorem swR_length (A X M Y B : List α) (i : Nat) (h : X.length = Y.length) : (swR A X M Y B i).length = A.length + X.length + M.length + Y.length + B.length := by
  simp only [swR, List.length_append, List.length_take, List.length_drop]; omega
theorem swR_step [Inhabited α] (A X M Y B : List α) (i : Nat) (h : X.length = Y.length) (hi : i < X.length) :
    swp (swR A X M Y B i).toArray (A.length + i) (A.length + X.length + M.length + i) = (swR A X M Y B (i + 1)).toArray := by
  have hy : i < Y.length := by omega
  have e1 : swR A X M Y B i = (A ++ Y.take i) ++ X[i] :: ((X.drop (i + 1) ++ (M ++ X.take i)) ++ Y[i] :: (Y.drop (i + 1) ++ B)) := by
    unfold swR
    rw [List.drop_eq_getElem_cons hi, List.drop_eq_getElem_cons hy]
    simp only [List.append_assoc, List.cons_append]
  have e2 : swR A X M Y B (i + 1) = (A ++ Y.take i) ++ Y[i] :: ((X.drop (i + 1) ++ (M ++ X.take i)) ++ X[i] :: (Y.drop (i + 1) ++ B)) := by
    unfold swR
    rw [List.take_succ_eq_append_getElem hi, List.take_succ_eq_append_getElem hy]
    simp only [List.append_assoc, List.cons_append, List.nil_append]
  rw [e1, e2]
  exact swp_at _ _ _ _ _ _ _ (by simp; omega) (by simp; omega)

/-- One carried to the right, t rounds done. -/
def shR (A : List α) (x : α) (P B : List α) (t : Nat) : List α := A ++ (P.take t ++ x :: (P.drop t ++ B))
theorem shR_zero (A : List α) (x : α) (P B : List α) : shR A x P B 0 = A ++ (x :: (P ++ B)) := by simp [shR]
theorem shR_all (A : List α) (x : α) (P B : List α) : shR A x P B P.length = A ++ (P ++ x :: B) := by simp [shR]
theorem shR_length (A : List α) (x : α) (P B : List α) (t : Nat) : (shR A x P B t).length = A.length + P.length + B.length + 1 := by
  simp only [shR, List.length_append, List.length_take, List.length_drop, List.length_cons]; omega
theorem shR_step [Inhabited α] (A : List α) (x : α) (P B : List α) (t : Nat) (h : t < P.length) : swp (shR A x P B t).toArray (A.length + t) (A.length + t + 1) = (shR A x P B (t + 1)).toArray := by
  have e1 : shR A x P B t = (A ++ P.take t) ++ x :: ([] ++ P[t] :: (P.drop (t + 1) ++ B)) := by
    unfold shR
    rw [List.drop_eq_getElem_cons h]
    simp only [List.append_assoc, List.cons_append, List.nil_append]
  have e2 : shR A x P B (t + 1) = (A ++ P.take t) ++ P[t] :: ([] ++ x :: (P.drop (t + 1) ++ B)) := by
    unfold shR
    rw [List.take_succ_eq_append_getElem h]
    simp only [List.append_assoc, List.cons_append, List.nil_append]
  rw [e1, e2]
  exact swp_at _ _ _ _ _ _ _ (by simp; omega) (by simp; omega)
theorem shL_step [Inhabited α] (A : List α) (x : α) (P B : List α) (t : Nat) (h : t < P.length) : swp (shR A x P B (t + 1)).toArray (A.length + t + 1) (A.length + t) = (shR A x P B t).toArray := by
  have e1 : shR A x P B t = (A ++ P.take t) ++ x :: ([] ++ P[t] :: (P.drop (t + 1) ++ B)) := by
    unfold shR
    rw [List.drop_eq_getElem_cons h]
    simp only [List.append_assoc, List.cons_append, List.nil_append]
  have e2 : shR A x P B (t + 1) = (A ++ P.take t) ++ P[t] :: ([] ++ x :: (P.drop (t + 1) ++ B)) := by
    unfold shR
    rw [List.take_succ_eq_append_getElem h]
    simp only [List.append_assoc, List.cons_append, List.nil_append]
  rw [e1, e2, swp_comm]
  exact swp_at _ _ _ _ _ _ _ (by simp; omega) (by simp; omega)
theorem get_in [Inhabited α] (A U B : List α) (i j : Nat) (h : i < U.length) (hj : j = A.length + i) : (A ++ (U ++ B)).toArray[j]! = U[i] := by
  subst hj
  rw [show A ++ (U ++ B) = (A ++ U.take i) ++ U[i] :: (U.drop (i + 1) ++ B) by
    conv => lhs; rw [← List.take_append_drop i U, List.drop_eq_getElem_cons h]
    simp only [List.append_assoc, List.cons_append]]
  exact get_at _ _ _ _ (by simp; omega)
end
end Go.Proofs.YtgllddebodfhkaaGreatDoor.Stab
namespace Go.Proofs.YtgllddebodfhkaaGreatDoor.StabLot
open Go.Sort Go.RowKit Go.Lib Go.Proofs Go.Proofs.YtgllddebodfhkaaGreatDoor.Stab
variable {α : Type} [Inhabited α]

/-- What the walks are told of a program: these functions' texts and types; an element takes k cells. -/
structure Fits (P : Program) (k : Nat) : Prop where
  mixed : P.follows .mixedOrders = true
  fSwap : P.funcs[228]? = some Tryz.f228
  fRot : P.funcs[207]? = some Tryz.f207
  fSym : P.funcs[174]? = some Tryz.f174
  fIns : P.funcs[173]? = some Tryz.f173
  fStab : P.funcs[135]? = some Tryz.f135
  t0 : P.underlying 0 = some (TypeDesc.tuple #[])
  a0 : ∀ w, (isAgg 0).run P w = .ok false w
  z0 : ∀ w, (Go.sizeOf 0).run P w = .ok 1 w
  v0 : ∀ w, (zeroValue 0).run P w = .ok (Value.tuple #[]) w
  t3 : P.underlying 3 = some (TypeDesc.int IntKind.i64)
  a3 : ∀ w, (isAgg 3).run P w = .ok false w
  z3 : ∀ w, (Go.sizeOf 3).run P w = .ok 1 w
  v3 : ∀ w, (zeroValue 3).run P w = .ok (Value.int IntKind.i64 0) w
  t4 : P.underlying 4 = some (TypeDesc.bool)
  a4 : ∀ w, (isAgg 4).run P w = .ok false w
  z4 : ∀ w, (Go.sizeOf 4).run P w = .ok 1 w
  v4 : ∀ w, (zeroValue 4).run P w = .ok (Value.bool false) w
  tU : P.underlying 185 = some (TypeDesc.int IntKind.u64)
  aU : ∀ w, (isAgg 185).run P w = .ok false w
  zU : ∀ w, (Go.sizeOf 185).run P w = .ok 1 w
  vU : ∀ w, (zeroValue 185).run P w = .ok (Value.int IntKind.u64 0) w
  tS : P.underlying 35 = some (TypeDesc.slice 47)
  aS : ∀ w, (isAgg 35).run P w = .ok false w
  zS : ∀ w, (Go.sizeOf 35).run P w = .ok 1 w
  vS : ∀ w, (zeroValue 35).run P w = .ok (Value.slice none 0 0) w
  tF : P.underlying 121 = some (TypeDesc.func #[47, 47] #[3] false)
  aF : ∀ w, (isAgg 121).run P w = .ok false w
  zF : ∀ w, (Go.sizeOf 121).run P w = .ok 1 w
  vF : ∀ w, (zeroValue 121).run P w = .ok (Value.nilFunc) w
  aE : ∀ w, (isAgg 47).run P w = .ok true w
  zE : ∀ w, (Go.sizeOf 47).run P w = .ok k w
theorem fits : Fits Tryz.prog 4 where
  mixed := by kernel_rfl
  fSwap := Tryz.func228
  fRot := Tryz.func207
  fSym := Tryz.func174
  fIns := Tryz.func173
  fStab := Tryz.func135
  t0 := Tryz.underlying0
  a0 := Tryz.isAgg0
  z0 := Tryz.sizeOf0
  v0 := Tryz.zeroValue0
  t3 := Tryz.underlying3
  a3 := Tryz.isAgg3
  z3 := Tryz.sizeOf3
  v3 := Tryz.zeroValue3
  t4 := Tryz.underlying4
  a4 := Tryz.isAgg4
  z4 := Tryz.sizeOf4
  v4 := Tryz.zeroValue4
  tU := Tryz.underlying185
  aU := Tryz.isAgg185
  zU := Tryz.sizeOf185
  vU := Tryz.zeroValue185
  tS := Tryz.underlying35
  aS := Tryz.isAgg35
  zS := Tryz.sizeOf35
  vS := Tryz.zeroValue35
  tF := Tryz.underlying121
  aF := Tryz.isAgg121
  zF := Tryz.sizeOf121
  vF := Tryz.zeroValue121
  aE := Tryz.isAgg47
  zE := Tryz.sizeOf47

set_option maxHeartbeats 600000 in
set_option maxRecDepth 1000000 in
theorem swapRange_any {P : Program} {K : Nat} (L : Fits P K) (enc : α → List Value) (g : Nat) (cb : Array Value) (blk off cap : Nat) (d0 : Array α) (w0 w : World) (R : RowK enc K w0 blk off d0) (A X M Y B : List α) (hXY : X.length = Y.length)
    (hlen : A.length + X.length + M.length + Y.length + B.length = d0.size) (hsz : d0.size < 4611686018427387904) (S : SWK enc K w0 blk off (A ++ (X ++ (M ++ (Y ++ B)))).toArray w)
    (ai bi ni : Int) (ha : ai = (A.length : Nat)) (hb : bi = (A.length + X.length + M.length : Nat)) (hn : ni = (X.length : Nat)) :
    Calls P 228 #[.slice (some ⟨blk, off, none⟩) d0.size cap, .int .i64 ai, .int .i64 bi, .int .i64 ni, .func (.func g) #[] cb] w fun e w' =>
      e = .returned (.tuple #[]) ∧ SWK enc K w0 blk off (A ++ (Y ++ (M ++ (X ++ B)))).toArray w' := by
  subst ha hb hn
  have HS := Lib.hid S
  have HXY := Lib.hid hXY
  have hle : A.length + X.length + M.length + X.length ≤ d0.size := by omega
  have HL := Lib.hid hlen
  clear S hXY hlen
  obtain ⟨a, hA⟩ : ∃ a, a = A.length := ⟨_, rfl⟩
  obtain ⟨n, hN⟩ : ∃ n, n = X.length := ⟨_, rfl⟩
  obtain ⟨b, hB⟩ : ∃ b, b = A.length + X.length + M.length := ⟨_, rfl⟩
  obtain ⟨sz, hSZ⟩ : ∃ s, s = d0.size := ⟨_, rfl⟩
  have HA := Lib.hid hA
  have HN := Lib.hid hN
  have HB := Lib.hid hB
  have HZ := Lib.hid hSZ
  have hab : a + n ≤ b := by omega
  rw [← hB, ← hN, ← hSZ] at hle
  rw [← hSZ] at hsz
  rw [← hB, ← hA, ← hN, ← hSZ]
  clear hA hN hB hSZ
  have mixed := L.mixed; have t0 := L.t0; have a0 := L.a0; have z0 := L.z0; have v0 := L.v0; have t3 := L.t3; have a3 := L.a3; have z3 := L.z3; have v3 := L.v3; have t4 := L.t4; have a4 := L.a4; have z4 := L.z4; have v4 := L.v4; have tU := L.tU; have aU := L.aU; have zU := L.zU; have vU := L.vU; have tS := L.tS; have aS := L.aS; have zS := L.zS; have vS := L.vS; have tF := L.tF; have aF := L.aF; have zF := L.zF; have vF := L.vF; have aE := L.aE; have zE := L.zE
  have FG := L.fSwap
  go_enter FG, Tryz.ntmps228
  go_wp2
  go_loopg [10] n (fun kx s10 wr => ∃ i : Nat, s10 = .int .i64 i ∧ i ≤ n ∧ n - i ≤ kx ∧ Hid (SWK enc K w0 blk off (swR A X M Y B i).toArray wr))
  case atStart => exact ⟨0, rfl, by omega, by omega, by rw [swR_zero]; exact HS⟩
  case round =>
    obtain ⟨i, rfl, hi, hk, S1⟩ := hrel
    by_cases hlt : i < n
    · have hds : (swR A X M Y B i).toArray.size = d0.size := by rw [List.size_toArray, swR_length _ _ _ _ _ _ HXY.out]; exact HL.out
      have S2 := S1.out.swapped R (a + i) (b + i) (by rw [hds, ← HZ.out]; omega) (by rw [hds, ← HZ.out]; omega)
      have l1 := S1.out.ld1 R hds P (a + i) (by rw [hds, ← HZ.out]; omega)
      have l2 := S1.out.ld1 R hds P (b + i) (by rw [hds, ← HZ.out]; omega)
      have s1 := S1.out.st1 R hds P (a + i) (by rw [hds, ← HZ.out]; omega) (swR A X M Y B i).toArray[b + i]!
      have s2 := S1.out.st2 R hds P (a + i) (b + i) (by rw [hds, ← HZ.out]; omega) (by rw [hds, ← HZ.out]; omega) (swR A X M Y B i).toArray[b + i]! (swR A X M Y B i).toArray[a + i]!
      have n1 : (enc (swR A X M Y B i).toArray[a + i]!).length = K := R.hk _
      have n2 : (enc (swR A X M Y B i).toArray[b + i]!).length = K := R.hk _
      have st := swR_step A X M Y B i HXY.out (by rw [← HN.out]; exact hlt)
      rw [← HB.out, ← HA.out] at st
      rw [st] at S2
      generalize enc (swR A X M Y B i).toArray[a + i]! = cI at S2 l1 s2 n1
      generalize enc (swR A X M Y B i).toArray[b + i]! = cJ at S2 l2 s1 s2 n2
      have H2 := Lib.hid S2
      clear S1 S2 st hds
      have b1 : (a : Int) + (i : Int) < (sz : Int) := by omega
      have b2 : (b : Int) + (i : Int) < (sz : Int) := by omega
      have b3 : (0 : Int) ≤ (a : Int) + (i : Int) := by omega
      have b4 : (0 : Int) ≤ (b : Int) + (i : Int) := by omega
      have b5 : ((a : Int) + (i : Int)).toNat = a + i := by omega
      have b6 : ((b : Int) + (i : Int)).toNat = b + i := by omega
      go_wp2_with fail
      have W1 : IntKind.i64.wrap ((a : Int) + (i : Int)) = (a : Int) + (i : Int) := by rw [IntKind.wrap_i64]; omega
      have W2 : IntKind.i64.wrap ((b : Int) + (i : Int)) = (b : Int) + (i : Int) := by rw [IntKind.wrap_i64]; omega
      go_big_region_o
      clear W1 W2 b5 b6 l1 l2 s1 s2
      go_wp2
      go_roundg (n - (i + 1))
      case measure => omega
      case rel => exact ⟨i + 1, by go_num, by omega, Nat.le_refl _, H2⟩
    · obtain rfl : i = n := by omega
      go_wp2
      go_end0
      refine ⟨rfl, ?_⟩
      have := S1.out
      rw [HN.out, swR_all _ _ _ _ _ HXY.out] at this
      exact this
end Go.Proofs.YtgllddebodfhkaaGreatDoor.StabLot
namespace Go.Proofs.YtgllddebodfhkaaGreatDoor.StabLot
open Go.Sort Go.RowKit Go.Lib Go.Proofs Go.Proofs.YtgllddebodfhkaaGreatDoor.Stab
variable {α : Type} [Inhabited α]

set_option maxHeartbeats 600000 in
set_option maxRecDepth 1000000 in
theorem rotate_any {P : Program} {K : Nat} (L : Fits P K) (enc : α → List Value) (g : Nat) (cb : Array Value) (blk off cap : Nat) (d0 : Array α) (w0 w : World) (R : RowK enc K w0 blk off d0) (A U V B : List α) (hU : 0 < U.length) (hV : 0 < V.length)
    (a m b sz : Nat) (hsz0 : sz = d0.size) (ha : a = A.length) (hm : m = A.length + U.length) (hb : b = A.length + U.length + V.length)
    (hlen : A.length + U.length + V.length + B.length = d0.size) (hsz : sz < 4611686018427387904) (S : SWK enc K w0 blk off (A ++ (U ++ (V ++ B))).toArray w) :
    Calls P 207 #[.slice (some ⟨blk, off, none⟩) sz cap, .int .i64 (a : Nat), .int .i64 (m : Nat), .int .i64 (b : Nat), .func (.func g) #[] cb] w fun e w' =>
      e = .returned (.tuple #[]) ∧ SWK enc K w0 blk off (A ++ (V ++ (U ++ B))).toArray w' := by
  have f1 : a < m := by omega
  have f2 : m < b := by omega
  have f3 : b ≤ sz := by omega
  have HS := Lib.hid S
  have HF := Lib.hid (And.intro hsz0 (And.intro ha (And.intro hm (And.intro hb hlen))))
  have HR := Lib.hid R
  clear S R hsz0 ha hm hb hlen
  have mixed := L.mixed; have t0 := L.t0; have a0 := L.a0; have z0 := L.z0; have v0 := L.v0; have t3 := L.t3; have a3 := L.a3; have z3 := L.z3; have v3 := L.v3; have t4 := L.t4; have a4 := L.a4; have z4 := L.z4; have v4 := L.v4; have tU := L.tU; have aU := L.aU; have zU := L.zU; have vU := L.vU; have tS := L.tS; have aS := L.aS; have zS := L.zS; have vS := L.vS; have tF := L.tF; have aF := L.aF; have zF := L.zF; have vF := L.vF; have aE := L.aE; have zE := L.zE
  have eSw : ∀ args w, (callFunc 228 args).run P w = .ok (.enter 228 args) w := enters_of L.fSwap (by kernel_rfl) rfl
  have FG := L.fRot
  go_enter FG, Tryz.ntmps207
  go_wp2
  go_loopg [10, 11] (b - a) (fun kx si sj wr => ∃ (i j : Nat) (A' U' V' B' : List α), si = .int .i64 i ∧ sj = .int .i64 j ∧ 0 < i ∧ 0 < j ∧ i + j ≤ kx ∧ i ≤ m ∧ m + j ≤ b ∧ Hid (i = U'.length ∧ j = V'.length ∧ A'.length + i = m ∧ A'.length + i + j + B'.length = d0.size ∧ A' ++ (V' ++ (U' ++ B')) = A ++ (V ++ (U ++ B)) ∧ SWK enc K w0 blk off (A' ++ (U' ++ (V' ++ B'))).toArray wr))
  case atStart =>
    obtain ⟨q1, q2, q3, q4, q5⟩ := HF.out
    exact ⟨m - a, b - m, A, U, V, B, by congr 1; omega, by congr 1; omega, by omega, by omega, by omega, by omega, by omega, ⟨by omega, by omega, by omega, by omega, rfl, HS.out⟩⟩
  case round =>
    obtain ⟨i, j, A', U', V', B', rfl, rfl, hi, hj, hk, hm, hb, H⟩ := hrel
    by_cases hij : i = j
    · subst hij
      go_wp2_with fail
      obtain ⟨q1, q2, q3, q4, q5⟩ := HF.out
      obtain ⟨h1, h2, h3, h4, h5, h6⟩ := H.out
      have hc := swapRange_any L enc g cb blk off cap d0 w0 wr HR.out A' U' [] V' B' (by omega) (by simp; omega) (by omega) (by simpa using h6) ((m : Int) - (i : Int)) (m : Int) (i : Int) (by omega) (by simp; omega) (by omega)
      rw [← q1] at hc
      refine hc.mono ?_
      rintro e w1 ⟨rfl, S1⟩
      rw [List.nil_append, h5] at S1
      have H1 := Lib.hid S1
      clear S1 hc q1 q2 q3 q4 q5 h1 h2 h3 h4 h5 h6
      go_wp2
      go_end0
      exact ⟨rfl, H1.out⟩
    · by_cases hgt : j < i
      · have hz1 : (j : Int) < (i : Int) := by omega
        have hz2 : ¬ (i : Int) = (j : Int) := by omega
        go_wp2_with fail
        obtain ⟨q1, q2, q3, q4, q5⟩ := HF.out
        obtain ⟨h1, h2, h3, h4, h5, h6⟩ := H.out
        have e1 : U' = U'.take j ++ U'.drop j := (List.take_append_drop _ _).symm
        have n1 : (U'.take j).length = j := by rw [List.length_take]; omega
        have n2 : (U'.drop j).length = i - j := by rw [List.length_drop]; omega
        have hc := swapRange_any L enc g cb blk off cap d0 w0 wr HR.out A' (U'.take j) (U'.drop j) V' B' (by omega) (by omega) (by omega) (by rw [← List.append_assoc (U'.take j), ← e1]; exact h6) ((m : Int) - (i : Int)) (m : Int) (j : Int) (by omega) (by omega) (by omega)
        rw [← q1] at hc
        refine hc.mono ?_
        rintro e w1 ⟨rfl, S1⟩
        have e5 : (A' ++ V') ++ (U'.take j ++ (U'.drop j ++ B')) = A ++ (V ++ (U ++ B)) := by
          rw [← h5, ← List.append_assoc (U'.take j), ← e1, List.append_assoc]
        have H1 : Hid (i - j = (U'.drop j).length ∧ j = (U'.take j).length ∧ (A' ++ V').length + (i - j) = m ∧ (A' ++ V').length + (i - j) + j + B'.length = d0.size ∧ (A' ++ V') ++ (U'.take j ++ (U'.drop j ++ B')) = A ++ (V ++ (U ++ B)) ∧ SWK enc K w0 blk off ((A' ++ V') ++ (U'.drop j ++ (U'.take j ++ B'))).toArray w1) :=
          ⟨n2.symm, n1.symm, by rw [List.length_append]; omega, by rw [List.length_append]; omega, e5, by rw [List.append_assoc]; exact S1⟩
        clear S1 hc q1 q2 q3 q4 q5 h1 h2 h3 h4 h5 h6 e1 n1 n2 e5
        go_wp2
        go_roundg (i - j + j)
        case measure => omega
        case rel => exact ⟨i - j, j, _, _, _, _, by congr 1; omega, rfl, by omega, by omega, Nat.le_refl _, by omega, by omega, H1⟩
      · have hz1 : ¬ (j : Int) < (i : Int) := by omega
        have hz2 : ¬ (i : Int) = (j : Int) := by omega
        go_wp2_with fail
        obtain ⟨q1, q2, q3, q4, q5⟩ := HF.out
        obtain ⟨h1, h2, h3, h4, h5, h6⟩ := H.out
        have e1 : V'.take (j - i) ++ V'.drop (j - i) = V' := List.take_append_drop _ _
        have n1 : (V'.take (j - i)).length = j - i := by rw [List.length_take]; omega
        have n2 : (V'.drop (j - i)).length = i := by rw [List.length_drop]; omega
        have hc := swapRange_any L enc g cb blk off cap d0 w0 wr HR.out A' U' (V'.take (j - i)) (V'.drop (j - i)) B' (by omega) (by omega) (by omega) (by rw [← List.append_assoc (V'.take (j - i)), e1]; exact h6) ((m : Int) - (i : Int)) ((m : Int) + (j : Int) - (i : Int)) (i : Int) (by omega) (by omega) (by omega)
        rw [← q1] at hc
        refine hc.mono ?_
        rintro e w1 ⟨rfl, S1⟩
        have e5 : A' ++ (V'.take (j - i) ++ (V'.drop (j - i) ++ (U' ++ B'))) = A ++ (V ++ (U ++ B)) := by
          rw [← h5, ← List.append_assoc (V'.take (j - i)), e1]
        have H1 : Hid (i = (V'.drop (j - i)).length ∧ j - i = (V'.take (j - i)).length ∧ A'.length + i = m ∧ A'.length + i + (j - i) + (U' ++ B').length = d0.size ∧ A' ++ (V'.take (j - i) ++ (V'.drop (j - i) ++ (U' ++ B'))) = A ++ (V ++ (U ++ B)) ∧ SWK enc K w0 blk off (A' ++ (V'.drop (j - i) ++ (V'.take (j - i) ++ (U' ++ B')))).toArray w1) :=
          ⟨n2.symm, n1.symm, h3, by rw [List.length_append]; omega, e5, S1⟩
        clear S1 hc q1 q2 q3 q4 q5 h1 h2 h3 h4 h5 h6 e1 n1 n2 e5
        go_wp2
        go_roundg (i + (j - i))
        case measure => omega
        case rel => exact ⟨i, j - i, _, _, _, _, rfl, by congr 1; omega, by omega, by omega, Nat.le_refl _, by omega, by omega, H1⟩
end Go.Proofs.YtgllddebodfhkaaGreatDoor.StabLot
namespace Go.Proofs.YtgllddebodfhkaaGreatDoor.StabLot
open Go.Sort Go.RowKit Go.Lib Go.Proofs Go.Proofs.YtgllddebodfhkaaGreatDoor.Stab
variable {α : Type} [Inhabited α]

set_option maxHeartbeats 1000000 in
set_option maxRecDepth 1000000 in
theorem sym_one {P : Program} {K : Nat} (L : Fits P K) (enc : α → List Value) (cf : α → α → Int) (hO : SWO (ltOf cf)) (g : Nat) (cb : Array Value) (eg : ∀ args w, (callFunc g args).run P w = .ok (.enter g args) w) (blk off cap : Nat) (d0 : Array α) (w0 w : World) (R : RowK enc K w0 blk off d0) (hC : CmpLays P g cb enc K cf blk off d0.size w0)
    (A V B : List α) (x : α) (hV : Srt (ltOf cf) V) (a m b sz : Nat) (hsz0 : sz = d0.size) (ha : a = A.length) (hm : m = a + 1) (hb : b = m + V.length) (hV0 : 0 < V.length)
    (hlen : A.length + 1 + V.length + B.length = d0.size) (hsz : sz < 4611686018427387904) (S : SWK enc K w0 blk off (A ++ ([x] ++ (V ++ B))).toArray w) :
    Calls P 174 #[.slice (some ⟨blk, off, none⟩) sz cap, .int .i64 (a : Nat), .int .i64 (m : Nat), .int .i64 (b : Nat), .func (.func g) #[] cb] w fun e w' =>
      e = .returned (.tuple #[]) ∧ SWK enc K w0 blk off (A ++ (mrg (ltOf cf) [x] V ++ B)).toArray w' := by
  have f1 : a < m := by omega
  have f2 : m < b := by omega
  have f3 : b ≤ sz := by omega
  have f4 : (m : Int) - (a : Int) = 1 := by omega
  have HS := Lib.hid S
  have HF := Lib.hid (And.intro hsz0 (And.intro ha (And.intro hm (And.intro hb hlen))))
  have HR := Lib.hid R
  have HC := Lib.hid hC
  have HO := Lib.hid hO
  have HV := Lib.hid hV
  have F4 := Lib.hid f4
  obtain ⟨d, hd⟩ : ∃ d, d = (A ++ ([x] ++ (V ++ B))).toArray := ⟨_, rfl⟩
  have HD := Lib.hid hd
  have hds : d.size = d0.size := by rw [hd]; simp; omega
  have HDS := Lib.hid hds
  have HX := Lib.hid (show d[a]! = x by rw [hd]; exact get_in A [x] (V ++ B) 0 a (by simp) (by omega))
  have HVG := Lib.hid (show ∀ t (h : t < V.length), d[m + t]! = V[t] from fun t h => by
    rw [hd, show A ++ ([x] ++ (V ++ B)) = (A ++ [x]) ++ (V ++ B) by simp]; exact get_in (A ++ [x]) V B t (m + t) h (by simp; omega))
  rw [← hd] at HS
  clear S R hC hO hV hsz0 ha hm hb hlen hd hds f4
  have mixed := L.mixed; have t0 := L.t0; have a0 := L.a0; have z0 := L.z0; have v0 := L.v0; have t3 := L.t3; have a3 := L.a3; have z3 := L.z3; have v3 := L.v3; have t4 := L.t4; have a4 := L.a4; have z4 := L.z4; have v4 := L.v4; have tU := L.tU; have aU := L.aU; have zU := L.zU; have vU := L.vU; have tS := L.tS; have aS := L.aS; have zS := L.zS; have vS := L.vS; have tF := L.tF; have aF := L.aF; have zF := L.zF; have vF := L.vF; have aE := L.aE; have zE := L.zE
  have FG := L.fSym
  go_enter FG, Tryz.ntmps174
  have hmi : ((m : Int) - (a : Int) == 1) = true := by have := F4.out; simp; omega
  have hmi' : (m : Int) - (a : Int) = 1 := F4.out
  go_wp2
  clear hmi hmi'
  go_loopg [10, 11] (b - m) (fun kx si sj wr => ∃ (i j : Nat), si = .int .i64 i ∧ sj = .int .i64 j ∧ m ≤ i ∧ i ≤ j ∧ j ≤ b ∧ j - i ≤ kx ∧ Hid ((i = m ∨ ∃ h : i - m - 1 < V.length, ltOf cf V[i - m - 1] x = true) ∧ (j = b ∨ ∃ h : j - m < V.length, ltOf cf V[j - m] x = false)) ∧ Hid (SWK enc K w0 blk off d wr))
  case atStart => exact ⟨m, b, rfl, rfl, Nat.le_refl _, by omega, Nat.le_refl _, Nat.le_refl _, ⟨.inl rfl, .inl rfl⟩, HS⟩
  case round =>
    obtain ⟨i, j, rfl, rfl, hi, hij, hj, hk, HI, S1⟩ := hrel
    by_cases hlt : i < j
    · obtain ⟨h, hh⟩ : ∃ h, h = (i + j) / 2 := ⟨_, rfl⟩
      have hh2 : ((i : Int) + (j : Int)) / 2 = (h : Int) := by omega
      have h1 : m ≤ h := by omega
      have h2 : h < j := by omega
      have ht : h - m < V.length := by have := HF.out; omega
      have hdy : d[h]! = V[h - m] := by have := HVG.out (h - m) ht; rw [show m + (h - m) = h by omega] at this; exact this
      obtain ⟨y, hy⟩ : ∃ y, y = V[h - m] := ⟨_, rfl⟩
      have HY := Lib.hid hy
      rw [← hy] at hdy
      have hsz1 : d.size = d0.size := HDS.out
      have hszd : d.size = sz := by rw [HDS.out]; exact HF.out.1.symm
      have lj : ∀ n os, Sem.run P (loadCellsFrom ⟨blk, off + h * K, none⟩ 0 K #[]) (grow (wr.drewN n) os) = .ok (enc y).toArray (grow (wr.drewN n) os) := fun n os => by
        rw [← hdy]; exact S1.out.ld HR.out hsz1 P h (by omega) n os
      have lp : ∀ n os, Sem.run P (loadCellsFrom ⟨blk, off + a * K, none⟩ 0 K #[]) (grow (wr.drewN n) os) = .ok (enc x).toArray (grow (wr.drewN n) os) := fun n os => by
        rw [← HX.out]; exact S1.out.ld HR.out hsz1 P a (by omega) n os
      have hcg : ∀ n os, Calls P g (#[.agg (enc y).toArray, .agg (enc x).toArray] ++ cb) (grow (wr.drewN n) os) fun e w' => e = .returned (.int .i64 (cf y x)) ∧ ∃ q os', w' = grow ((grow (wr.drewN n) os).drewN q) os' := fun n os => S1.out.cmp HC.out hsz1 y x n os
      have b1 : (h : Int) < (sz : Int) := by omega
      have b2 : (a : Int) < (sz : Int) := by omega
      have b3 : (i : Int) < (j : Int) := by omega
      have HH := Lib.hid hh
      clear hdy hsz1 hszd hy hh
      by_cases hlv : cf y x < 0
      · go_wp2_with fail
        go_quiet_grown (first | (go_at_fn g; refine Calls.grown_of (hcg _ _)))
        have S2 := Lib.hid (S1.out.grown nq osq)
        clear lj lp hcg b1 b2
        go_wp2
        go_roundg (j - (h + 1))
        case measure => omega
        case rel =>
          refine ⟨h + 1, j, by go_num, rfl, by omega, by omega, hj, Nat.le_refl _, ⟨.inr ?_, HI.out.2⟩, S2⟩
          have e1 : h + 1 - m - 1 = h - m := by omega
          refine ⟨by omega, ?_⟩
          have e2 : V[h + 1 - m - 1]'(by omega) = y := by rw [HY.out]; congr 1
          rw [e2]; exact decide_eq_true hlv
      · go_wp2_with fail
        go_quiet_grown (first | (go_at_fn g; refine Calls.grown_of (hcg _ _)))
        have S2 := Lib.hid (S1.out.grown nq osq)
        clear lj lp hcg b1 b2
        go_wp2
        go_roundg (h - i)
        case measure => omega
        case rel =>
          refine ⟨i, h, rfl, rfl, hi, by omega, by omega, Nat.le_refl _, ⟨HI.out.1, .inr ⟨ht, ?_⟩⟩, S2⟩
          rw [← HY.out]; exact decide_eq_false (by omega)
    · obtain rfl : i = j := by omega
      obtain ⟨q1, q2, q3, q4, q5⟩ := HF.out
      have hst : i - m ≤ V.length := by omega
      have hI := HI.out
      have hm1 := ins_left HO.out x V (i - m) HV.out hst (by
        rcases hI.1 with h | ⟨h, h'⟩
        · exact .inl (by omega)
        · exact .inr ⟨h, h'⟩) (by
        rcases hI.2 with h | ⟨h, h'⟩
        · exact .inl (by omega)
        · exact .inr ⟨h, h'⟩)
      obtain ⟨s, hs⟩ : ∃ s, s = i - m := ⟨_, rfl⟩
      rw [← hs] at hm1 hst
      have HM := Lib.hid hm1
      have e0 : A ++ ([x] ++ (V ++ B)) = shR A x (V.take s) (V.drop s ++ B) 0 := by
        rw [shR_zero, ← List.append_assoc (V.take s), List.take_append_drop]; rfl
      have S2 : Hid (SWK enc K w0 blk off (shR A x (V.take s) (V.drop s ++ B) 0).toArray wr) := by
        rw [← e0, ← HD.out]; exact S1
      have hsl : (V.take s).length = s := by rw [List.length_take]; omega
      have HSL := Lib.hid hsl
      have hszt : ∀ t, (shR A x (V.take s) (V.drop s ++ B) t).toArray.size = d0.size := fun t => by
        rw [List.size_toArray, shR_length, List.length_append, List.length_drop, HSL.out]; omega
      have HST := Lib.hid hszt
      have his : (i : Int) = (m : Int) + (s : Int) := by omega
      have hms : (m : Int) = (a : Int) + 1 := by omega
      have hib : (a : Int) + (s : Int) + 1 ≤ (b : Int) := by omega
      have HMS := Lib.hid hms
      have HIS := Lib.hid his
      clear hI HI S1 hm1 e0 hs hst hsl hszt q1 q2 q3 q4 q5 his hms HX HVG HV HO
      go_wp2
      go_loopg [13] s (fun kx sk wr2 => ∃ t k : Nat, sk = .int .i64 (k : Nat) ∧ a + t ≤ k ∧ k ≤ a + t ∧ t ≤ s ∧ s - t ≤ kx ∧ Hid (SWK enc K w0 blk off (shR A x (V.take s) (V.drop s ++ B) t).toArray wr2))
      case atStart => exact ⟨0, a, rfl, by omega, by omega, by omega, by omega, S2⟩
      case round =>
        obtain ⟨t, k, rfl, hka, hkb, ht, hkx, S3⟩ := hrel
        by_cases htl : t < s
        · have hc1 : (k : Int) < (i : Int) - 1 := by have := HIS.out; have := HMS.out; omega
          have hds := HST.out t
          have hsz1 : d0.size = sz := HF.out.1.symm
          have hka' : A.length = a := HF.out.2.1.symm
          have S4 := S3.out.swapped HR.out k (k + 1) (by omega) (by omega)
          have l1 := S3.out.ld1 HR.out hds P k (by omega)
          have l2 := S3.out.ld1 HR.out hds P (k + 1) (by omega)
          have s1 := S3.out.st1 HR.out hds P k (by omega) (shR A x (V.take s) (V.drop s ++ B) t).toArray[k + 1]!
          have s2 := S3.out.st2 HR.out hds P k (k + 1) (by omega) (by omega) (shR A x (V.take s) (V.drop s ++ B) t).toArray[k + 1]! (shR A x (V.take s) (V.drop s ++ B) t).toArray[k]!
          have n1 : (enc (shR A x (V.take s) (V.drop s ++ B) t).toArray[k]!).length = K := HR.out.hk _
          have n2 : (enc (shR A x (V.take s) (V.drop s ++ B) t).toArray[k + 1]!).length = K := HR.out.hk _
          have st := shR_step A x (V.take s) (V.drop s ++ B) t (by rw [HSL.out]; exact htl)
          rw [show A.length + t = k by omega] at st
          rw [st] at S4
          generalize enc (shR A x (V.take s) (V.drop s ++ B) t).toArray[k]! = cI at S4 l1 s2 n1
          generalize enc (shR A x (V.take s) (V.drop s ++ B) t).toArray[k + 1]! = cJ at S4 l2 s1 s2 n2
          have H4 := Lib.hid S4
          clear S3 S4 st hds hsz1 hka'
          have b1 : (k : Int) < (sz : Int) := by omega
          have b2 : (k : Int) + 1 < (sz : Int) := by omega
          have b3 : (0 : Int) ≤ (k : Int) := by omega
          have b4 : (0 : Int) ≤ (k : Int) + 1 := by omega
          have b6 : ((k : Int) + 1).toNat = k + 1 := by omega
          go_wp2_with fail
          have W1 : IntKind.i64.wrap ((k : Int)) = (k : Int) := by rw [IntKind.wrap_i64]; omega
          have W2 : IntKind.i64.wrap ((k : Int) + 1) = (k : Int) + 1 := by rw [IntKind.wrap_i64]; omega
          go_big_region_o
          clear W1 W2 b6 l1 l2 s1 s2
          go_wp2
          go_roundg (s - (t + 1))
          case measure => omega
          case rel => exact ⟨t + 1, k + 1, by go_num, by omega, by omega, by omega, Nat.le_refl _, H4⟩
        · have hc1 : ¬ (k : Int) < (i : Int) - 1 := by have := HIS.out; have := HMS.out; omega
          go_wp2
          (try simp only [Exit.inBlock, Exit.then]); refine bodyPost_ret (results_none rfl _ _ _) rfl ?_
          refine ⟨rfl, ?_⟩
          have h9 := S3.out
          have e9 := shR_all A x (V.take s) (V.drop s ++ B)
          rw [HSL.out] at e9
          rw [show t = s by omega, e9] at h9
          rw [HM.out, List.append_assoc]
          exact h9
end Go.Proofs.YtgllddebodfhkaaGreatDoor.StabLot
namespace Go.Proofs.YtgllddebodfhkaaGreatDoor.StabLot
open Go.Sort Go.RowKit Go.Lib Go.Proofs Go.Proofs.YtgllddebodfhkaaGreatDoor.Stab
variable {α : Type} [Inhabited α]

set_option maxHeartbeats 1000000 in
set_option maxRecDepth 1000000 in
theorem sym_last {P : Program} {K : Nat} (L : Fits P K) (enc : α → List Value) (cf : α → α → Int) (hO : SWO (ltOf cf)) (g : Nat) (cb : Array Value) (eg : ∀ args w, (callFunc g args).run P w = .ok (.enter g args) w) (blk off cap : Nat) (d0 : Array α) (w0 w : World) (R : RowK enc K w0 blk off d0) (hC : CmpLays P g cb enc K cf blk off d0.size w0)
    (A U B : List α) (x : α) (hV : Srt (ltOf cf) U) (a m b sz : Nat) (hsz0 : sz = d0.size) (ha : a = A.length) (hm : m = a + U.length) (hb : b = m + 1) (hV0 : 2 ≤ U.length)
    (hlen : A.length + U.length + 1 + B.length = d0.size) (hsz : sz < 4611686018427387904) (S : SWK enc K w0 blk off (A ++ (U ++ ([x] ++ B))).toArray w) :
    Calls P 174 #[.slice (some ⟨blk, off, none⟩) sz cap, .int .i64 (a : Nat), .int .i64 (m : Nat), .int .i64 (b : Nat), .func (.func g) #[] cb] w fun e w' =>
      e = .returned (.tuple #[]) ∧ SWK enc K w0 blk off (A ++ (mrg (ltOf cf) U [x] ++ B)).toArray w' := by
  have f1 : a < m := by omega
  have f2 : m < b := by omega
  have f3 : b ≤ sz := by omega
  have f4 : (b : Int) - (m : Int) = 1 ∧ ¬ (m : Int) - (a : Int) = 1 := by omega
  have HS := Lib.hid S
  have HF := Lib.hid (And.intro hsz0 (And.intro ha (And.intro hm (And.intro hb hlen))))
  have HR := Lib.hid R
  have HC := Lib.hid hC
  have HO := Lib.hid hO
  have HV := Lib.hid hV
  have F4 := Lib.hid f4
  obtain ⟨d, hd⟩ : ∃ d, d = (A ++ (U ++ ([x] ++ B))).toArray := ⟨_, rfl⟩
  have HD := Lib.hid hd
  have hds : d.size = d0.size := by rw [hd]; simp; omega
  have HDS := Lib.hid hds
  have HX := Lib.hid (show d[m]! = x by rw [hd, ← List.append_assoc]; exact get_in (A ++ U) [x] B 0 m (by simp) (by simp; omega))
  have HVG := Lib.hid (show ∀ t (h : t < U.length), d[a + t]! = U[t] from fun t h => by
    rw [hd]; exact get_in A U ([x] ++ B) t (a + t) h (by omega))
  rw [← hd] at HS
  clear S R hC hO hV hsz0 ha hm hb hlen hd hds f4
  have mixed := L.mixed; have t0 := L.t0; have a0 := L.a0; have z0 := L.z0; have v0 := L.v0; have t3 := L.t3; have a3 := L.a3; have z3 := L.z3; have v3 := L.v3; have t4 := L.t4; have a4 := L.a4; have z4 := L.z4; have v4 := L.v4; have tU := L.tU; have aU := L.aU; have zU := L.zU; have vU := L.vU; have tS := L.tS; have aS := L.aS; have zS := L.zS; have vS := L.vS; have tF := L.tF; have aF := L.aF; have zF := L.zF; have vF := L.vF; have aE := L.aE; have zE := L.zE
  have FG := L.fSym
  go_enter FG, Tryz.ntmps174
  have hmi : ((m : Int) - (a : Int) == 1) = false := by have := F4.out; simp; omega
  have hmi' : ¬ (m : Int) - (a : Int) = 1 := F4.out.2
  have hmj : ((b : Int) - (m : Int) == 1) = true := by have := F4.out; simp; omega
  have hmj' : (b : Int) - (m : Int) = 1 := F4.out.1
  go_wp2
  clear hmi hmi' hmj hmj'
  go_loopg [14, 15] (m - a) (fun kx si sj wr => ∃ (i j : Nat), si = .int .i64 i ∧ sj = .int .i64 j ∧ a ≤ i ∧ i ≤ j ∧ j ≤ m ∧ j - i ≤ kx ∧ Hid ((i = a ∨ ∃ h : i - a - 1 < U.length, ltOf cf x U[i - a - 1] = false) ∧ (j = m ∨ ∃ h : j - a < U.length, ltOf cf x U[j - a] = true)) ∧ Hid (SWK enc K w0 blk off d wr))
  case atStart => exact ⟨a, m, rfl, rfl, Nat.le_refl _, by omega, Nat.le_refl _, Nat.le_refl _, ⟨.inl rfl, .inl rfl⟩, HS⟩
  case round =>
    obtain ⟨i, j, rfl, rfl, hi, hij, hj, hk, HI, S1⟩ := hrel
    by_cases hlt : i < j
    · obtain ⟨h, hh⟩ : ∃ h, h = (i + j) / 2 := ⟨_, rfl⟩
      have hh2 : ((i : Int) + (j : Int)) / 2 = (h : Int) := by omega
      have h1 : a ≤ h := by omega
      have h2 : h < j := by omega
      have ht : h - a < U.length := by have := HF.out; omega
      have hdy : d[h]! = U[h - a] := by have := HVG.out (h - a) ht; rw [show a + (h - a) = h by omega] at this; exact this
      obtain ⟨y, hy⟩ : ∃ y, y = U[h - a] := ⟨_, rfl⟩
      have HY := Lib.hid hy
      rw [← hy] at hdy
      have hsz1 : d.size = d0.size := HDS.out
      have hszd : d.size = sz := by rw [HDS.out]; exact HF.out.1.symm
      have lj : ∀ n os, Sem.run P (loadCellsFrom ⟨blk, off + h * K, none⟩ 0 K #[]) (grow (wr.drewN n) os) = .ok (enc y).toArray (grow (wr.drewN n) os) := fun n os => by
        rw [← hdy]; exact S1.out.ld HR.out hsz1 P h (by omega) n os
      have lp : ∀ n os, Sem.run P (loadCellsFrom ⟨blk, off + m * K, none⟩ 0 K #[]) (grow (wr.drewN n) os) = .ok (enc x).toArray (grow (wr.drewN n) os) := fun n os => by
        rw [← HX.out]; exact S1.out.ld HR.out hsz1 P m (by omega) n os
      have hcg : ∀ n os, Calls P g (#[.agg (enc x).toArray, .agg (enc y).toArray] ++ cb) (grow (wr.drewN n) os) fun e w' => e = .returned (.int .i64 (cf x y)) ∧ ∃ q os', w' = grow ((grow (wr.drewN n) os).drewN q) os' := fun n os => S1.out.cmp HC.out hsz1 x y n os
      have b1 : (h : Int) < (sz : Int) := by omega
      have b2 : (m : Int) < (sz : Int) := by omega
      have b3 : (i : Int) < (j : Int) := by omega
      have HH := Lib.hid hh
      clear hdy hsz1 hszd hy hh
      by_cases hlv : ¬ cf x y < 0
      · have hlb : decide (cf x y < 0) = false := decide_eq_false hlv
        go_wp2_with fail
        go_quiet_grown (first | (go_at_fn g; refine Calls.grown_of (hcg _ _)))
        have S2 := Lib.hid (S1.out.grown nq osq)
        clear lj lp hcg b1 b2
        go_wp2
        go_roundg (j - (h + 1))
        case measure => omega
        case rel =>
          refine ⟨h + 1, j, by go_num, rfl, by omega, by omega, hj, Nat.le_refl _, ⟨.inr ?_, HI.out.2⟩, S2⟩
          have e1 : h + 1 - a - 1 = h - a := by omega
          refine ⟨by omega, ?_⟩
          have e2 : U[h + 1 - a - 1]'(by omega) = y := by rw [HY.out]; congr 1
          rw [e2]; exact decide_eq_false (by omega)
      · go_wp2_with fail
        go_quiet_grown (first | (go_at_fn g; refine Calls.grown_of (hcg _ _)))
        have S2 := Lib.hid (S1.out.grown nq osq)
        clear lj lp hcg b1 b2
        go_wp2
        go_roundg (h - i)
        case measure => omega
        case rel =>
          refine ⟨i, h, rfl, rfl, hi, by omega, by omega, Nat.le_refl _, ⟨HI.out.1, .inr ⟨ht, ?_⟩⟩, S2⟩
          rw [← HY.out]; exact decide_eq_true (by omega)
    · obtain rfl : i = j := by omega
      obtain ⟨q1, q2, q3, q4, q5⟩ := HF.out
      have hst : i - a ≤ U.length := by omega
      have hI := HI.out
      have hm1 := ins_right HO.out x U (i - a) HV.out hst (by
        rcases hI.1 with h | ⟨h, h'⟩
        · exact .inl (by omega)
        · exact .inr ⟨h, h'⟩) (by
        rcases hI.2 with h | ⟨h, h'⟩
        · exact .inl (by omega)
        · exact .inr ⟨h, h'⟩)
      obtain ⟨s, hs⟩ : ∃ s, s = i - a := ⟨_, rfl⟩
      rw [← hs] at hm1 hst
      have HM := Lib.hid hm1
      have e0 : A ++ (U ++ ([x] ++ B)) = shR (A ++ U.take s) x (U.drop s) B (U.drop s).length := by
        rw [shR_all, List.append_assoc, ← List.append_assoc (U.take s), List.take_append_drop]; rfl
      obtain ⟨T, hT⟩ : ∃ T, T = (U.drop s).length := ⟨_, rfl⟩
      rw [← hT] at e0
      have S2 : Hid (SWK enc K w0 blk off (shR (A ++ U.take s) x (U.drop s) B T).toArray wr) := by
        rw [← e0, ← HD.out]; exact S1
      have hTl : T = U.length - s := by rw [hT, List.length_drop]
      have hAl : (A ++ U.take s).length = a + s := by rw [List.length_append, List.length_take]; omega
      have hszt : ∀ t, t ≤ T → (shR (A ++ U.take s) x (U.drop s) B t).toArray.size = d0.size := fun t _ => by
        rw [List.size_toArray, shR_length, hAl, ← hT]; omega
      have HST := Lib.hid hszt
      have HAL := Lib.hid hAl
      have HT := Lib.hid hT
      have HIS := Lib.hid (show i = a + s ∧ m = a + s + T by omega)
      have g1 : a + s + T ≤ m := by omega
      have g2 : m ≤ a + s + T := by omega
      have g3 : i ≤ a + s := by omega
      have g4 : a + s ≤ i := by omega
      clear hI HI S1 hm1 e0 hs hst hszt q1 q2 q3 q4 q5 HX HVG HV HO hT hTl hAl
      go_wp2
      go_loopg [17] T (fun kx sk wr2 => ∃ t k : Nat, sk = .int .i64 (k : Nat) ∧ a + s + t ≤ k ∧ k ≤ a + s + t ∧ t ≤ T ∧ t ≤ kx ∧ Hid (SWK enc K w0 blk off (shR (A ++ U.take s) x (U.drop s) B t).toArray wr2))
      case atStart => exact ⟨T, m, rfl, by omega, by omega, by omega, by omega, S2⟩
      case round =>
        obtain ⟨t, k, rfl, hka, hkb, ht, hkx, S3⟩ := hrel
        by_cases htl : 0 < t
        · obtain ⟨t, rfl⟩ : ∃ t', t = t' + 1 := ⟨t - 1, by omega⟩
          obtain ⟨k, rfl⟩ : ∃ k', k = k' + 1 := ⟨k - 1, by omega⟩
          have hc1 : (i : Int) < (k : Int) + 1 := by omega
          have hds := HST.out (t + 1) ht
          have hsz1 : d0.size = sz := HF.out.1.symm
          have hkz : k + 1 < sz := by have := HF.out; omega
          have S4 := S3.out.swapped HR.out (k + 1) k (by omega) (by omega)
          have l1 := S3.out.ld1 HR.out hds P (k + 1) (by omega)
          have l2 := S3.out.ld1 HR.out hds P k (by omega)
          have s1 := S3.out.st1 HR.out hds P (k + 1) (by omega) (shR (A ++ U.take s) x (U.drop s) B (t + 1)).toArray[k]!
          have s2 := S3.out.st2 HR.out hds P (k + 1) k (by omega) (by omega) (shR (A ++ U.take s) x (U.drop s) B (t + 1)).toArray[k]! (shR (A ++ U.take s) x (U.drop s) B (t + 1)).toArray[k + 1]!
          have n1 : (enc (shR (A ++ U.take s) x (U.drop s) B (t + 1)).toArray[k + 1]!).length = K := HR.out.hk _
          have n2 : (enc (shR (A ++ U.take s) x (U.drop s) B (t + 1)).toArray[k]!).length = K := HR.out.hk _
          have st := shL_step (A ++ U.take s) x (U.drop s) B t (by rw [← HT.out]; omega)
          rw [HAL.out, show a + s + t = k by omega] at st
          rw [st] at S4
          generalize enc (shR (A ++ U.take s) x (U.drop s) B (t + 1)).toArray[k + 1]! = cI at S4 l1 s2 n1
          generalize enc (shR (A ++ U.take s) x (U.drop s) B (t + 1)).toArray[k]! = cJ at S4 l2 s1 s2 n2
          have H4 := Lib.hid S4
          clear S3 S4 st hds hsz1
          have b1 : (k : Int) + 1 < (sz : Int) := by omega
          have b2 : (k : Int) < (sz : Int) := by omega
          have b3 : (0 : Int) ≤ (k : Int) := by omega
          have b4 : (0 : Int) ≤ (k : Int) + 1 := by omega
          have b6 : ((k : Int) + 1).toNat = k + 1 := by omega
          go_wp2_with fail
          have W1 : IntKind.i64.wrap ((k : Int)) = (k : Int) := by rw [IntKind.wrap_i64]; omega
          have W2 : IntKind.i64.wrap ((k : Int) + 1) = (k : Int) + 1 := by rw [IntKind.wrap_i64]; omega
          go_big_region_o
          clear W1 W2 b6 l1 l2 s1 s2
          go_wp2
          go_roundg t
          case measure => omega
          case rel => exact ⟨t, k, by first | rfl | go_num | (congr 1; omega), by omega, by omega, by omega, Nat.le_refl _, H4⟩
        · have hc1 : ¬ (i : Int) < (k : Int) := by omega
          obtain rfl : t = 0 := by omega
          go_wp2
          (try simp only [Exit.inBlock, Exit.then]); refine bodyPost_ret (results_none rfl _ _ _) rfl ?_
          refine ⟨rfl, ?_⟩
          have h9 := S3.out
          rw [shR_zero] at h9
          rw [HM.out]
          simp only [List.append_assoc, List.cons_append] at h9 ⊢
          exact h9
end Go.Proofs.YtgllddebodfhkaaGreatDoor.StabLot
