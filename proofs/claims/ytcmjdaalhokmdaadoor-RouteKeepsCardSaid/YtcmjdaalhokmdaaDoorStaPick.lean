/- slices.SortStableFunc at tithebarn/api.Pick: its parts, walked. -/
import Derived.Test.YtcmjdaalhokmdaaDoorStabB
import Derived.Test.YtcmjdaalhokmdaaDoorBase
import Derived.Shelf.SlSortCmp.KitK
import Derived.Deep.LoopGhost
import Derived.Sort.WalkB2
import Derived.Sort.WalkB12
namespace Go.Proofs.YtcmjdaalhokmdaaDoor.StabPick
open Go.Sort Go.RowKit Go.Lib Go.Proofs Go.Proofs.YtcmjdaalhokmdaaDoor.Stab
variable {α : Type} [Inhabited α]

/-- What the walks are told of a program: these functions' texts and types; an element takes k cells. -/
structure Fits (P : Program) (k : Nat) : Prop where
  mixed : P.follows .mixedOrders = true
  fSwap : P.funcs[135]? = some Tryd.f135
  fRot : P.funcs[117]? = some Tryd.f117
  fSym : P.funcs[97]? = some Tryd.f97
  fIns : P.funcs[96]? = some Tryd.f96
  fStab : P.funcs[72]? = some Tryd.f72
  t0 : P.underlying 0 = some (TypeDesc.tuple #[])
  a0 : ∀ w, (isAgg 0).run P w = .ok false w
  z0 : ∀ w, (Go.sizeOf 0).run P w = .ok 1 w
  v0 : ∀ w, (zeroValue 0).run P w = .ok (Value.tuple #[]) w
  t3 : P.underlying 3 = some (TypeDesc.int IntKind.i64)
  a3 : ∀ w, (isAgg 3).run P w = .ok false w
  z3 : ∀ w, (Go.sizeOf 3).run P w = .ok 1 w
  v3 : ∀ w, (zeroValue 3).run P w = .ok (Value.int IntKind.i64 0) w
  t4 : P.underlying 4 = some (TypeDesc.bool)
  a4 : ∀ w, (isAgg 4).run P w = .ok false w
  z4 : ∀ w, (Go.sizeOf 4).run P w = .ok 1 w
  v4 : ∀ w, (zeroValue 4).run P w = .ok (Value.bool false) w
  tU : P.underlying 184 = some (TypeDesc.int IntKind.u64)
  aU : ∀ w, (isAgg 184).run P w = .ok false w
  zU : ∀ w, (Go.sizeOf 184).run P w = .ok 1 w
  vU : ∀ w, (zeroValue 184).run P w = .ok (Value.int IntKind.u64 0) w
  tS : P.underlying 22 = some (TypeDesc.slice 33)
  aS : ∀ w, (isAgg 22).run P w = .ok false w
  zS : ∀ w, (Go.sizeOf 22).run P w = .ok 1 w
  vS : ∀ w, (zeroValue 22).run P w = .ok (Value.slice none 0 0) w
  tF : P.underlying 106 = some (TypeDesc.func #[33, 33] #[3] false)
  aF : ∀ w, (isAgg 106).run P w = .ok false w
  zF : ∀ w, (Go.sizeOf 106).run P w = .ok 1 w
  vF : ∀ w, (zeroValue 106).run P w = .ok (Value.nilFunc) w
  aE : ∀ w, (isAgg 33).run P w = .ok true w
  zE : ∀ w, (Go.sizeOf 33).run P w = .ok k w
theorem fits : Fits Tryd.prog 5 where
  mixed := by kernel_rfl
  fSwap := Tryd.func135
  fRot := Tryd.func117
  fSym := Tryd.func97
  fIns := Tryd.func96
  fStab := Tryd.func72
  t0 := Tryd.underlying0
  a0 := Tryd.isAgg0
  z0 := Tryd.sizeOf0
  v0 := Tryd.zeroValue0
  t3 := Tryd.underlying3
  a3 := Tryd.isAgg3
  z3 := Tryd.sizeOf3
  v3 := Tryd.zeroValue3
  t4 := Tryd.underlying4
  a4 := Tryd.isAgg4
  z4 := Tryd.sizeOf4
  v4 := Tryd.zeroValue4
  tU := Tryd.underlying184
  aU := Tryd.isAgg184
  zU := Tryd.sizeOf184
  vU := Tryd.zeroValue184
  tS := Tryd.underlying22
  aS := Tryd.isAgg22
  zS := Tryd.sizeOf22
  vS := Tryd.zeroValue22
  tF := Tryd.underlying106
  aF := Tryd.isAgg106
  zF := Tryd.sizeOf106
  vF := Tryd.zeroValue106
  aE := Tryd.isAgg33
  zE := Tryd.sizeOf33

set_option maxHeartbeats 600000 in
set_option maxRecDepth 1000000 in
theorem swapRange_any {P : Program} {K : Nat} (L : Fits P K) (enc : α → List Value) (g : Nat) (cb : Array Value) (blk off cap : Nat) (d0 : Array α) (w0 w : World) (R : RowK enc K w0 blk off d0) (A X M Y B : List α) (hXY : X.length = Y.length)
    (hlen : A.length + X.length + M.length + Y.length + B.length = d0.size) (hsz : d0.size < 4611686018427387904) (S : SWK enc K w0 blk off (A ++ (X ++ (M ++ (Y ++ B)))).toArray w)
    (ai bi ni : Int) (ha : ai = (A.length : Nat)) (hb : bi = (A.length + X.length + M.length : Nat)) (hn : ni = (X.length : Nat)) :
    Calls P 135 #[.slice (some ⟨blk, off, none⟩) d0.size cap, .int .i64 ai, .int .i64 bi, .int .i64 ni, .func (.func g) #[] cb] w fun e w' =>
      e = .returned (.tuple #[]) ∧ SWK enc K w0 blk off (A ++ (Y ++ (M ++ (X ++ B)))).toArray w' := by
  subst ha hb hn
  have HS := Lib.hid S
  have HXY := Lib.hid hXY
  have hle : A.length + X.length + M.length + X.length ≤ d0.size := by omega
  have HL := Lib.hid hlen
  clear S hXY hlen
  obtain ⟨a, hA⟩ : ∃ a, a = A.length := ⟨_, rfl⟩
  obtain ⟨n, hN⟩ : ∃ n, n = X.length := ⟨_, rfl⟩
  obtain ⟨b, hB⟩ : ∃ b, b = A.length + X.length + M.length := ⟨_, rfl⟩
  obtain ⟨sz, hSZ⟩ : ∃ s, s = d0.size := ⟨_, rfl⟩
  have HA := Lib.hid hA
  have HN := Lib.hid hN
  have HB := Lib.hid hB
  have HZ := Lib.hid hSZ
  have hab : a + n ≤ b := by omega
  rw [← hB, ← hN, ← hSZ] at hle
  rw [← hSZ] at hsz
  rw [← hB, ← hA, ← hN, ← hSZ]
  clear hA hN hB hSZ
  have mixed := L.mixed; have t0 := L.t0; have a0 := L.a0; have z0 := L.z0; have v0 := L.v0; have t3 := L.t3; have a3 := L.a3; have z3 := L.z3; have v3 := L.v3; have t4 := L.t4; have a4 := L.a4; have z4 := L.z4; have v4 := L.v4; have tU := L.tU; have aU := L.aU; have zU := L.zU; have vU := L.vU; have tS := L.tS; have aS := L.aS; have zS := L.zS; have vS := L.vS; have tF := L.tF; have aF := L.aF; have zF := L.zF; have vF := L.vF; have aE := L.aE; have zE := L.zE
  have FG := L.fSwap
  go_enter FG, Tryd.ntmps135
  go_wp2
  go_loopg [10] n (fun kx s10 wr => ∃ i : Nat, s10 = .int .i64 i ∧ i ≤ n ∧ n - i ≤ kx ∧ Hid (SWK enc K w0 blk off (swR A X M Y B i).toArray wr))
  case atStart => exact ⟨0, rfl, by omega, by omega, by rw [swR_zero]; exact HS⟩
  case round =>
    obtain ⟨i, rfl, hi, hk, S1⟩ := hrel
    by_cases hlt : i < n
    · have hds : (swR A X M Y B i).toArray.size = d0.size := by rw [List.size_toArray, swR_length _ _ _ _ _ _ HXY.out]; exact HL.out
      have S2 := S1.out.swapped R (a + i) (b + i) (by rw [hds, ← HZ.out]; omega) (by rw [hds, ← HZ.out]; omega)
      have l1 := S1.out.ld1 R hds P (a + i) (by rw [hds, ← HZ.out]; omega)
      have l2 := S1.out.ld1 R hds P (b + i) (by rw [hds, ← HZ.out]; omega)
      have s1 := S1.out.st1 R hds P (a + i) (by rw [hds, ← HZ.out]; omega) (swR A X M Y B i).toArray[b + i]!
      have s2 := S1.out.st2 R hds P (a + i) (b + i) (by rw [hds, ← HZ.out]; omega) (by rw [hds, ← HZ.out]; omega) (swR A X M Y B i).toArray[b + i]! (swR A X M Y B i).toArray[a + i]!
      have n1 : (enc (swR A X M Y B i).toArray[a + i]!).length = K := R.hk _
      have n2 : (enc (swR A X M Y B i).toArray[b + i]!).length = K := R.hk _
      have st := swR_step A X M Y B i HXY.out (by rw [← HN.out]; exact hlt)
      rw [← HB.out, ← HA.out] at st
      rw [st] at S2
      generalize enc (swR A X M Y B i).toArray[a + i]! = cI at S2 l1 s2 n1
      generalize enc (swR A X M Y B i).toArray[b + i]! = cJ at S2 l2 s1 s2 n2
      have H2 := Lib.hid S2
      clear S1 S2 st hds
      have b1 : (a : Int) + (i : Int) < (sz : Int) := by omega
      have b2 : (b : Int) + (i : Int) < (sz : Int) := by omega
      have b3 : (0 : Int) ≤ (a : Int) + (i : Int) := by omega
      have b4 : (0 : Int) ≤ (b : Int) + (i : Int) := by omega
      have b5 : ((a : Int) + (i : Int)).toNat = a + i := by omega
      have b6 : ((b : Int) + (i : Int)).toNat = b + i := by omega
      go_wp2_with fail
      have W1 : IntKind.i64.wrap ((a : Int) + (i : Int)) = (a : Int) + (i : Int) := by rw [IntKind.wrap_i64]; omega
      have W2 : IntKind.i64.wrap ((b : Int) + (i : Int)) = (b : Int) + (i : Int) := by rw [IntKind.wrap_i64]; omega
      go_big_region_o
      clear W1 W2 b5 b6 l1 l2 s1 s2
      go_wp2
      go_roundg (n - (i + 1))
      case measure => omega
      case rel => exact ⟨i + 1, by go_num, by omega, Nat.le_refl _, H2⟩
    · obtain rfl : i = n := by omega
      go_wp2
      go_end0
      refine ⟨rfl, ?_⟩
      have := S1.out
      rw [HN.out, swR_all _ _ _ _ _ HXY.out] at this
      exact this
end Go.Proofs.YtcmjdaalhokmdaaDoor.StabPick
