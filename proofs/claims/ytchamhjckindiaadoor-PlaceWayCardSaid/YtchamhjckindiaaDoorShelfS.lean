/- Contracts of the library at this translation: laid by the kit's shelf (lay-shelf, lay-plain), those alone that the claim uses. -/
import Derived.Shelf.SlicesE.Clone
import Derived.Shelf.SlSortCmp.KitK
import Derived.Test.YtchamhjckindiaaDoorProg
namespace Go.Proofs
open Go.Shelf
def Tryd.insLot_ren : Go.Shelf.Ren := ⟨fun | 20 => 100 | n => n, fun | 24 => 44 | 22 => 41 | 3 => 3 | 25 => 91 | 4 => 4 | 0 => 0 | n => n, fun | n => n⟩
theorem Tryd.insLot : Go.Proofs.SlLaysF0.n20 Tryd.prog Tryd.insLot_ren := {
  mixed := by kernel_rfl
  f20 := ⟨Tryd.f100.name, by decide, Tryd.func100.trans (congrArg some (by kernel_rfl))⟩
  t0 := Tryd.underlying0
  a0 := Tryd.isAgg0
  z0 := Tryd.sizeOf0
  v0 := Tryd.zeroValue0
  t3 := Tryd.underlying3
  a3 := Tryd.isAgg3
  z3 := Tryd.sizeOf3
  v3 := Tryd.zeroValue3
  t4 := Tryd.underlying4
  a4 := Tryd.isAgg4
  z4 := Tryd.sizeOf4
  v4 := Tryd.zeroValue4
  t22 := Tryd.underlying41
  a22 := Tryd.isAgg41
  z22 := Tryd.sizeOf41
  v22 := Tryd.zeroValue41
  t25 := Tryd.underlying91
  a25 := Tryd.isAgg91
  z25 := Tryd.sizeOf91
  v25 := Tryd.zeroValue91 }
def Tryd.cloneLot_ren : Go.Shelf.Ren := ⟨fun | 41 => 49 | n => n, fun | 22 => 41 | 23 => 44 | 4 => 4 | n => n, fun | n => n⟩
theorem Tryd.cloneLot : Go.Proofs.SlLaysE0.n41 Tryd.prog Tryd.cloneLot_ren := {
  mixed := by kernel_rfl
  f41 := ⟨Tryd.f49.name, by decide, Tryd.func49.trans (congrArg some (by kernel_rfl))⟩
  t4 := Tryd.underlying4
  a4 := Tryd.isAgg4
  z4 := Tryd.sizeOf4
  v4 := Tryd.zeroValue4
  t22 := Tryd.underlying41
  a22 := Tryd.isAgg41
  z22 := Tryd.sizeOf41
  v22 := Tryd.zeroValue41 }
def Tryd.insPlace_ren : Go.Shelf.Ren := ⟨fun | 20 => 98 | n => n, fun | 24 => 31 | 22 => 38 | 3 => 3 | 25 => 37 | 4 => 4 | 0 => 0 | n => n, fun | n => n⟩
theorem Tryd.insPlace : Go.Proofs.SlLaysF0.n20 Tryd.prog Tryd.insPlace_ren := {
  mixed := by kernel_rfl
  f20 := ⟨Tryd.f98.name, by decide, Tryd.func98.trans (congrArg some (by kernel_rfl))⟩
  t0 := Tryd.underlying0
  a0 := Tryd.isAgg0
  z0 := Tryd.sizeOf0
  v0 := Tryd.zeroValue0
  t3 := Tryd.underlying3
  a3 := Tryd.isAgg3
  z3 := Tryd.sizeOf3
  v3 := Tryd.zeroValue3
  t4 := Tryd.underlying4
  a4 := Tryd.isAgg4
  z4 := Tryd.sizeOf4
  v4 := Tryd.zeroValue4
  t22 := Tryd.underlying38
  a22 := Tryd.isAgg38
  z22 := Tryd.sizeOf38
  v22 := Tryd.zeroValue38
  t25 := Tryd.underlying37
  a25 := Tryd.isAgg37
  z25 := Tryd.sizeOf37
  v25 := Tryd.zeroValue37 }
def Tryd.clonePlace_ren : Go.Shelf.Ren := ⟨fun | 41 => 46 | n => n, fun | 22 => 38 | 23 => 31 | 4 => 4 | n => n, fun | n => n⟩
theorem Tryd.clonePlace : Go.Proofs.SlLaysE0.n41 Tryd.prog Tryd.clonePlace_ren := {
  mixed := by kernel_rfl
  f41 := ⟨Tryd.f46.name, by decide, Tryd.func46.trans (congrArg some (by kernel_rfl))⟩
  t4 := Tryd.underlying4
  a4 := Tryd.isAgg4
  z4 := Tryd.sizeOf4
  v4 := Tryd.zeroValue4
  t22 := Tryd.underlying38
  a22 := Tryd.isAgg38
  z22 := Tryd.sizeOf38
  v22 := Tryd.zeroValue38 }
def Tryd.insPick_ren : Go.Shelf.Ren := ⟨fun | 20 => 118 | n => n, fun | 24 => 33 | 22 => 22 | 3 => 3 | 25 => 116 | 4 => 4 | 0 => 0 | n => n, fun | n => n⟩
theorem Tryd.insPick : Go.Proofs.SlLaysF0.n20 Tryd.prog Tryd.insPick_ren := {
  mixed := by kernel_rfl
  f20 := ⟨Tryd.f118.name, by decide, Tryd.func118.trans (congrArg some (by kernel_rfl))⟩
  t0 := Tryd.underlying0
  a0 := Tryd.isAgg0
  z0 := Tryd.sizeOf0
  v0 := Tryd.zeroValue0
  t3 := Tryd.underlying3
  a3 := Tryd.isAgg3
  z3 := Tryd.sizeOf3
  v3 := Tryd.zeroValue3
  t4 := Tryd.underlying4
  a4 := Tryd.isAgg4
  z4 := Tryd.sizeOf4
  v4 := Tryd.zeroValue4
  t22 := Tryd.underlying22
  a22 := Tryd.isAgg22
  z22 := Tryd.sizeOf22
  v22 := Tryd.zeroValue22
  t25 := Tryd.underlying116
  a25 := Tryd.isAgg116
  z25 := Tryd.sizeOf116
  v25 := Tryd.zeroValue116 }
def Tryd.clonePick_ren : Go.Shelf.Ren := ⟨fun | 41 => 68 | n => n, fun | 22 => 22 | 23 => 33 | 4 => 4 | n => n, fun | n => n⟩
theorem Tryd.clonePick : Go.Proofs.SlLaysE0.n41 Tryd.prog Tryd.clonePick_ren := {
  mixed := by kernel_rfl
  f41 := ⟨Tryd.f68.name, by decide, Tryd.func68.trans (congrArg some (by kernel_rfl))⟩
  t4 := Tryd.underlying4
  a4 := Tryd.isAgg4
  z4 := Tryd.sizeOf4
  v4 := Tryd.zeroValue4
  t22 := Tryd.underlying22
  a22 := Tryd.isAgg22
  z22 := Tryd.sizeOf22
  v22 := Tryd.zeroValue22 }
end Go.Proofs
