/- maps.Clone of the waits map, laid at this program (plain declarations) -/
import Derived.Shelf.SlMaps.Clone
import Derived.Test.YtcdlplbccblbaaaGreatProg
namespace Go.Proofs
open Go.Shelf
def Tryz.cloneMap_ren : Go.Shelf.Ren := ⟨fun | 5 => 41 | 7 => 62 | n => n, fun | 23 => 35 | 25 => 3 | 3 => 46 | 4 => 4 | 20 => 20 | n => n, fun | n => n⟩
theorem Tryz.cloneMap : Go.Proofs.SlLaysW.n5 Tryz.prog Tryz.cloneMap_ren := {
  mixed := by kernel_rfl
  f5 := ⟨Tryz.f41.name, by decide, Tryz.func41.trans (congrArg some (by kernel_rfl))⟩
  f7 := Tryz.func62.trans (congrArg some (by kernel_rfl))
  t4 := Tryz.underlying4
  a4 := Tryz.isAgg4
  z4 := Tryz.sizeOf4
  v4 := Tryz.zeroValue4
  t20 := Tryz.underlying20
  a20 := Tryz.isAgg20
  z20 := Tryz.sizeOf20
  v20 := Tryz.zeroValue20
  t23 := Tryz.underlying35
  a23 := Tryz.isAgg35
  z23 := Tryz.sizeOf35
  v23 := Tryz.zeroValue35 }
end Go.Proofs
