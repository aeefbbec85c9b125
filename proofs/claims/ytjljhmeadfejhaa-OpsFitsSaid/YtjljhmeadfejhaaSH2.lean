/- The contracts of the library that are used, at this program: written by a tool of the kit (lay-plain). -/
import Derived.Shelf.SlLaysE0
import Derived.Test.YtjljhmeadfejhaaSH
namespace Go.Proofs
open Go.Shelf
def Try.laysClone99_ren : Go.Shelf.Ren := ⟨fun | 41 => 99 | n => n, fun | 22 => 31 | 23 => 76 | 4 => 4 | n => n, fun | n => n⟩
theorem Try.laysClone99 : Go.Proofs.SlLaysE0.n41 Try.prog Try.laysClone99_ren := {
  mixed := by kernel_rfl
  f41 := ⟨Try.f99.name, by decide, Try.func99.trans (congrArg some (by kernel_rfl))⟩
  t4 := Try.underlying4
  a4 := Try.isAgg4
  z4 := Try.sizeOf4
  v4 := Try.zeroValue4
  t22 := Try.underlying31
  a22 := Try.isAgg31
  z22 := Try.sizeOf31
  v22 := Try.zeroValue31 }
def Try.laysClone96_ren : Go.Shelf.Ren := ⟨fun | 41 => 96 | n => n, fun | 22 => 32 | 23 => 42 | 4 => 4 | n => n, fun | n => n⟩
theorem Try.laysClone96 : Go.Proofs.SlLaysE0.n41 Try.prog Try.laysClone96_ren := {
  mixed := by kernel_rfl
  f41 := ⟨Try.f96.name, by decide, Try.func96.trans (congrArg some (by kernel_rfl))⟩
  t4 := Try.underlying4
  a4 := Try.isAgg4
  z4 := Try.sizeOf4
  v4 := Try.zeroValue4
  t22 := Try.underlying32
  a22 := Try.isAgg32
  z22 := Try.sizeOf32
  v22 := Try.zeroValue32 }
end Go.Proofs
