/- The numbers of the types that the texts below name. -/
import Derived.Test.YtmnhdppcphficaaKC5
namespace Go.Proofs.Ytmnhdppcphficaa
open Go
abbrev tU8 : TypeId := 5
abbrev tSlU8 : TypeId := 22
abbrev tSponge : TypeId := 51
abbrev tState : TypeId := 49
abbrev tHash : TypeId := 26
abbrev tLast : TypeId := 54
abbrev tLanes : TypeId := 40
abbrev tU64 : TypeId := 39
theorem und_slU8 : Try.prog.underlying tSlU8 = some (.slice tU8) := by kernel_rfl
theorem info_u8 : (Try.prog.info? tU8).map (fun i => (i.zero, i.size, i.bytes)) = some (some (.int .u8 0), 1, 1) := by kernel_rfl
theorem info_u8_size : (Try.prog.info? tU8).map (·.size) = some 1 := by kernel_rfl
end Go.Proofs.Ytmnhdppcphficaa
