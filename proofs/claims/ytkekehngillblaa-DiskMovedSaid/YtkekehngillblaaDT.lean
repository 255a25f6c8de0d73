/- The numbers of the types that the texts below name. -/
import Derived.Test.YtkekehngillblaaDV
import Derived.Test.YtkekehngillblaaDS
set_option linter.unusedVariables false
namespace Go.Proofs.Ytkekehngillblaa
open Go Go.Vcg
abbrev tU8 : TypeId := 5
abbrev tSlU8 : TypeId := 30
abbrev tStr : TypeId := 9
abbrev tDisk : TypeId := 61
abbrev tFile : TypeId := 68
abbrev tNaming : TypeId := 58
abbrev tPFile : TypeId := 62
abbrev tChange : TypeId := 74
abbrev tSlChange : TypeId := 59
abbrev tPatch : TypeId := 104
abbrev tSlPatch : TypeId := 66
abbrev tWritten : TypeId := 100
abbrev tCut : TypeId := 121
abbrev tMade : TypeId := 70
abbrev tRenamed : TypeId := 79
abbrev tRemoved : TypeId := 126
abbrev tCrash : TypeId := 37
theorem m_made (w : World) (s : ByteArray) (o : Option Addr) : Sem.run Try.prog (method (Try.prog.types.size + Made.depth) tMade (.agg #[.string s, .pointer o]) "moraine/disk.on") w = .ok (disk_made_on.n, .agg #[.string s, .pointer o]) w := by kernel_rfl
theorem m_ren (w : World) (a b : ByteArray) : Sem.run Try.prog (method (Try.prog.types.size + Made.depth) tRenamed (.agg #[.string a, .string b]) "moraine/disk.on") w = .ok (disk_renamed_on.n, .agg #[.string a, .string b]) w := by kernel_rfl
theorem m_rem (w : World) (a : ByteArray) : Sem.run Try.prog (method (Try.prog.types.size + Made.depth) tRemoved (.agg #[.string a]) "moraine/disk.on") w = .ok (disk_removed_on.n, .agg #[.string a]) w := by kernel_rfl
theorem m_wr (w : World) (n : Int) (o : Option Addr) (l c : Nat) : Sem.run Try.prog (method (Try.prog.types.size + Made.depth) tWritten (.agg #[.int .i64 n, .slice o l c]) "moraine/disk.on") w = .ok (disk_written_on.n, .agg #[.int .i64 n, .slice o l c]) w := by kernel_rfl
theorem m_cut (w : World) (n : Int) : Sem.run Try.prog (method (Try.prog.types.size + Made.depth) tCut (.agg #[.int .i64 n]) "moraine/disk.on") w = .ok (disk_cut_on.n, .agg #[.int .i64 n]) w := by kernel_rfl
theorem n_made (w : World) (s : ByteArray) (o : Option Addr) : Sem.run Try.prog (nilAhead (Try.prog.types.size + Made.depth) tMade (.agg #[.string s, .pointer o]) "moraine/disk.on") w = .ok (some false) w := by kernel_rfl
theorem n_ren (w : World) (a b : ByteArray) : Sem.run Try.prog (nilAhead (Try.prog.types.size + Made.depth) tRenamed (.agg #[.string a, .string b]) "moraine/disk.on") w = .ok (some false) w := by kernel_rfl
theorem n_rem (w : World) (a : ByteArray) : Sem.run Try.prog (nilAhead (Try.prog.types.size + Made.depth) tRemoved (.agg #[.string a]) "moraine/disk.on") w = .ok (some false) w := by kernel_rfl
theorem und_slU8 : Try.prog.underlying tSlU8 = some (.slice tU8) := by kernel_rfl
theorem info_u8 : (Try.prog.info? tU8).map (fun i => (i.zero, i.size, i.bytes)) = some (some (.int .u8 0), 1, 1) := by kernel_rfl
theorem info_u8_size : (Try.prog.info? tU8).map (·.size) = some 1 := by kernel_rfl
theorem und_slChange : Try.prog.underlying tSlChange = some (.slice tChange) := by kernel_rfl
theorem info_change : (Try.prog.info? tChange).map (fun i => (i.zero, i.size, i.bytes)) = some (some .nilIface, 1, 16) := by kernel_rfl
theorem und_slPatch : Try.prog.underlying tSlPatch = some (.slice tPatch) := by kernel_rfl
theorem info_patch : (Try.prog.info? tPatch).map (fun i => (i.zero, i.size, i.bytes)) = some (some .nilIface, 1, 16) := by kernel_rfl
theorem und_naming : ∃ e, Try.prog.underlying tNaming = some (.map tStr e) ∧ ∀ w, (zeroValue e).run Try.prog w = .ok (.pointer none) w := ⟨tPFile, by kernel_rfl, fun w => by kernel_rfl⟩
theorem und_str : Try.prog.underlying tStr = some .string := by kernel_rfl
end Go.Proofs.Ytkekehngillblaa
namespace Go.Proofs.Ytkekehngillblaa
open Go Go.Vcg
abbrev fMapsClone : FuncId := 56
abbrev tAny : TypeId := 20
theorem clone_fn : ∃ fn, Try.prog.funcs[fMapsClone]? = some fn ∧ (fn.name == "runtime.NumGoroutine") = false ∧ fn.body.isNone = true ∧ Extern.findNext fn = none ∧ Extern.find fn = some Extern.MapsClone.clone := ⟨Try.f56, by kernel_rfl, by kernel_rfl, by kernel_rfl, by kernel_rfl, by kernel_rfl⟩
end Go.Proofs.Ytkekehngillblaa
