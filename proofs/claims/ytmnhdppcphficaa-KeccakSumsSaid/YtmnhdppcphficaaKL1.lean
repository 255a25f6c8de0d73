/- The laws' walks: the known answer; every state is permuted as the document says. -/
import Derived.Test.YtmnhdppcphficaaKC9
import Derived.Test.YtmnhdppcphficaaXEq
import Derived.Test.YtmnhdppcphficaaXAbc
set_option linter.unusedVariables false
set_option linter.unusedSimpArgs false
namespace Go.Proofs.Ytmnhdppcphficaa
open Go Go.Vcg

theorem known_calls (w : World) : Calls Try.prog morainelaw3_known.n #[] w (fun e w' => e = .returned (.bool true) ∧ Vcg.Mod NoB w w') := by
  refine morainelaw3_known.vc _ _ ?_
  unfold morainelaw3_known.Vc
  rintro d0 w1 ⟨rfl, rfl⟩
  have B0 := Blk.new w tU8 #[(.int .u8 97), (.int .u8 98), (.int .u8 99)]
  have M0 := Mod.alloc (S := NoB) w (.cells #[(.int .u8 97), (.int .u8 98), (.int .u8 99)] tU8)
  obtain ⟨w2, h2, M2, hc2⟩ := convert_same (P := Try.prog) (t := tSlU8) (l := 3) (c := 3) und_slU8 (by kernel_rfl) B0
  have hr : RdB w2 (some ⟨w.heap.size, 0, none⟩) [97, 98, 99] := fun _ => ⟨_, 0, rfl, Nat.lt_of_lt_of_le B0.lt M2.size, fun i hi => by
    rw [hc2, Nat.zero_add, B0.cell]
    match i, hi with
    | 0, _ => rfl
    | 1, _ => rfl
    | 2, _ => rfl⟩
  refine ⟨_, w2, h2, _, _, _, rfl, ?_⟩
  rintro d7 w3 ⟨rfl, rfl⟩
  have M3 := (M0.trans M2 (fun i hi h => by omega)).step_alloc (.cells #[(.slice (some ⟨w.heap.size, 0, none⟩) 3 3)] tSlU8)
  have B3 := Blk.new w2 tSlU8 #[(.slice (some ⟨w.heap.size, 0, none⟩) 3 3)]
  refine (Sum_calls [[97, 98, 99]] rfl (by decide) (RdBB.one (bs := [97, 98, 99]) B3 (hr.mod' (Mod.alloc w2 _))) (by simp)).mono ?_
  rintro _ w4 ⟨rfl, M4⟩
  refine ⟨_, rfl, ?_⟩
  rintro d12 w13 ⟨rfl, rfl⟩
  have B4 := Blk.new w4 tHash (Array.replicate 32 (.int .u8 0))
  have hs := (M3.none_trans M4).size
  have B4' := B4.row_same (hashA (sumOf [[97, 98, 99]].flatten))
  refine ⟨_, B4.storeAll (L := hashA (sumOf [[97, 98, 99]].flatten)) (by rw [size_hashA]; kernel_rfl) (by rw [size_hashA, Array.size_replicate]) (hashA_one _), _, B4'.rd1 (get_arrOf_lt (by decide)), ?_⟩
  have Mf := ((M3.none_trans M4).step_alloc (.cells (Array.replicate 32 (.int .u8 0)) tHash)).step_row (g := w4.heap.size) (cs := hashA (sumOf [[97, 98, 99]].flatten)) (fun h => by omega)
  have e0 : (sumOf [[97, 98, 99]].flatten).getD 0 0 = 0x4E := abc_first
  have e31 : (sumOf [[97, 98, 99]].flatten).getD 31 0 = 0x45 := abc_end
  refine ⟨fun _ => ⟨_, by rw [add_at, Nat.zero_add]; exact B4'.rd1 (get_arrOf_lt (by decide)), ?_⟩, fun h => (h ?_).elim⟩
  · rw [e31]; exact ⟨rfl, Mf⟩
  · rw [e0]; rfl

theorem und_lanes : Try.prog.underlying tLanes = some (.array 25 tU64) := by kernel_rfl
theorem und_u64 : Try.prog.underlying tU64 = some (.int .u64) := by kernel_rfl
theorem info_u64 : (Try.prog.info? tU64).map (·.size) = some 1 := by kernel_rfl
theorem guard_lanes : Try.prog.eqGuardType Try.prog.depth tLanes = false := by kernel_rfl

theorem Permutes_calls (w : World) (s : St) : Calls Try.prog morainelaw3_KeccakPermutes.n #[.agg (lanesA s)] w (fun e w' => e = .returned (.bool true) ∧ Vcg.Mod NoB w w') := by
  refine morainelaw3_KeccakPermutes.vc _ _ _ ?_
  unfold morainelaw3_KeccakPermutes.Vc
  rintro d1 w2 ⟨rfl, rfl⟩ _ rfl
  have B1 := (Blk.new w tLanes (lanesA s)).drew
  have M1 := (Mod.alloc (S := NoB) w (.cells (lanesA s) tLanes)).step_drew
  refine (known_calls _).mono ?_
  rintro _ w3 ⟨rfl, M3⟩
  refine ⟨true, rfl, fun _ => ?_, fun h => by cases h⟩
  have B3 := B1.mod' M3
  refine ⟨_, B3.rowAll (size_lanesA _), _, B3.rowAll (size_lanesA _), (Permute_calls _ s).mono ?_⟩
  rintro _ w4 ⟨rfl, M4⟩
  refine ⟨_, rfl, (B3.mod' M4).rowAll (size_lanesA _), (refPermute_calls _ s).mono ?_⟩
  rintro _ w5 ⟨rfl, M5⟩
  refine ⟨_, rfl, _, semEq_arr und_lanes und_u64 info_u64 guard_lanes _ _ (fun i => uI (keccakF s i)) (fun i => uI (keccakF s i)), _, rfl, ?_, ((M1.none_trans M3).none_trans M4).none_trans M5⟩
  rw [decide_eq_true (fun i _ => rfl)]

end Go.Proofs.Ytmnhdppcphficaa
