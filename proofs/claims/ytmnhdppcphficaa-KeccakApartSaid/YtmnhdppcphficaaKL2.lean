/- The law's walk: unlike states are permuted to unlike ones. -/
import Derived.Test.YtmnhdppcphficaaKL1
import Derived.Test.YtmnhdppcphficaaXInj
set_option linter.unusedVariables false
set_option linter.unusedSimpArgs false
namespace Go.Proofs.Ytmnhdppcphficaa
open Go Go.Vcg

theorem Apart_calls (w : World) (s : St) (n1 : Int) (x : BitVec 64) : Calls Try.prog morainelaw3_KeccakApart.n #[.agg (lanesA s), .int .i64 n1, .int .u64 (uI x)] w (fun e w' => e = .returned (.bool true) ∧ Vcg.Mod NoB w w') := by
  refine morainelaw3_KeccakApart.vc _ _ _ _ _ ?_
  unfold morainelaw3_KeccakApart.Vc
  rintro d3 w4 ⟨rfl, rfl⟩
  have B1 := Blk.new w tLanes (lanesA s)
  have M1 := Mod.alloc (S := NoB) w (.cells (lanesA s) tLanes)
  refine (known_calls _).mono ?_
  rintro _ w3 ⟨rfl, M3⟩
  have M := M1.none_trans M3
  refine ⟨true, rfl, (fun h => by cases h), fun _ => ⟨fun _ => ⟨rfl, M⟩, fun hn0 => ⟨fun _ => ⟨rfl, M⟩, fun hn1 => ⟨fun _ => ⟨rfl, M⟩, fun hx => ?_⟩⟩⟩⟩
  have B3 := B1.mod' M3
  refine ⟨_, B3.rowAll (size_lanesA _), ?_⟩
  rintro d9 w10 ⟨rfl, rfl⟩
  have hlt := B3.lt
  have B9 := Blk.new w3 tLanes (Array.replicate 25 (.int .u64 0))
  have B3' := (B3.alloc (.cells (Array.replicate 25 (.int .u64 0)) tLanes)).row_ne (g := w3.heap.size) (c := lanesA s) (by omega)
  have M' := (M.step_alloc (.cells (Array.replicate 25 (.int .u64 0)) tLanes)).step_row (g := w3.heap.size) (cs := lanesA s) (fun h => by have := M.size; omega)
  refine ⟨_, B9.storeAll (L := lanesA s) (by rw [size_lanesA]; kernel_rfl) (by rw [size_lanesA, Array.size_replicate]) (lanesA_one _), ?_⟩
  have B9' := B9.row_same (lanesA s)
  generalize (w3.alloc (.cells (Array.replicate 25 (.int .u64 0)) tLanes)).setRow w3.heap.size (lanesA s) = w5 at *
  obtain ⟨i, rfl⟩ : ∃ i : Nat, n1 = (i : Int) := ⟨n1.toNat, by omega⟩
  refine ⟨by omega, _, B9'.rd0 (get_lanesA _ (by omega)), by omega, B9'.canSet0 (by rw [size_lanesA]; omega) rfl, fun w6 h6 => ?_⟩
  rw [h6.at, bitsI_xor]
  have B9'' := B9'.set i (uV (s i ^^^ x))
  rw [lanesA, set_arrOf] at B9''
  have e : (arrOf 25 fun j => if j = i then uV (s i ^^^ x) else uV (s j)) = lanesA (fun j => if j = i then s i ^^^ x else s j) :=
    arrOf_congr (fun j hj => by by_cases h : j = i <;> simp [h])
  rw [e] at B9''
  have B3'' : Blk (w5.setCell ⟨w3.heap.size, i, none⟩ (uV (s i ^^^ x))) w.heap.size tLanes (lanesA s) := B3'.set_ne (by simp; omega)
  have M'' : Vcg.Mod NoB w (w5.setCell ⟨w3.heap.size, i, none⟩ (uV (s i ^^^ x))) := M'.step_set (fun h => by simp only at h; have := M.size; omega)
  generalize w5.setCell ⟨w3.heap.size, i, none⟩ (uV (s i ^^^ x)) = w7 at *
  rintro _ rfl
  refine ⟨_, B3''.drew.rowAll (size_lanesA _), _, B9''.drew.rowAll (size_lanesA _), (Permute_calls _ s).mono ?_⟩
  rintro _ w8 ⟨rfl, M8⟩
  refine ⟨_, rfl, (B9''.drew.mod' M8).rowAll (size_lanesA _), (Permute_calls _ _).mono ?_⟩
  rintro _ w9 ⟨rfl, M9⟩
  refine ⟨_, rfl, _, semNe_arr und_lanes und_u64 info_u64 guard_lanes _ _ (fun j => uI (keccakF s j)) (fun j => uI (keccakF (fun j => if j = i then s i ^^^ x else s j) j)), _, rfl, ?_, ((M''.step_drew).none_trans M8).none_trans M9⟩
  have hne : ¬ (∀ j, j < 25 → uI (keccakF s j) = uI (keccakF (fun j => if j = i then s i ^^^ x else s j) j)) := by
    intro h
    have h2 := keccakF_inj (s := s) (r := fun j => if j = i then s i ^^^ x else s j) (fun j hj => by
      have := h j hj
      simp only [uI] at this
      exact BitVec.eq_of_toNat_eq (by omega)) i (by omega)
    simp only [if_true] at h2
    have h3 := congrArg (fun z => s i ^^^ z) h2
    simp only [BitVec.xor_self, ← BitVec.xor_assoc, BitVec.zero_xor] at h3
    apply hx
    rw [← h3]
    rfl
  rw [decide_eq_false hne]
  rfl

end Go.Proofs.Ytmnhdppcphficaa
