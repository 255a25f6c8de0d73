/- Contracts: the program's hash of lists. -/
import Derived.Test.YtmnhdppcphficaaKC8
set_option linter.unusedVariables false
set_option linter.unusedSimpArgs false
namespace Go.Proofs.Ytmnhdppcphficaa
open Go Go.Vcg

theorem Sum_calls {w : World} {o0 : Option Addr} {l0 c0 : Nat} (ls : List (List UInt8)) (hl : l0 = ls.length) (hl0 : l0 ≤ 2 ^ 40) (hr : RdBB w o0 ls) (hmax : ∀ b ∈ ls, b.length ≤ 2 ^ 40) :
    Calls Try.prog keccak_Sum.n #[.slice o0 l0 c0] w (fun e w' => e = .returned (.agg (hashA (sumOf ls.flatten))) ∧ Vcg.Mod NoB w w') := by
  subst hl
  refine keccak_Sum.vc _ _ _ _ _ ?_
  unfold keccak_Sum.Vc
  rintro d1 w2 ⟨rfl, rfl⟩
  have B1 := Blk.new w tHash (Array.replicate 32 (.int .u8 0))
  have M := Mod.alloc (S := NoB) w (.cells (Array.replicate 32 (.int .u8 0)) tHash)
  refine (New_calls _).mono ?_
  rintro _ w3 ⟨b, rfl, hS, M3, hb⟩
  rw [size_alloc] at hb
  have B1' := B1.mod' M3
  have M' := M.none_trans M3
  refine ⟨_, rfl, ?_⟩
  refine loopN ls.length (fun i w' => Vcg.Mod NoB w w' ∧ Blk w' w.heap.size tHash (Array.replicate 32 (.int .u8 0)) ∧ ∃ o, SpongeAt w' b o (ls.take i).flatten ∧ ∀ k, SpB b o k → w.heap.size < k) rfl
    ⟨M', B1', none, hS, fun k hk => hk.elim (fun h => by omega) (fun h => (OB_none k h).elim)⟩ ?_ ?_
  · rintro i _ w4 hi ⟨M4, B4, o, hS4, hF⟩
    obtain ⟨bb, f, oi, ci, rfl, hbl, hc, hri⟩ := (hr.mod' M4) i hi
    refine ⟨_, rfl, by omega, _, _, _, by rw [add_at, Int.toNat_natCast]; exact hc, ?_⟩
    refine (Write_calls hS4 hri rfl (hmax _ (by simp [List.getD_eq_getElem?_getD, hi]))).mono ?_
    rintro _ w5 ⟨rfl, o', hS5, M5, hF5⟩
    refine ⟨rfl, UpTo.next (by rw [wrap_i64_small (by omega) (by omega)]; omega) hi ⟨M4.trans M5 (fun k hk h => by have := hF k h; omega), B4.mod M5 (fun h => by have := hF _ h; omega), o', ?_, ?_⟩⟩
    · rw [flatten_take_succ _ _ hi]; exact hS5
    · intro k hk
      have hs := M4.size
      rcases hk with rfl | hk
      · exact hF _ (.inl rfl)
      · rcases hF5 k hk with h | h
        · exact hF _ (.inr h)
        · have := B4.lt; omega
  · rintro _ w4 ⟨M4, B4, o, hS4, hF⟩
    rw [List.take_length] at hS4
    refine (SpSum_calls hS4).mono ?_
    rintro _ w5 ⟨rfl, M5⟩
    exact ⟨_, rfl, _, (B4.mod' M5).storeAll (L := hashA (sumOf ls.flatten)) (by rw [size_hashA]; kernel_rfl) (by rw [size_hashA, Array.size_replicate]) (hashA_one _), _, ((B4.mod' M5).row_same _).rowAll (size_hashA _), rfl, (M4.none_trans M5).step_row (fun h => by omega)⟩

end Go.Proofs.Ytmnhdppcphficaa
