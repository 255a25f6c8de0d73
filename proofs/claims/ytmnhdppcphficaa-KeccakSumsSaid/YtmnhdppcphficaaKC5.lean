/- Contracts: words out of bytes, one block absorbed. -/
import Derived.Test.YtmnhdppcphficaaKC4
import Derived.Test.YtmnhdppcphficaaXOwn
set_option linter.unusedVariables false
set_option linter.unusedSimpArgs false
namespace Go.Proofs.Ytmnhdppcphficaa
open Go Go.Vcg

theorem Unlittle_calls {R : Ending → World → Prop} {w : World} {o : Option Addr} {l c : Nat} (bs : List UInt8) (hl : l = bs.length) (h8 : bs.length ≤ 8) (hr : RdB w o bs)
    (h : R (.returned (uV (leWord bs))) w) : Calls Try.prog plain_Unlittle.n #[.slice o l c] w R := by
  subst hl
  refine plain_Unlittle.vc _ _ _ _ _ ?_
  unfold plain_Unlittle.Vc
  refine ⟨fun n2 n3 w' => ∃ i : Nat, n3 = i ∧ i ≤ bs.length ∧ n2 = uI (leK bs i) ∧ w' = w, fun _ n _ => ((bs.length : Int) - n).toNat, ⟨0, rfl, by omega, rfl, rfl⟩, ?_⟩
  rintro _ _ _ _ ⟨i, rfl, hi, rfl, rfl⟩
  refine ⟨fun hlt => ?_, fun hge => ?_⟩
  · obtain ⟨d, rfl, hd⟩ := hr.get (i := i) (by omega)
    refine ⟨d, rfl, by omega, _, hd, ?_⟩
    have e1 : IntKind.wrap .i64 (8 * (i : Int)) = ((8 * i : Nat) : Int) := by rw [wrap_i64_small (by omega) (by omega)]; omega
    have e2 : IntKind.wrap .u64 ((bs.getD i 0).toNat : Int) = uI (byteW (bs.getD i 0)) := by rw [← uI_byteW, wrap_uI]
    rw [e1, e2, shlI_u, bitsI_or]
    exact ⟨by omega, ⟨i + 1, by rw [wrap_i64_small (by omega) (by omega)]; omega, by omega, rfl, rfl⟩, by rw [wrap_i64_small (by omega) (by omega)]; dsimp only; omega⟩
  · obtain rfl : i = bs.length := by omega
    exact h

theorem absorb_calls {w : World} (s : St) (b o : Nat) (hp : PlanAt w b o) {o2 : Option Addr} {l2 c2 : Nat} (blk : List UInt8) (hl : blk.length = 136) (hl2 : l2 = 136) (hc : 136 ≤ c2) (hr : RdB w o2 blk) :
    Calls Try.prog keccak_state_absorb.n #[.agg (lanesA s), .pointer (some ⟨b, o, none⟩), .slice o2 l2 c2] w
      (fun e w' => e = .returned (.agg (lanesA (absorbB s blk))) ∧ Vcg.Mod NoB w w') := by
  subst hl2
  refine keccak_state_absorb.vc _ _ _ _ _ _ _ ?_
  unfold keccak_state_absorb.Vc
  rintro d3 w4 ⟨rfl, rfl⟩ d5 w6 ⟨rfl, rfl⟩
  have B2 := (Blk.new w 49 (lanesA s)).alloc (.cells (Array.replicate 25 (.int .u64 0)) 49)
  have B4 := Blk.new (w.alloc (.cells (lanesA s) 49)) 49 (Array.replicate 25 (.int .u64 0))
  have M := (Mod.alloc (S := NoB) w (.cells (lanesA s) 49)).step_alloc (.cells (Array.replicate 25 (.int .u64 0)) 49)
  simp only [size_alloc] at B4 ⊢
  generalize (w.alloc (.cells (lanesA s) 49)).alloc (.cells (Array.replicate 25 (.int .u64 0)) 49) = w5 at *
  generalize hNe : w.heap.size = N at *
  refine loopN 17 (fun n w' => Vcg.Mod NoB w w' ∧ Blk w' N 49 (arrOf 25 (fun i => uV (if i < n then xorB s blk i else s i))) ∧ Blk w' (N + 1) 49 (Array.replicate 25 (.int .u64 0))) rfl
    ⟨M, by simp only [Nat.not_lt_zero, if_false]; exact B2, B4⟩ ?_ ?_
  · clear M B2 B4
    rintro n _ w6 hn ⟨M, B2, B4⟩
    rintro _ rfl
    have e1 : IntKind.wrap .i64 (8 * (n : Int)) = ((8 * n : Nat) : Int) := by rw [wrap_i64_small (by omega) (by omega)]; omega
    have e2 : IntKind.wrap .i64 (((8 * n : Nat) : Int) + 8) = ((8 * n + 8 : Nat) : Int) := by rw [wrap_i64_small (by omega) (by omega)]; omega
    rw [e1, e2]
    clear e1 e2
    refine ⟨by omega, _, B2.drew.rd0 (get_arrOf_lt (by omega)), by omega, by omega, ?_⟩
    rw [Int.toNat_natCast, Int.toNat_natCast]
    have hr' := ((hr.mod' (M.step_drew)).sub (c := c2) (lo := 8 * n) (n := 8) (by omega))
    have hlen : ((blk.drop (8 * n)).take 8).length = 8 := by rw [List.length_take, List.length_drop]; omega
    refine Unlittle_calls ((blk.drop (8 * n)).take 8) (by rw [hlen]; omega) (by omega) hr' ⟨_, rfl, B2.drew.rd0 (get_arrOf_lt (by omega)), by omega, B2.drew.canSet0 (by simp; omega) rfl, fun w7 h7 => ?_⟩
    rw [h7.at, bitsI_xor]
    simp only [Nat.lt_irrefl, if_false]
    refine UpTo.next (by rw [wrap_i64_small (by omega) (by omega)]; omega) hn ⟨(M.step_drew).step_set (fun h => by simp only [hNe] at h; omega), ?_, B4.drew.set_ne (by simp)⟩
    have := B2.drew.set n (uV (xorB s blk n))
    rw [set_arrOf] at this
    have e3 : s n ^^^ leWord ((blk.drop (8 * n)).take 8) = xorB s blk n := by rw [xorB, if_pos hn]
    rw [e3]
    refine (arrOf_congr (fun j hj => ?_)) ▸ this
    grind
  · clear M B2 B4
    rintro _ w6 ⟨M, B2, B4⟩
    have e : (arrOf 25 fun i => uV (if i < 17 then xorB s blk i else s i)) = lanesA (xorB s blk) := arrOf_congr (fun i hi => by
      by_cases h : i < 17
      · rw [if_pos h]
      · rw [if_neg h, xorB, if_neg h])
    rw [e] at B2
    refine ⟨_, B2.rowAll (size_lanesA _), (permuted_calls _ b o (hp.mod M (fun h => h))).mono ?_⟩
    rintro _ w7 ⟨rfl, M7⟩
    exact ⟨_, rfl, _, (B4.mod' M7).storeAll (L := lanesA (keccakF (xorB s blk))) (by rw [size_lanesA]; kernel_rfl) (by rw [size_lanesA, Array.size_replicate]) (lanesA_one _), _,
      ((B4.mod' M7).row_same _).rowAll (size_lanesA _), rfl, (M.none_trans M7).step_row (fun h => by omega)⟩

end Go.Proofs.Ytmnhdppcphficaa
