/- Contracts: the tables, the plan, all rounds. -/
import Derived.Test.YtmnhdppcphficaaKC1
set_option linter.unusedVariables false
set_option linter.unusedSimpArgs false
namespace Go.Proofs.Ytmnhdppcphficaa
open Go Go.Vcg

def rcA : Array Value := arrOf 24 (fun i => uV (rcOf i))
def turnA : Array Value := arrOf 25 (fun i => .int .i64 (turnOf i : Int))
theorem size_rcA : rcA.size = 24 := size_arrOf _ _
theorem size_turnA : turnA.size = 25 := size_arrOf _ _

theorem turns_calls (w : World) : Calls Try.prog keccak_turns.n #[] w (fun e w' => e = .returned (.agg turnA) ∧ Vcg.Mod NoB w w') := by
  refine keccak_turns.vc _ _ ?_
  unfold keccak_turns.Vc
  rintro d0 w1 ⟨rfl, rfl⟩ d2 w3 ⟨rfl, rfl⟩
  have B0 := (Blk.new w 45 (Array.replicate 25 (.int .i64 0))).alloc (.cells (Array.replicate 25 (.int .i64 0)) 45)
  have B2 := Blk.new (w.alloc (.cells (Array.replicate 25 (.int .i64 0)) 45)) 45 (Array.replicate 25 (.int .i64 0))
  have M := (Mod.alloc (S := NoB) w (.cells (Array.replicate 25 (.int .i64 0)) 45)).step_alloc (.cells (Array.replicate 25 (.int .i64 0)) 45)
  simp only [size_alloc] at B2 ⊢
  generalize (w.alloc (.cells (Array.replicate 25 (.int .i64 0)) 45)).alloc (.cells (Array.replicate 25 (.int .i64 0)) 45) = w3 at *
  generalize hNe : w.heap.size = N at *
  refine ⟨fun n5 n6 n7 w' => ∃ t : Nat, n7 = t ∧ t ≤ 24 ∧ n5 = ((xyOf t).1 : Nat) ∧ n6 = ((xyOf t).2 : Nat) ∧ Vcg.Mod NoB w w' ∧ Blk w' N 45 (Array.replicate 25 (.int .i64 0)) ∧
    Blk w' (N + 1) 45 (arrOf 25 (fun i => .int .i64 (tarr t i : Int))), fun _ _ n _ => (24 - n).toNat, ⟨0, rfl, by omega, rfl, rfl, M, B0, by rw [replicate_arrOf] at B2; exact B2⟩, ?_⟩
  clear M B0 B2
  rintro _ _ _ _ w4 ⟨t, rfl, ht, rfl, rfl, M, B0, B2⟩
  refine ⟨fun hlt => ?_, fun hge => ?_⟩
  · have hxy := xy_lt t (by omega)
    refine at_calls (xyOf t).1 (xyOf t).2 rfl rfl (by omega) (by omega) ⟨_, rfl, by omega, B2.canSet0 (by simp; omega) rfl, fun w5 h5 => ?_⟩
    rw [h5.at]
    refine ⟨⟨t + 1, by rw [wrap_i64_small (by omega) (by omega)]; omega, by omega, rfl, ?_, M.step_set (fun h => by simp only [hNe] at h; omega), B0.set_ne (by simp), ?_⟩, ?_⟩
    · simp only [xyOf]
      simp (disch := omega) only [tmod_nn, wrap_i64_small]; omega
    · have := B2.set ((xyOf t).1 % 5 + 5 * ((xyOf t).2 % 5)) (.int .i64 ((((t + 1) * (t + 2) / 2 % 64 : Nat)) : Int))
      rw [set_arrOf] at this
      rw [turn_num t (by omega)]
      refine (arrOf_congr (fun j hj => ?_)) ▸ this
      rw [tarr, Nat.mod_eq_of_lt hxy.1, Nat.mod_eq_of_lt hxy.2]
      dsimp only
      split <;> rfl
    · dsimp only
      rw [wrap_i64_small (n := (t : Int) + 1) (by omega) (by omega)]; omega
  · obtain rfl : t = 24 := by omega
    have e : (arrOf 25 fun i => Value.int .i64 (tarr 24 i : Int)) = turnA := arrOf_congr (fun j hj => by rw [tarr_end j hj])
    rw [e] at B2
    exact ⟨_, B2.rowAll size_turnA, _, B0.storeAll (L := turnA) (by rw [size_turnA]; kernel_rfl) (by rw [size_turnA, Array.size_replicate]) (arrOf_one (fun _ => rfl)), _,
      (B0.row_same _).rowAll size_turnA, rfl, M.step_row (fun h => by omega)⟩

theorem constants_calls (w : World) : Calls Try.prog keccak_constants.n #[] w (fun e w' => e = .returned (.agg rcA) ∧ Vcg.Mod NoB w w') := by
  refine keccak_constants.vc _ _ ?_
  unfold keccak_constants.Vc
  rintro d0 w1 ⟨rfl, rfl⟩ d2 w3 ⟨rfl, rfl⟩
  have B0 := (Blk.new w 44 (Array.replicate 24 (.int .u64 0))).alloc (.cells (Array.replicate 24 (.int .u64 0)) 44)
  have B2 := Blk.new (w.alloc (.cells (Array.replicate 24 (.int .u64 0)) 44)) 44 (Array.replicate 24 (.int .u64 0))
  have M := (Mod.alloc (S := NoB) w (.cells (Array.replicate 24 (.int .u64 0)) 44)).step_alloc (.cells (Array.replicate 24 (.int .u64 0)) 44)
  simp only [size_alloc] at B2 ⊢
  generalize (w.alloc (.cells (Array.replicate 24 (.int .u64 0)) 44)).alloc (.cells (Array.replicate 24 (.int .u64 0)) 44) = w3 at *
  generalize hNe : w.heap.size = N at *
  refine ⟨fun n5 n6 w' => ∃ i : Nat, n6 = i ∧ i ≤ 24 ∧ n5 = (regOf (7 * i) : Nat) ∧ Vcg.Mod NoB w w' ∧ Blk w' N 44 (Array.replicate 24 (.int .u64 0)) ∧
    Blk w' (N + 1) 44 (arrOf 24 (fun j => uV (if j < i then rcOf j else 0))), fun _ n _ => (24 - n).toNat, ⟨0, rfl, by omega, rfl, M, B0, by rw [replicate_arrOf] at B2; exact B2⟩, ?_⟩
  clear M B0 B2
  rintro _ _ _ w4 ⟨i, rfl, hi, rfl, M, B0, B2⟩
  refine ⟨fun hlt => ?_, fun hge => ?_⟩
  · refine ⟨fun n9 n10 w' => ∃ j : Nat, n10 = j ∧ j ≤ 7 ∧ n9 = (regOf (7 * i + j) : Nat) ∧ Vcg.Mod NoB w w' ∧ Blk w' N 44 (Array.replicate 24 (.int .u64 0)) ∧
      Blk w' (N + 1) 44 (arrOf 24 (fun k => uV (if k < i then rcOf k else if k = i then rcPart i j else 0))), fun _ n _ => (7 - n).toNat, ⟨0, rfl, by omega, rfl, M, B0, ?_⟩, ?_⟩
    · refine (arrOf_congr (fun k hk => ?_)) ▸ B2
      simp [rcPart]
    clear M B0 B2
    rintro _ _ _ w5 ⟨j, rfl, hj, rfl, M, B0, B2⟩
    refine ⟨fun hlt' => ?_, fun hge' => ?_⟩
    · rintro _ rfl
      have hr := reg_lt (7 * i + j) (by omega)
      rw [pow_sh j (by omega), reg_and _ (by omega)]
      refine ⟨by omega, _, B2.drew.rd0 (get_arrOf_lt (by omega)), by omega, by omega, by omega, B2.drew.canSet0 (by simp; omega) rfl, fun w6 h6 => ?_⟩
      rw [h6.at]
      have e0 : IntKind.wrap .u64 ((regOf (7 * i + j) % 2 : Nat) : Int) = uI (if regOf (7 * i + j) % 2 = 1 then (1 : BitVec 64) else 0) := by
        rw [wrap_u64]
        by_cases h1 : regOf (7 * i + j) % 2 = 1
        · rw [if_pos h1, h1]; decide
        · rw [if_neg h1, show regOf (7 * i + j) % 2 = 0 by omega]; decide
      rw [e0, shlI_u]
      simp only [if_true, Nat.lt_irrefl, if_false]
      rw [bitsI_or]
      have B0' : Blk (w5.drew.setCell ⟨N + 1, i, none⟩ (uV (rcPart i (j + 1)))) N 44 (Array.replicate 24 (.int .u64 0)) := B0.drew.set_ne (by simp)
      have M' : Vcg.Mod NoB w (w5.drew.setCell ⟨N + 1, i, none⟩ (uV (rcPart i (j + 1)))) := (M.step_drew).step_set (fun h => by simp only [hNe] at h; omega)
      have B2' := B2.drew.set i (uV (rcPart i (j + 1)))
      rw [set_arrOf] at B2'
      have B2'' : Blk (w5.drew.setCell ⟨N + 1, i, none⟩ (uV (rcPart i (j + 1)))) (N + 1) 44 (arrOf 24 (fun k => uV (if k < i then rcOf k else if k = i then rcPart i (j + 1) else 0))) := by
        refine (arrOf_congr (fun k hk => ?_)) ▸ B2'
        grind
      have ew : IntKind.wrap .i64 ((regOf (7 * i + j) : Int) * 2) = ((regOf (7 * i + j) * 2 : Nat) : Int) := by rw [wrap_i64_small (by omega) (by omega)]; omega
      rw [ew]
      have em : (7 - IntKind.wrap .i64 ((j : Int) + 1)).toNat < (7 - (j : Int)).toNat := by rw [wrap_i64_small (by omega) (by omega)]; omega
      refine ⟨fun h => ⟨⟨j + 1, by rw [wrap_i64_small (by omega) (by omega)]; omega, by omega, ?_, M', B0', B2''⟩, em⟩, fun h => ⟨⟨j + 1, by rw [wrap_i64_small (by omega) (by omega)]; omega, by omega, ?_, M', B0', B2''⟩, em⟩⟩
      · rw [wrap_i64_small (by omega) (by omega)]
        have := reg_next (7 * i + j) (by omega) (by omega)
        refine Eq.trans ?_ this
        congr 1
        omega
      · rw [← reg_next' _ (by omega)]; rfl
    · obtain rfl : j = 7 := by omega
      refine ⟨⟨i + 1, by rw [wrap_i64_small (by omega) (by omega)]; omega, by omega, rfl, M, B0, ?_⟩, by rw [wrap_i64_small (by omega) (by omega)]; dsimp only; omega⟩
      refine (arrOf_congr (fun k hk => ?_)) ▸ B2
      have := rcPart_end i (by omega)
      grind
  · obtain rfl : i = 24 := by omega
    have e : (arrOf 24 fun j => uV (if j < 24 then rcOf j else 0)) = rcA := arrOf_congr (fun j hj => by rw [if_pos hj])
    rw [e] at B2
    exact ⟨_, B2.rowAll size_rcA, _, B0.storeAll (L := rcA) (by rw [size_rcA]; kernel_rfl) (by rw [size_rcA, Array.size_replicate]) (arrOf_one (fun _ => rfl)), _,
      (B0.row_same _).rowAll size_rcA, rfl, M.step_row (fun h => by omega)⟩

end Go.Proofs.Ytmnhdppcphficaa
