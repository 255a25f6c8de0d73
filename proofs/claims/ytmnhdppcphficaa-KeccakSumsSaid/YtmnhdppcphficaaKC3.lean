/- Contracts: the plan, all rounds, the program's permutation. -/
import Derived.Test.YtmnhdppcphficaaKC2
set_option linter.unusedVariables false
set_option linter.unusedSimpArgs false
namespace Go.Proofs.Ytmnhdppcphficaa
open Go Go.Vcg

def planA : Array Value := arrOf 49 (fun i => if i < 24 then uV (rcOf i) else .int .i64 (turnOf (i - 24) : Int))
theorem size_planA : planA.size = 49 := size_arrOf _ _
theorem planA_one : ∀ v ∈ planA.toList, v.oneCell' = true := arrOf_one (fun i => by split <;> rfl)
theorem PlanAt.of_blk {w : World} {b o : Nat} {t : TypeId} {cs : Array Value} (h : Blk w b t cs) (hc : ∀ i, i < 49 → cs[o + i]? = planA[i]?) : PlanAt w b o := by
  refine ⟨h.lt, fun i hi => ?_, fun i hi => ?_⟩
  · rw [h.cell, hc i (by omega), planA, get_arrOf_lt (by omega), if_pos hi]
  · rw [h.cell, Nat.add_assoc, hc (24 + i) (by omega), planA, get_arrOf_lt (by omega), if_neg (by omega), Nat.add_sub_cancel_left]

theorem planned_calls (w : World) : Calls Try.prog keccak_planned.n #[] w (fun e w' => e = .returned (.agg planA) ∧ Vcg.Mod NoB w w') := by
  refine keccak_planned.vc _ _ ?_
  unfold keccak_planned.Vc
  rintro d0 w1 ⟨rfl, rfl⟩
  refine (constants_calls _).mono ?_
  rintro _ w2 ⟨rfl, M2⟩
  refine ⟨_, rfl, (turns_calls _).mono ?_⟩
  rintro _ w3 ⟨rfl, M3⟩
  refine ⟨_, rfl, size_rcA, size_turnA, ?_⟩
  have M := ((Mod.alloc (S := NoB) w _).none_trans M2).none_trans M3
  have B := ((Blk.new w _ _).mod' M2).mod' M3
  rw [show lputL (lputL _ 0 24 rcA) 24 25 turnA = planA from by kernel_rfl]
  exact ⟨_, B.storeAll (L := planA) (by rw [size_planA]; kernel_rfl) (by rw [size_planA]; rfl) planA_one, _, (B.row_same _).rowAll size_planA, rfl, M.step_row (fun h => by omega)⟩

theorem permuted_calls {w : World} (s : St) (b o : Nat) (hp : PlanAt w b o) :
    Calls Try.prog keccak_state_permuted.n #[.agg (lanesA s), .pointer (some ⟨b, o, none⟩)] w
      (fun e w' => e = .returned (.agg (lanesA (keccakF s))) ∧ Vcg.Mod NoB w w') := by
  refine keccak_state_permuted.vc _ _ _ _ ?_
  unfold keccak_state_permuted.Vc
  rintro d2 w3 ⟨rfl, rfl⟩ d4 w5 ⟨rfl, rfl⟩
  have B2 := (Blk.new w 49 (lanesA s)).alloc (.cells (Array.replicate 25 (.int .u64 0)) 49)
  have B4 := Blk.new (w.alloc (.cells (lanesA s) 49)) 49 (Array.replicate 25 (.int .u64 0))
  have M := (Mod.alloc (S := NoB) w (.cells (lanesA s) 49)).step_alloc (.cells (Array.replicate 25 (.int .u64 0)) 49)
  simp only [size_alloc] at B4 ⊢
  generalize (w.alloc (.cells (lanesA s) 49)).alloc (.cells (Array.replicate 25 (.int .u64 0)) 49) = w5 at *
  generalize hNe : w.heap.size = N at *
  refine loopN 24 (fun n w' => Vcg.Mod NoB w w' ∧ Blk w' N 49 (lanesA (rnds n s)) ∧ Blk w' (N + 1) 49 (Array.replicate 25 (.int .u64 0))) rfl ⟨M, B2, B4⟩ ?_ ?_
  · clear M B2 B4
    rintro n _ w6 hn ⟨M, B2, B4⟩
    refine ⟨_, B2.rowAll (size_lanesA _), (round_calls (rnds n s) b o n hn (hp.mod M (fun h => h))).mono ?_⟩
    rintro _ w7 ⟨rfl, M7⟩
    refine ⟨_, rfl, _, (B2.mod' M7).storeAll (L := lanesA (rnds (n + 1) s)) (by rw [size_lanesA]; kernel_rfl) (by rw [size_lanesA, size_lanesA]) (lanesA_one _), ?_⟩
    exact UpTo.next (by rw [wrap_i64_small (by omega) (by omega)]; omega) hn ⟨(M.none_trans M7).step_row (fun h => by omega), (B2.mod' M7).row_same _, (B4.mod' M7).row_ne (by omega)⟩
  · clear M B2 B4
    rintro _ w6 ⟨M, B2, B4⟩
    exact ⟨_, B2.rowAll (size_lanesA _), _, B4.storeAll (L := lanesA (keccakF s)) (by rw [size_lanesA]; kernel_rfl) (by rw [size_lanesA, Array.size_replicate]) (lanesA_one _), _,
      (B4.row_same _).rowAll (size_lanesA _), rfl, M.step_row (fun h => by omega)⟩

theorem Permute_calls (w : World) (s : St) :
    Calls Try.prog keccak_Permute.n #[.agg (lanesA s)] w (fun e w' => e = .returned (.agg (lanesA (keccakF s))) ∧ Vcg.Mod NoB w w') := by
  refine keccak_Permute.vc _ _ _ ?_
  unfold keccak_Permute.Vc
  rintro d1 w2 ⟨rfl, rfl⟩ d3 w4 ⟨rfl, rfl⟩
  refine (planned_calls _).mono ?_
  rintro _ w5 ⟨rfl, M5⟩
  refine ⟨_, rfl, ?_⟩
  rintro d8 w9 ⟨rfl, rfl⟩
  have B1 := (((Blk.new w 40 (lanesA s)).alloc (.cells (Array.replicate 25 (.int .u64 0)) 40)).mod' M5).alloc (.cells (arrOf 49 (fun i => if i < 24 then (.int .u64 0) else (.int .i64 0))) 47)
  have B3 := ((Blk.new (w.alloc (.cells (lanesA s) 40)) 40 (Array.replicate 25 (.int .u64 0))).mod' M5).alloc (.cells (arrOf 49 (fun i => if i < 24 then (.int .u64 0) else (.int .i64 0))) 47)
  have M := (((Mod.alloc (S := NoB) w (.cells (lanesA s) 40)).step_alloc (.cells (Array.replicate 25 (.int .u64 0)) 40)).none_trans M5).step_alloc (.cells (arrOf 49 (fun i => if i < 24 then (.int .u64 0) else (.int .i64 0))) 47)
  have B8 := Blk.new w5 47 (arrOf 49 (fun i => if i < 24 then (.int .u64 0) else (.int .i64 0)))
  have s1 : w.heap.size < w5.heap.size := (((Blk.new w 40 (lanesA s)).alloc (.cells (Array.replicate 25 (.int .u64 0)) 40)).mod' M5).lt
  have s3 := ((Blk.new (w.alloc (.cells (lanesA s) 40)) 40 (Array.replicate 25 (.int .u64 0))).mod' M5).lt
  simp only [size_alloc] at B3 s3 ⊢
  refine ⟨_, B8.storeAll (L := planA) (by rw [size_planA]; kernel_rfl) (by rw [size_planA, size_arrOf]) planA_one, ?_⟩
  have M' := M.step_row (g := w5.heap.size) (cs := planA) (fun h => by omega)
  have B1' := B1.row_ne (g := w5.heap.size) (c := planA) (by omega)
  have B3' := B3.row_ne (g := w5.heap.size) (c := planA) (by omega)
  have B8' := B8.row_same planA
  refine ⟨_, B1'.rowAll (size_lanesA _), (permuted_calls s _ 0 (PlanAt.of_blk B8' (fun i hi => by rw [Nat.zero_add]))).mono ?_⟩
  rintro _ w6 ⟨rfl, M6⟩
  exact ⟨_, rfl, _, (B3'.mod' M6).storeAll (L := lanesA (keccakF s)) (by rw [size_lanesA]; kernel_rfl) (by rw [size_lanesA, Array.size_replicate]) (lanesA_one _), _,
    ((B3'.mod' M6).row_same _).rowAll (size_lanesA _), rfl, (M'.none_trans M6).step_row (fun h => by omega)⟩

theorem left_calls {R : Ending → World → Prop} {w : World} {n0 n1 : Int} (x : BitVec 64) (k : Nat) (h0 : n0 = uI x) (h1 : n1 = (k : Int)) (hk : k < 64)
    (h : ∀ w', Vcg.Mod NoB w w' → w'.heap = w.heap → R (.returned (uV (x.rotateLeft k))) w') : Calls Try.prog moraineref3_left.n #[.int .u64 n0, .int .i64 n1] w R := by
  subst h0 h1
  refine moraineref3_left.vc _ _ _ _ ?_
  unfold moraineref3_left.Vc
  refine ⟨fun hz => ?_, fun hz => ?_⟩
  · have : x.rotateLeft k = x := by
      obtain rfl : k = 0 := by omega
      rw [BitVec.rotateLeft_def]
      apply BitVec.eq_of_toNat_eq
      simp [Nat.shiftRight_eq_div_pow, Nat.div_eq_of_lt x.isLt]
    rw [this] at h
    exact h w (Mod.refl w) rfl
  · rintro _ rfl
    have e2 : IntKind.wrap .i64 (64 - (k : Int)) = ((64 - k : Nat) : Int) := by
      rw [wrap_i64_small (by omega) (by omega)]; omega
    rw [e2]
    refine ⟨by omega, by omega, ?_⟩
    rw [shlI_u, shrI_u _ _ _ rfl, bitsI_or]
    have e3 : x <<< k ||| x >>> (64 - k) = x.rotateLeft k := by
      rw [BitVec.rotateLeft_def, Nat.mod_eq_of_lt hk]
    rw [e3]
    exact h _ (Mod.drew w) rfl

end Go.Proofs.Ytmnhdppcphficaa
