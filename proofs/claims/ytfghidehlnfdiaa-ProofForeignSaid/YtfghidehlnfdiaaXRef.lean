/- Contracts: the tables, the plan, all rounds. -/
/- Contracts: the plan, all rounds, the program's permutation. -/
/- Contract: the document's permutation. -/
/- Slices of bytes that are read. -/
/- Slices that the code itself made: appended to, copied into. -/
/- Contracts: words out of bytes, one block absorbed. -/
/- The numbers of the types that the texts below name. -/
/- Contracts: the sponge. -/
/- Contract: Write. -/
/- Contracts: Little; the hash out of a sponge. -/
/- Contracts: the program's hash of lists. -/
/- The document's sponge is ours. -/
import Derived.Test.YtfghidehlnfdiaaKC1
set_option linter.unusedVariables false
set_option linter.unusedSimpArgs false
section
namespace Go.Proofs.Ytfghidehlnfdiaa
open Go Go.Vcg

def rcA : Array Value := arrOf 24 (fun i => uV (rcOf i))
def turnA : Array Value := arrOf 25 (fun i => .int .i64 (turnOf i : Int))
theorem size_rcA : rcA.size = 24 := size_arrOf _ _
theorem size_turnA : turnA.size = 25 := size_arrOf _ _

theorem turns_calls (w : World) : Calls Try.prog keccak_turns.n #[] w (fun e w' => e = .returned (.agg turnA) ∧ Vcg.Mod NoB w w') := by
  refine keccak_turns.vc _ _ ?_
  unfold keccak_turns.Vc
  rintro d0 w1 ⟨rfl, rfl⟩ d2 w3 ⟨rfl, rfl⟩
  have B0 := (Blk.new w 106 (Array.replicate 25 (.int .i64 0))).alloc (.cells (Array.replicate 25 (.int .i64 0)) 106)
  have B2 := Blk.new (w.alloc (.cells (Array.replicate 25 (.int .i64 0)) 106)) 106 (Array.replicate 25 (.int .i64 0))
  have M := (Mod.alloc (S := NoB) w (.cells (Array.replicate 25 (.int .i64 0)) 106)).step_alloc (.cells (Array.replicate 25 (.int .i64 0)) 106)
  simp only [size_alloc] at B2 ⊢
  generalize (w.alloc (.cells (Array.replicate 25 (.int .i64 0)) 106)).alloc (.cells (Array.replicate 25 (.int .i64 0)) 106) = w3 at *
  generalize hNe : w.heap.size = N at *
  refine ⟨fun n5 n6 n7 w' => ∃ t : Nat, n7 = t ∧ t ≤ 24 ∧ n5 = ((xyOf t).1 : Nat) ∧ n6 = ((xyOf t).2 : Nat) ∧ Vcg.Mod NoB w w' ∧ Blk w' N 106 (Array.replicate 25 (.int .i64 0)) ∧
    Blk w' (N + 1) 106 (arrOf 25 (fun i => .int .i64 (tarr t i : Int))), fun _ _ n _ => (24 - n).toNat, ⟨0, rfl, by omega, rfl, rfl, M, B0, by rw [replicate_arrOf] at B2; exact B2⟩, ?_⟩
  clear M B0 B2
  rintro _ _ _ _ w4 ⟨t, rfl, ht, rfl, rfl, M, B0, B2⟩
  refine ⟨fun hlt => ?_, fun hge => ?_⟩
  · have hxy := xy_lt t (by omega)
    refine at_calls (xyOf t).1 (xyOf t).2 rfl rfl (by omega) (by omega) ⟨_, rfl, by omega, B2.canSet0 (by simp; omega) rfl, fun w5 h5 => ?_⟩
    rw [h5.at]
    refine ⟨⟨t + 1, by rw [wrap_i64_small (by omega) (by omega)]; omega, by omega, rfl, ?_, M.step_set (fun h => by simp only [hNe] at h; omega), B0.set_ne (by simp), ?_⟩, ?_⟩
    · simp only [xyOf]
      simp (disch := omega) only [tmod_nn, wrap_i64_small]; omega
    · have := B2.set ((xyOf t).1 % 5 + 5 * ((xyOf t).2 % 5)) (.int .i64 ((((t + 1) * (t + 2) / 2 % 64 : Nat)) : Int))
      rw [set_arrOf] at this
      rw [turn_num t (by omega)]
      refine (arrOf_congr (fun j hj => ?_)) ▸ this
      rw [tarr, Nat.mod_eq_of_lt hxy.1, Nat.mod_eq_of_lt hxy.2]
      dsimp only
      split <;> rfl
    · dsimp only
      rw [wrap_i64_small (n := (t : Int) + 1) (by omega) (by omega)]; omega
  · obtain rfl : t = 24 := by omega
    have e : (arrOf 25 fun i => Value.int .i64 (tarr 24 i : Int)) = turnA := arrOf_congr (fun j hj => by rw [tarr_end j hj])
    rw [e] at B2
    exact ⟨_, B2.rowAll size_turnA, _, B0.storeAll (L := turnA) (by rw [size_turnA]; kernel_rfl) (by rw [size_turnA, Array.size_replicate]) (arrOf_one (fun _ => rfl)), _,
      (B0.row_same _).rowAll size_turnA, rfl, M.step_row (fun h => by omega)⟩

theorem constants_calls (w : World) : Calls Try.prog keccak_constants.n #[] w (fun e w' => e = .returned (.agg rcA) ∧ Vcg.Mod NoB w w') := by
  refine keccak_constants.vc _ _ ?_
  unfold keccak_constants.Vc
  rintro d0 w1 ⟨rfl, rfl⟩ d2 w3 ⟨rfl, rfl⟩
  have B0 := (Blk.new w 105 (Array.replicate 24 (.int .u64 0))).alloc (.cells (Array.replicate 24 (.int .u64 0)) 105)
  have B2 := Blk.new (w.alloc (.cells (Array.replicate 24 (.int .u64 0)) 105)) 105 (Array.replicate 24 (.int .u64 0))
  have M := (Mod.alloc (S := NoB) w (.cells (Array.replicate 24 (.int .u64 0)) 105)).step_alloc (.cells (Array.replicate 24 (.int .u64 0)) 105)
  simp only [size_alloc] at B2 ⊢
  generalize (w.alloc (.cells (Array.replicate 24 (.int .u64 0)) 105)).alloc (.cells (Array.replicate 24 (.int .u64 0)) 105) = w3 at *
  generalize hNe : w.heap.size = N at *
  refine ⟨fun n5 n6 w' => ∃ i : Nat, n6 = i ∧ i ≤ 24 ∧ n5 = (regOf (7 * i) : Nat) ∧ Vcg.Mod NoB w w' ∧ Blk w' N 105 (Array.replicate 24 (.int .u64 0)) ∧
    Blk w' (N + 1) 105 (arrOf 24 (fun j => uV (if j < i then rcOf j else 0))), fun _ n _ => (24 - n).toNat, ⟨0, rfl, by omega, rfl, M, B0, by rw [replicate_arrOf] at B2; exact B2⟩, ?_⟩
  clear M B0 B2
  rintro _ _ _ w4 ⟨i, rfl, hi, rfl, M, B0, B2⟩
  refine ⟨fun hlt => ?_, fun hge => ?_⟩
  · refine ⟨fun n9 n10 w' => ∃ j : Nat, n10 = j ∧ j ≤ 7 ∧ n9 = (regOf (7 * i + j) : Nat) ∧ Vcg.Mod NoB w w' ∧ Blk w' N 105 (Array.replicate 24 (.int .u64 0)) ∧
      Blk w' (N + 1) 105 (arrOf 24 (fun k => uV (if k < i then rcOf k else if k = i then rcPart i j else 0))), fun _ n _ => (7 - n).toNat, ⟨0, rfl, by omega, rfl, M, B0, ?_⟩, ?_⟩
    · refine (arrOf_congr (fun k hk => ?_)) ▸ B2
      simp [rcPart]
    clear M B0 B2
    rintro _ _ _ w5 ⟨j, rfl, hj, rfl, M, B0, B2⟩
    refine ⟨fun hlt' => ?_, fun hge' => ?_⟩
    · rintro _ rfl
      have hr := reg_lt (7 * i + j) (by omega)
      rw [pow_sh j (by omega), reg_and _ (by omega)]
      refine ⟨by omega, _, B2.drew.rd0 (get_arrOf_lt (by omega)), by omega, by omega, by omega, B2.drew.canSet0 (by simp; omega) rfl, fun w6 h6 => ?_⟩
      rw [h6.at]
      have e0 : IntKind.wrap .u64 ((regOf (7 * i + j) % 2 : Nat) : Int) = uI (if regOf (7 * i + j) % 2 = 1 then (1 : BitVec 64) else 0) := by
        rw [wrap_u64]
        by_cases h1 : regOf (7 * i + j) % 2 = 1
        · rw [if_pos h1, h1]; decide
        · rw [if_neg h1, show regOf (7 * i + j) % 2 = 0 by omega]; decide
      rw [e0, shlI_u]
      simp only [if_true, Nat.lt_irrefl, if_false]
      rw [bitsI_or]
      have B0' : Blk (w5.drew.setCell ⟨N + 1, i, none⟩ (uV (rcPart i (j + 1)))) N 105 (Array.replicate 24 (.int .u64 0)) := B0.drew.set_ne (by simp)
      have M' : Vcg.Mod NoB w (w5.drew.setCell ⟨N + 1, i, none⟩ (uV (rcPart i (j + 1)))) := (M.step_drew).step_set (fun h => by simp only [hNe] at h; omega)
      have B2' := B2.drew.set i (uV (rcPart i (j + 1)))
      rw [set_arrOf] at B2'
      have B2'' : Blk (w5.drew.setCell ⟨N + 1, i, none⟩ (uV (rcPart i (j + 1)))) (N + 1) 105 (arrOf 24 (fun k => uV (if k < i then rcOf k else if k = i then rcPart i (j + 1) else 0))) := by
        refine (arrOf_congr (fun k hk => ?_)) ▸ B2'
        grind
      have ew : IntKind.wrap .i64 ((regOf (7 * i + j) : Int) * 2) = ((regOf (7 * i + j) * 2 : Nat) : Int) := by rw [wrap_i64_small (by omega) (by omega)]; omega
      rw [ew]
      have em : (7 - IntKind.wrap .i64 ((j : Int) + 1)).toNat < (7 - (j : Int)).toNat := by rw [wrap_i64_small (by omega) (by omega)]; omega
      refine ⟨fun h => ⟨⟨j + 1, by rw [wrap_i64_small (by omega) (by omega)]; omega, by omega, ?_, M', B0', B2''⟩, em⟩, fun h => ⟨⟨j + 1, by rw [wrap_i64_small (by omega) (by omega)]; omega, by omega, ?_, M', B0', B2''⟩, em⟩⟩
      · rw [wrap_i64_small (by omega) (by omega)]
        have := reg_next (7 * i + j) (by omega) (by omega)
        refine Eq.trans ?_ this
        congr 1
        omega
      · rw [← reg_next' _ (by omega)]; rfl
    · obtain rfl : j = 7 := by omega
      refine ⟨⟨i + 1, by rw [wrap_i64_small (by omega) (by omega)]; omega, by omega, rfl, M, B0, ?_⟩, by rw [wrap_i64_small (by omega) (by omega)]; dsimp only; omega⟩
      refine (arrOf_congr (fun k hk => ?_)) ▸ B2
      have := rcPart_end i (by omega)
      grind
  · obtain rfl : i = 24 := by omega
    have e : (arrOf 24 fun j => uV (if j < 24 then rcOf j else 0)) = rcA := arrOf_congr (fun j hj => by rw [if_pos hj])
    rw [e] at B2
    exact ⟨_, B2.rowAll size_rcA, _, B0.storeAll (L := rcA) (by rw [size_rcA]; kernel_rfl) (by rw [size_rcA, Array.size_replicate]) (arrOf_one (fun _ => rfl)), _,
      (B0.row_same _).rowAll size_rcA, rfl, M.step_row (fun h => by omega)⟩

end Go.Proofs.Ytfghidehlnfdiaa
end
section
namespace Go.Proofs.Ytfghidehlnfdiaa
open Go Go.Vcg

def planA : Array Value := arrOf 49 (fun i => if i < 24 then uV (rcOf i) else .int .i64 (turnOf (i - 24) : Int))
theorem size_planA : planA.size = 49 := size_arrOf _ _
theorem planA_one : ∀ v ∈ planA.toList, v.oneCell' = true := arrOf_one (fun i => by split <;> rfl)
theorem PlanAt.of_blk {w : World} {b o : Nat} {t : TypeId} {cs : Array Value} (h : Blk w b t cs) (hc : ∀ i, i < 49 → cs[o + i]? = planA[i]?) : PlanAt w b o := by
  refine ⟨h.lt, fun i hi => ?_, fun i hi => ?_⟩
  · rw [h.cell, hc i (by omega), planA, get_arrOf_lt (by omega), if_pos hi]
  · rw [h.cell, Nat.add_assoc, hc (24 + i) (by omega), planA, get_arrOf_lt (by omega), if_neg (by omega), Nat.add_sub_cancel_left]

theorem planned_calls (w : World) : Calls Try.prog keccak_planned.n #[] w (fun e w' => e = .returned (.agg planA) ∧ Vcg.Mod NoB w w') := by
  refine keccak_planned.vc _ _ ?_
  unfold keccak_planned.Vc
  rintro d0 w1 ⟨rfl, rfl⟩
  refine (constants_calls _).mono ?_
  rintro _ w2 ⟨rfl, M2⟩
  refine ⟨_, rfl, (turns_calls _).mono ?_⟩
  rintro _ w3 ⟨rfl, M3⟩
  refine ⟨_, rfl, size_rcA, size_turnA, ?_⟩
  have M := ((Mod.alloc (S := NoB) w _).none_trans M2).none_trans M3
  have B := ((Blk.new w _ _).mod' M2).mod' M3
  rw [show lputL (lputL _ 0 24 rcA) 24 25 turnA = planA from by kernel_rfl]
  exact ⟨_, B.storeAll (L := planA) (by rw [size_planA]; kernel_rfl) (by rw [size_planA]; rfl) planA_one, _, (B.row_same _).rowAll size_planA, rfl, M.step_row (fun h => by omega)⟩

theorem permuted_calls {w : World} (s : St) (b o : Nat) (hp : PlanAt w b o) :
    Calls Try.prog keccak_state_permuted.n #[.agg (lanesA s), .pointer (some ⟨b, o, none⟩)] w
      (fun e w' => e = .returned (.agg (lanesA (keccakF s))) ∧ Vcg.Mod NoB w w') := by
  refine keccak_state_permuted.vc _ _ _ _ ?_
  unfold keccak_state_permuted.Vc
  rintro d2 w3 ⟨rfl, rfl⟩ d4 w5 ⟨rfl, rfl⟩
  have B2 := (Blk.new w 110 (lanesA s)).alloc (.cells (Array.replicate 25 (.int .u64 0)) 110)
  have B4 := Blk.new (w.alloc (.cells (lanesA s) 110)) 110 (Array.replicate 25 (.int .u64 0))
  have M := (Mod.alloc (S := NoB) w (.cells (lanesA s) 110)).step_alloc (.cells (Array.replicate 25 (.int .u64 0)) 110)
  simp only [size_alloc] at B4 ⊢
  generalize (w.alloc (.cells (lanesA s) 110)).alloc (.cells (Array.replicate 25 (.int .u64 0)) 110) = w5 at *
  generalize hNe : w.heap.size = N at *
  refine loopN 24 (fun n w' => Vcg.Mod NoB w w' ∧ Blk w' N 110 (lanesA (rnds n s)) ∧ Blk w' (N + 1) 110 (Array.replicate 25 (.int .u64 0))) rfl ⟨M, B2, B4⟩ ?_ ?_
  · clear M B2 B4
    rintro n _ w6 hn ⟨M, B2, B4⟩
    refine ⟨_, B2.rowAll (size_lanesA _), (round_calls (rnds n s) b o n hn (hp.mod M (fun h => h))).mono ?_⟩
    rintro _ w7 ⟨rfl, M7⟩
    refine ⟨_, rfl, _, (B2.mod' M7).storeAll (L := lanesA (rnds (n + 1) s)) (by rw [size_lanesA]; kernel_rfl) (by rw [size_lanesA, size_lanesA]) (lanesA_one _), ?_⟩
    exact UpTo.next (by rw [wrap_i64_small (by omega) (by omega)]; omega) hn ⟨(M.none_trans M7).step_row (fun h => by omega), (B2.mod' M7).row_same _, (B4.mod' M7).row_ne (by omega)⟩
  · clear M B2 B4
    rintro _ w6 ⟨M, B2, B4⟩
    exact ⟨_, B2.rowAll (size_lanesA _), _, B4.storeAll (L := lanesA (keccakF s)) (by rw [size_lanesA]; kernel_rfl) (by rw [size_lanesA, Array.size_replicate]) (lanesA_one _), _,
      (B4.row_same _).rowAll (size_lanesA _), rfl, M.step_row (fun h => by omega)⟩


theorem left_calls {R : Ending → World → Prop} {w : World} {n0 n1 : Int} (x : BitVec 64) (k : Nat) (h0 : n0 = uI x) (h1 : n1 = (k : Int)) (hk : k < 64)
    (h : ∀ w', Vcg.Mod NoB w w' → w'.heap = w.heap → R (.returned (uV (x.rotateLeft k))) w') : Calls Try.prog moraineref3_left.n #[.int .u64 n0, .int .i64 n1] w R := by
  subst h0 h1
  refine moraineref3_left.vc _ _ _ _ ?_
  unfold moraineref3_left.Vc
  refine ⟨fun hz => ?_, fun hz => ?_⟩
  · have : x.rotateLeft k = x := by
      obtain rfl : k = 0 := by omega
      rw [BitVec.rotateLeft_def]
      apply BitVec.eq_of_toNat_eq
      simp [Nat.shiftRight_eq_div_pow, Nat.div_eq_of_lt x.isLt]
    rw [this] at h
    exact h w (Mod.refl w) rfl
  · rintro _ rfl
    have e2 : IntKind.wrap .i64 (64 - (k : Int)) = ((64 - k : Nat) : Int) := by
      rw [wrap_i64_small (by omega) (by omega)]; omega
    rw [e2]
    refine ⟨by omega, by omega, ?_⟩
    rw [shlI_u, shrI_u _ _ _ rfl, bitsI_or]
    have e3 : x <<< k ||| x >>> (64 - k) = x.rotateLeft k := by
      rw [BitVec.rotateLeft_def, Nat.mod_eq_of_lt hk]
    rw [e3]
    exact h _ (Mod.drew w) rfl

end Go.Proofs.Ytfghidehlnfdiaa
end
section
namespace Go.Proofs.Ytfghidehlnfdiaa
open Go Go.Vcg

theorem par_eq (s : St) (x : Nat) : par s x = s x ^^^ s (x + 5) ^^^ s (x + 10) ^^^ s (x + 15) ^^^ s (x + 20) := by
  simp [par, parK]

theorem refPermute_calls (w : World) (s : St) :
    Calls Try.prog moraineref3_Permute.n #[.agg (lanesA s)] w (fun e w' => e = .returned (.agg (lanesA (keccakF s))) ∧ Vcg.Mod NoB w w') := by
  refine moraineref3_Permute.vc _ _ _ ?_
  unfold moraineref3_Permute.Vc
  rintro d1 w2 ⟨rfl, rfl⟩ d3 w4 ⟨rfl, rfl⟩ d5 w6 ⟨rfl, rfl⟩
  have B1 := ((Blk.new w 40 (lanesA s)).alloc (.cells (Array.replicate 25 (.int .u64 0)) 40)).alloc (.cells (Array.replicate 25 (.int .i64 0)) 106)
  have B3 := (Blk.new (w.alloc (.cells (lanesA s) 40)) 40 (Array.replicate 25 (.int .u64 0))).alloc (.cells (Array.replicate 25 (.int .i64 0)) 106)
  have B5 := Blk.new ((w.alloc (.cells (lanesA s) 40)).alloc (.cells (Array.replicate 25 (.int .u64 0)) 40)) 106 (Array.replicate 25 (.int .i64 0))
  have M := ((Mod.alloc (S := NoB) w (.cells (lanesA s) 40)).step_alloc (.cells (Array.replicate 25 (.int .u64 0)) 40)).step_alloc (.cells (Array.replicate 25 (.int .i64 0)) 106)
  simp only [size_alloc] at B3 B5 ⊢
  generalize ((w.alloc (.cells (lanesA s) 40)).alloc (.cells (Array.replicate 25 (.int .u64 0)) 40)).alloc (.cells (Array.replicate 25 (.int .i64 0)) 106) = w6 at *
  generalize hNe : w.heap.size = N at *
  refine ⟨_, B5.storeAll (L := Array.replicate 25 (.int .i64 0)) (by rw [Array.size_replicate]; kernel_rfl) (by rw [Array.size_replicate]) (by rw [replicate_arrOf]; exact arrOf_one (fun _ => rfl)), ?_⟩
  replace B1 := B1.row_ne (g := N + 1 + 1) (c := Array.replicate 25 (.int .i64 0)) (by omega)
  replace B3 := B3.row_ne (g := N + 1 + 1) (c := Array.replicate 25 (.int .i64 0)) (by omega)
  replace B5 := B5.row_same (Array.replicate 25 (.int .i64 0))
  replace M := M.step_row (g := N + 1 + 1) (cs := Array.replicate 25 (.int .i64 0)) (fun h => by omega)
  generalize w6.setRow (N + 1 + 1) (Array.replicate 25 (.int .i64 0)) = w7 at *
  refine ⟨fun n5 n6 n7 w' => ∃ t : Nat, n7 = t ∧ t ≤ 24 ∧ n5 = ((xyOf t).1 : Nat) ∧ n6 = ((xyOf t).2 : Nat) ∧ Vcg.Mod NoB w w' ∧ Blk w' N 40 (lanesA s) ∧ Blk w' (N + 1) 40 (Array.replicate 25 (.int .u64 0)) ∧
    Blk w' (N + 1 + 1) 106 (arrOf 25 (fun i => .int .i64 (tarr t i : Int))), fun _ _ n _ => (24 - n).toNat, ⟨0, rfl, by omega, rfl, rfl, M, B1, B3, by rw [replicate_arrOf] at B5; exact B5⟩, ?_⟩
  clear M B1 B3 B5
  rintro _ _ _ _ w4 ⟨t, rfl, ht, rfl, rfl, M, B1, B3, B5⟩
  refine ⟨fun hlt => ?_, fun hge => ?_⟩
  · have hxy := xy_lt t (by omega)
    have ei : IntKind.wrap .i64 (((xyOf t).1 : Int) + IntKind.wrap .i64 (5 * ((xyOf t).2 : Int))) = (((xyOf t).1 + 5 * (xyOf t).2 : Nat) : Int) := by
      simp (disch := omega) only [wrap_i64_small]; omega
    rw [ei]
    refine ⟨by omega, B5.canSet0 (by simp; omega) rfl, fun w5 h5 => ?_⟩
    rw [h5.at]
    refine ⟨⟨t + 1, by rw [wrap_i64_small (by omega) (by omega)]; omega, by omega, rfl, ?_, M.step_set (fun h => by simp only [hNe] at h; omega), B1.set_ne (by simp; omega), B3.set_ne (by simp), ?_⟩, ?_⟩
    · simp only [xyOf]
      simp (disch := omega) only [tmod_nn, wrap_i64_small]; omega
    · have := B5.set ((xyOf t).1 + 5 * (xyOf t).2) (.int .i64 ((((t + 1) * (t + 2) / 2 % 64 : Nat)) : Int))
      rw [set_arrOf] at this
      rw [turn_num t (by omega)]
      refine (arrOf_congr (fun j hj => ?_)) ▸ this
      rw [tarr]
      dsimp only
      split <;> rfl
    · dsimp only
      rw [wrap_i64_small (n := (t : Int) + 1) (by omega) (by omega)]; omega
  obtain rfl : t = 24 := by omega
  have e : (arrOf 25 fun i => Value.int .i64 (tarr 24 i : Int)) = turnA := arrOf_congr (fun j hj => by rw [tarr_end j hj])
  rw [e] at B5
  clear e
  refine ⟨fun n15 n16 w' => ∃ r : Nat, n16 = r ∧ r ≤ 24 ∧ n15 = (regOf (7 * r) : Nat) ∧ Vcg.Mod NoB w w' ∧ Blk w' N 40 (lanesA (rnds r s)) ∧ Blk w' (N + 1) 40 (Array.replicate 25 (.int .u64 0)) ∧
    Blk w' (N + 1 + 1) 106 turnA, fun _ n _ => (24 - n).toNat, ⟨0, rfl, by omega, rfl, M, B1, B3, B5⟩, ?_⟩
  clear M B1 B3 B5
  rintro _ _ _ w1 ⟨r, rfl, hr, rfl, M, B1, B3, B5⟩
  refine ⟨fun hlt => ?_, fun hge => ?_⟩
  · rintro d18 w19 ⟨rfl, rfl⟩
    have hq : N + 1 + 1 < w1.heap.size := B5.lt
    have B7 := Blk.new w1 118 #[(.int .u64 0), (.int .u64 0), (.int .u64 0), (.int .u64 0), (.int .u64 0)]
    replace B1 := B1.alloc (.cells #[(.int .u64 0), (.int .u64 0), (.int .u64 0), (.int .u64 0), (.int .u64 0)] 118)
    replace B3 := B3.alloc (.cells #[(.int .u64 0), (.int .u64 0), (.int .u64 0), (.int .u64 0), (.int .u64 0)] 118)
    replace B5 := B5.alloc (.cells #[(.int .u64 0), (.int .u64 0), (.int .u64 0), (.int .u64 0), (.int .u64 0)] 118)
    replace M := M.step_alloc (.cells #[(.int .u64 0), (.int .u64 0), (.int .u64 0), (.int .u64 0), (.int .u64 0)] 118)
    generalize w1.alloc (.cells #[(.int .u64 0), (.int .u64 0), (.int .u64 0), (.int .u64 0), (.int .u64 0)] 118) = w2 at *
    generalize w1.heap.size = Q at *
    generalize hs' : rnds r s = s' at *
    have e5 : #[(.int .u64 0), (.int .u64 0), (.int .u64 0), (.int .u64 0), (.int .u64 0)] = arrOf 5 (fun i => uV (if i < 0 then par s' i else 0)) := by rfl
    rw [e5] at B7
    clear e5
    refine loopN 5 (fun x w' => Vcg.Mod NoB w w' ∧ Blk w' N 40 (lanesA s') ∧ Blk w' (N + 1) 40 (Array.replicate 25 (.int .u64 0)) ∧ Blk w' (N + 1 + 1) 106 turnA ∧
      Blk w' Q 118 (arrOf 5 (fun i => uV (if i < x then par s' i else 0)))) rfl ⟨M, B1, B3, B5, B7⟩ ?_ ?_
    · clear M B1 B3 B5 B7
      rintro x _ w3 hx ⟨M, B1, B3, B5, B7⟩
      rintro _ rfl
      have e5 : IntKind.wrap .i64 ((x : Int) + 5) = ((x + 5 : Nat) : Int) := by rw [wrap_i64_small (by omega) (by omega)]; omega
      have e10 : IntKind.wrap .i64 ((x : Int) + 10) = ((x + 10 : Nat) : Int) := by rw [wrap_i64_small (by omega) (by omega)]; omega
      have e15 : IntKind.wrap .i64 ((x : Int) + 15) = ((x + 15 : Nat) : Int) := by rw [wrap_i64_small (by omega) (by omega)]; omega
      have e20 : IntKind.wrap .i64 ((x : Int) + 20) = ((x + 20 : Nat) : Int) := by rw [wrap_i64_small (by omega) (by omega)]; omega
      rw [e5, e10, e15, e20]
      clear e5 e10 e15 e20
      refine ⟨by omega, _, B1.drew.rd0 (get_lanesA _ (by omega)), by omega, _, B1.drew.rd0 (get_lanesA _ (by omega)), by omega, _, B1.drew.rd0 (get_lanesA _ (by omega)), by omega, _, B1.drew.rd0 (get_lanesA _ (by omega)), by omega, _, B1.drew.rd0 (get_lanesA _ (by omega)), by omega, B7.drew.canSet0 (by simp; omega) rfl, fun w4 h4 => ?_⟩
      rw [h4.at, bitsI_xor, bitsI_xor, bitsI_xor, bitsI_xor, ← par_eq]
      refine UpTo.next (by rw [wrap_i64_small (by omega) (by omega)]; omega) hx ⟨(M.step_drew).step_set (fun h => by simp only [hNe] at h; omega), B1.drew.set_ne (by simp; omega), B3.drew.set_ne (by simp; omega), B5.drew.set_ne (by simp; omega), ?_⟩
      have := B7.drew.set x (uV (par s' x))
      rw [set_arrOf] at this
      refine (arrOf_congr (fun j hj => ?_)) ▸ this
      grind
    clear M B1 B3 B5 B7
    rintro _ w3 ⟨M, B1, B3, B5, B7⟩ d30 w31 ⟨rfl, rfl⟩
    have hq2 : Q < w3.heap.size := B7.lt
    have B8 := Blk.new w3 40 (Array.replicate 25 (.int .u64 0))
    replace B1 := B1.alloc (.cells (Array.replicate 25 (.int .u64 0)) 40)
    replace B3 := B3.alloc (.cells (Array.replicate 25 (.int .u64 0)) 40)
    replace B5 := B5.alloc (.cells (Array.replicate 25 (.int .u64 0)) 40)
    replace B7 := B7.alloc (.cells (Array.replicate 25 (.int .u64 0)) 40)
    replace M := M.step_alloc (.cells (Array.replicate 25 (.int .u64 0)) 40)
    have e7 : arrOf 5 (fun i => uV (if i < 5 then par s' i else 0)) = arrOf 5 (fun i => uV (par s' i)) := arrOf_congr (fun i hi => by rw [if_pos hi])
    rw [e7] at B7
    clear e7
    generalize w3.alloc (.cells (Array.replicate 25 (.int .u64 0)) 40) = w4 at *
    generalize w3.heap.size = T at *
    refine loopN 5 (fun x w' => Vcg.Mod NoB w w' ∧ Blk w' N 40 (lanesA s') ∧ Blk w' (N + 1) 40 (Array.replicate 25 (.int .u64 0)) ∧ Blk w' (N + 1 + 1) 106 turnA ∧
      Blk w' Q 118 (arrOf 5 (fun i => uV (par s' i))) ∧ Blk w' T 40 (arrOf 25 (fun j => uV (if (j % 5 + 3 * (j / 5)) % 5 < x then bbK s' j else 0)))) rfl
      ⟨M, B1, B3, B5, B7, by rw [replicate_arrOf] at B8; simp only [Nat.not_lt_zero, if_false]; exact B8⟩ ?_ ?_
    · clear M B1 B3 B5 B7 B8
      rintro x _ w5 hx ⟨M, B1, B3, B5, B7, B8⟩
      refine loopN 5 (fun k w' => Vcg.Mod NoB w w' ∧ Blk w' N 40 (lanesA s') ∧ Blk w' (N + 1) 40 (Array.replicate 25 (.int .u64 0)) ∧ Blk w' (N + 1 + 1) 106 turnA ∧
        Blk w' Q 118 (arrOf 5 (fun i => uV (par s' i))) ∧ Blk w' T 40 (arrOf 25 (fun j => uV (if (j % 5 + 3 * (j / 5)) % 5 < x ∨ (j % 5 + 3 * (j / 5)) % 5 = x ∧ j % 5 < k then bbK s' j else 0)))) rfl
        ⟨M, B1, B3, B5, B7, by simpa using B8⟩ ?_ ?_
      · clear M B1 B3 B5 B7 B8
        rintro k _ w5 hk ⟨M, B1, B3, B5, B7, B8⟩
        rintro _ rfl
        have c3 := cond2' x hx k hk
        have a1 : IntKind.wrap .i64 ((x : Int) + IntKind.wrap .i64 (5 * (k : Int))) = ((x + 5 * k : Nat) : Int) := by simp (disch := omega) only [wrap_i64_small]; omega
        have a2 : Int.tmod (IntKind.wrap .i64 ((x : Int) + 4)) 5 = (((x + 4) % 5 : Nat) : Int) := by simp (disch := omega) only [tmod_nn, wrap_i64_small]; omega
        have a3 : Int.tmod (IntKind.wrap .i64 ((x : Int) + 1)) 5 = (((x + 1) % 5 : Nat) : Int) := by simp (disch := omega) only [tmod_nn, wrap_i64_small]; omega
        have a4 : IntKind.wrap .i64 ((k : Int) + IntKind.wrap .i64 (5 * Int.tmod (IntKind.wrap .i64 (IntKind.wrap .i64 (2 * (x : Int)) + IntKind.wrap .i64 (3 * (k : Int)))) 5)) = ((k % 5 + 5 * ((2 * x + 3 * k) % 5) : Nat) : Int) := by
          simp (disch := omega) only [tmod_nn, wrap_i64_small]; omega
        rw [a1, a2, a3, a4]
        clear a1 a2 a3 a4
        have l1 : (x + 4) % 5 < 5 := Nat.mod_lt _ (by decide)
        have l2 : (x + 1) % 5 < 5 := Nat.mod_lt _ (by decide)
        refine ⟨by omega, _, B1.drew.rd0 (get_lanesA _ (by omega)), by omega, _, B7.drew.rd0 (get_arrOf_lt l1), by omega, _, B7.drew.rd0 (get_arrOf_lt l2), left_calls _ 1 rfl rfl (by omega) fun w6 M6 E6 => ⟨_, rfl, (B7.drew.mod' M6).rd0 (get_arrOf_lt l1), (B1.drew.mod' M6).rd0 (get_lanesA _ (by omega)), by omega, _, (B5.drew.mod' M6).rd0 (get_arrOf_lt (by omega)), ?_⟩⟩
        rw [bitsI_xor, bitsI_xor]
        refine left_calls _ (turnOf (x + 5 * k)) rfl rfl (turnOf_lt _) fun w7 M7 E7 => ⟨_, rfl, by omega, ((B8.drew.mod' M6).mod' M7).canSet0 (by simp; omega) rfl, fun w8 h8 => ?_⟩
        rw [h8.at]
        refine UpTo.next (by rw [wrap_i64_small (by omega) (by omega)]; omega) hk ⟨(((M.step_drew).none_trans M6).none_trans M7).step_set (fun h => by simp only [hNe] at h; omega), ((B1.drew.mod' M6).mod' M7).set_ne (by simp; omega), ((B3.drew.mod' M6).mod' M7).set_ne (by simp; omega), ((B5.drew.mod' M6).mod' M7).set_ne (by simp; omega), ((B7.drew.mod' M6).mod' M7).set_ne (by simp; omega), ?_⟩
        have := ((B8.drew.mod' M6).mod' M7).set (k % 5 + 5 * ((2 * x + 3 * k) % 5)) (uV ((s' (x + 5 * k) ^^^ par s' ((x + 4) % 5) ^^^ (par s' ((x + 1) % 5)).rotateLeft 1).rotateLeft (turnOf (x + 5 * k))))
        rw [set_arrOf] at this
        refine (arrOf_congr (fun j hj => ?_)) ▸ this
        have e1 : bbK s' (k % 5 + 5 * ((2 * x + 3 * k) % 5)) = (s' (x + 5 * k) ^^^ par s' ((x + 4) % 5) ^^^ (par s' ((x + 1) % 5)).rotateLeft 1).rotateLeft (turnOf (x + 5 * k)) := by
          rw [bbK, c3.2.1, c3.2.2, bbXY, ddK, BitVec.xor_assoc]
        have c4 := cond2 x hx k hk j hj
        rw [← e1]
        by_cases hj' : j = k % 5 + 5 * ((2 * x + 3 * k) % 5)
        · rw [if_pos hj', if_pos (c4.2 (.inl hj')), hj']
        · rw [if_neg hj']
          congr 2
          simp only [c4, hj', false_or]
      · rintro _ w6 ⟨M, B1, B3, B5, B7, B8⟩
        refine UpTo.next (by rw [wrap_i64_small (by omega) (by omega)]; omega) hx ⟨M, B1, B3, B5, B7, ?_⟩
        refine (arrOf_congr (fun j hj => ?_)) ▸ B8
        congr 2
        have : j % 5 < 5 := by omega
        simp only [this, and_true]
        have : (j % 5 + 3 * (j / 5)) % 5 < x + 1 ↔ (j % 5 + 3 * (j / 5)) % 5 < x ∨ (j % 5 + 3 * (j / 5)) % 5 = x := by omega
        simp only [this]
    clear M B1 B3 B5 B7 B8
    rintro _ w5 ⟨M, B1, B3, B5, _, B8⟩
    have e8 : arrOf 25 (fun j => uV (if (j % 5 + 3 * (j / 5)) % 5 < 5 then bbK s' j else 0)) = lanesA (bbK s') :=
      arrOf_congr (fun j hj => by rw [if_pos (by omega)])
    rw [e8] at B8
    clear e8
    refine loopN 5 (fun x w' => Vcg.Mod NoB w w' ∧ Blk w' N 40 (arrOf 25 (fun j => uV (if j % 5 < x then chiK (bbK s') j else s' j))) ∧ Blk w' (N + 1) 40 (Array.replicate 25 (.int .u64 0)) ∧ Blk w' (N + 1 + 1) 106 turnA ∧
      Blk w' T 40 (lanesA (bbK s'))) rfl
      ⟨M, by simp only [Nat.not_lt_zero, if_false]; exact B1, B3, B5, B8⟩ ?_ ?_
    · clear M B1 B3 B5 B8
      rintro x _ w6 hx ⟨M, B1, B3, B5, B8⟩
      refine loopN 5 (fun k w' => Vcg.Mod NoB w w' ∧ Blk w' N 40 (arrOf 25 (fun j => uV (if j % 5 < x ∨ j % 5 = x ∧ j / 5 < k then chiK (bbK s') j else s' j))) ∧ Blk w' (N + 1) 40 (Array.replicate 25 (.int .u64 0)) ∧ Blk w' (N + 1 + 1) 106 turnA ∧
        Blk w' T 40 (lanesA (bbK s'))) rfl ⟨M, by simpa using B1, B3, B5, B8⟩ ?_ ?_
      · clear M B1 B3 B5 B8
        rintro k _ w6 hk ⟨M, B1, B3, B5, B8⟩
        rintro _ rfl
        have a1 : IntKind.wrap .i64 ((x : Int) + IntKind.wrap .i64 (5 * (k : Int))) = ((x + 5 * k : Nat) : Int) := by simp (disch := omega) only [wrap_i64_small]; omega
        have a2 : IntKind.wrap .i64 (Int.tmod (IntKind.wrap .i64 ((x : Int) + 1)) 5 + IntKind.wrap .i64 (5 * (k : Int))) = (((x + 1) % 5 + 5 * k : Nat) : Int) := by
          simp (disch := omega) only [tmod_nn, wrap_i64_small]; omega
        have a3 : IntKind.wrap .i64 (Int.tmod (IntKind.wrap .i64 ((x : Int) + 2)) 5 + IntKind.wrap .i64 (5 * (k : Int))) = (((x + 2) % 5 + 5 * k : Nat) : Int) := by
          simp (disch := omega) only [tmod_nn, wrap_i64_small]; omega
        rw [a1, a2, a3]
        clear a1 a2 a3
        refine ⟨by omega, _, B8.drew.rd0 (get_lanesA _ (by omega)), by omega, _, B8.drew.rd0 (get_lanesA _ (by omega)), by omega, _, B8.drew.rd0 (get_lanesA _ (by omega)), by omega, B1.drew.canSet0 (by simp; omega) rfl, fun w7 h7 => ?_⟩
        rw [h7.at, bitsI_not, bitsI_and, bitsI_xor]
        refine UpTo.next (by rw [wrap_i64_small (by omega) (by omega)]; omega) hk ⟨(M.step_drew).step_set (fun h => by simp only [hNe] at h; omega), ?_, B3.drew.set_ne (by simp), B5.drew.set_ne (by simp; omega), B8.drew.set_ne (by simp; omega)⟩
        have := B1.drew.set (x + 5 * k) (uV (bbK s' (x + 5 * k) ^^^ (~~~ bbK s' ((x + 1) % 5 + 5 * k) &&& bbK s' ((x + 2) % 5 + 5 * k))))
        rw [set_arrOf] at this
        refine (arrOf_congr (fun j hj => ?_)) ▸ this
        have e1 : chiK (bbK s') (x + 5 * k) = bbK s' (x + 5 * k) ^^^ (~~~ bbK s' ((x + 1) % 5 + 5 * k) &&& bbK s' ((x + 2) % 5 + 5 * k)) := by
          rw [chiK, show (x + 5 * k) % 5 = x by omega, show (x + 5 * k) / 5 = k by omega]
        rw [← e1]
        by_cases hj' : j = x + 5 * k
        · rw [if_pos hj', if_pos (by omega), hj']
        · rw [if_neg hj']
          congr 2
          have : (j % 5 < x ∨ j % 5 = x ∧ j / 5 < k + 1) ↔ (j % 5 < x ∨ j % 5 = x ∧ j / 5 < k) := by omega
          simp only [this]
      · rintro _ w7 ⟨M, B1, B3, B5, B8⟩
        refine UpTo.next (by rw [wrap_i64_small (by omega) (by omega)]; omega) hx ⟨M, ?_, B3, B5, B8⟩
        refine (arrOf_congr (fun j hj => ?_)) ▸ B1
        congr 2
        have : j % 5 < x + 1 ↔ j % 5 < x ∨ j % 5 = x ∧ j / 5 < 5 := by omega
        simp only [this]
    clear M B1 B3 B5 B8
    rintro _ w6 ⟨M, B1, B3, B5, B8⟩
    have e9 : arrOf 25 (fun j => uV (if j % 5 < 5 then chiK (bbK s') j else s' j)) = arrOf 25 (fun j => uV (if j = 0 then chiK (bbK s') 0 ^^^ rcXor r 0 else chiK (bbK s') j)) :=
      arrOf_congr (fun j hj => by rw [if_pos (by omega)]; by_cases h0 : j = 0 <;> simp [h0, rcXor])
    rw [e9] at B1
    clear e9 B8
    refine ⟨fun n62 n63 w' => ∃ j : Nat, n63 = j ∧ j ≤ 7 ∧ n62 = (regOf (7 * r + j) : Nat) ∧ Vcg.Mod NoB w w' ∧ Blk w' N 40 (arrOf 25 (fun i => uV (if i = 0 then chiK (bbK s') 0 ^^^ rcXor r j else chiK (bbK s') i))) ∧ Blk w' (N + 1) 40 (Array.replicate 25 (.int .u64 0)) ∧
      Blk w' (N + 1 + 1) 106 turnA, fun _ n _ => (7 - n).toNat, ⟨0, rfl, by omega, rfl, M, B1, B3, B5⟩, ?_⟩
    clear M B1 B3 B5
    rintro _ _ _ w7 ⟨j, rfl, hj, rfl, M, B1, B3, B5⟩
    refine ⟨fun hlt' => ?_, fun hge' => ?_⟩
    · have hreg := reg_lt (7 * r + j) (by omega)
      have em : (7 - IntKind.wrap .i64 ((j : Int) + 1)).toNat < (7 - (j : Int)).toNat := by rw [wrap_i64_small (by omega) (by omega)]; omega
      have ew : IntKind.wrap .i64 (2 * (regOf (7 * r + j) : Int)) = ((regOf (7 * r + j) * 2 : Nat) : Int) := by rw [wrap_i64_small (by omega) (by omega)]; omega
      have ej : IntKind.wrap .i64 ((j : Int) + 1) = ((j + 1 : Nat) : Int) := by rw [wrap_i64_small (by omega) (by omega)]; omega
      have g1 : ((regOf (7 * r + j) * 2 : Nat) : Int) ≥ 256 → bitsI .xor .i64 (IntKind.wrap .i64 (((regOf (7 * r + j) * 2 : Nat) : Int) - 256)) 113 = (regOf (7 * r + (j + 1)) : Int) := by
        intro h
        rw [wrap_i64_small (by omega) (by omega)]
        have := reg_next (7 * r + j) (by omega) (by omega)
        refine Eq.trans ?_ this
        congr 1
        omega
      have g2 : ¬ ((regOf (7 * r + j) * 2 : Nat) : Int) ≥ 256 → ((regOf (7 * r + j) * 2 : Nat) : Int) = (regOf (7 * r + (j + 1)) : Int) := by
        intro h
        rw [← reg_next' _ (by omega)]; rfl
      rw [tmod_nn _ _ (by omega), ew, pow_sh j (by omega)]
      refine ⟨fun h1 => ?_, fun h1 => ?_⟩
      · rintro _ rfl
        refine ⟨_, B1.drew.rd1 (get_arrOf_lt (by omega)), by omega, by omega, B1.drew.canSet (by simp) rfl, ?_⟩
        rintro w8 rfl
        rw [if_pos rfl]
        have e1 : (1 : Int) = uI (1 : BitVec 64) := by decide
        have e2 : bitsI .xor .u64 (uI (chiK (bbK s') 0 ^^^ rcXor r j)) (shlI .u64 1 ((2 ^ j - 1 : Nat) : Int)) = uI (chiK (bbK s') 0 ^^^ rcXor r (j + 1)) := by
          rw [e1, shlI_u, bitsI_xor, rcXor, if_pos (by omega), BitVec.xor_assoc]
        rw [e2]
        have B1' := B1.drew.set 0 (uV (chiK (bbK s') 0 ^^^ rcXor r (j + 1)))
        rw [set_arrOf] at B1'
        have e3 : (arrOf 25 fun i => if i = 0 then uV (chiK (bbK s') 0 ^^^ rcXor r (j + 1)) else uV (if i = 0 then chiK (bbK s') 0 ^^^ rcXor r j else chiK (bbK s') i)) = arrOf 25 (fun i => uV (if i = 0 then chiK (bbK s') 0 ^^^ rcXor r (j + 1) else chiK (bbK s') i)) :=
          arrOf_congr (fun i hi => by by_cases h0 : i = 0 <;> simp [h0])
        rw [e3] at B1'
        have M' : Vcg.Mod NoB w (w7.drew.setCell ⟨N, 0, none⟩ (uV (chiK (bbK s') 0 ^^^ rcXor r (j + 1)))) := (M.step_drew).step_set (fun h => by simp only [hNe] at h; omega)
        exact ⟨fun h => ⟨⟨j + 1, ej, by omega, g1 h, M', B1', B3.drew.set_ne (by simp), B5.drew.set_ne (by simp; omega)⟩, em⟩, fun h => ⟨⟨j + 1, ej, by omega, g2 h, M', B1', B3.drew.set_ne (by simp), B5.drew.set_ne (by simp; omega)⟩, em⟩⟩
      · have e2 : rcXor r (j + 1) = rcXor r j := by
          rw [rcXor, if_neg (by omega)]; simp
        rw [← e2] at B1
        exact ⟨fun h => ⟨⟨j + 1, ej, by omega, g1 h, M, B1, B3, B5⟩, em⟩, fun h => ⟨⟨j + 1, ej, by omega, g2 h, M, B1, B3, B5⟩, em⟩⟩
    · obtain rfl : j = 7 := by omega
      refine ⟨⟨r + 1, by rw [wrap_i64_small (by omega) (by omega)]; omega, by omega, rfl, M, ?_, B3, B5⟩, by rw [wrap_i64_small (by omega) (by omega)]; dsimp only; omega⟩
      have e : arrOf 25 (fun i => uV (if i = 0 then chiK (bbK s') 0 ^^^ rcXor r 7 else chiK (bbK s') i)) = lanesA (rnds (r + 1) s) :=
        arrOf_congr (fun i hi => by rw [rcXor_end r (by omega), rnds, hs', rnd])
      exact e ▸ B1
  · obtain rfl : r = 24 := by omega
    exact ⟨_, B1.rowAll (size_lanesA _), _, B3.storeAll (L := lanesA (keccakF s)) (by rw [size_lanesA]; kernel_rfl) (by rw [size_lanesA, Array.size_replicate]) (lanesA_one _), _,
      (B3.row_same _).rowAll (size_lanesA _), rfl, M.step_row (fun h => by omega)⟩

end Go.Proofs.Ytfghidehlnfdiaa
end
section
namespace Go.Vcg

abbrev bV (b : UInt8) : Value := .int .u8 (b.toNat : Int)

def RdB (w : World) (o : Option Addr) (bs : List UInt8) : Prop :=
  bs ≠ [] → ∃ b f, o = some ⟨b, f, none⟩ ∧ b < w.heap.size ∧ ∀ i, i < bs.length → w.cell? ⟨b, f + i, none⟩ = some (bV (bs.getD i 0))

def Off (S : Nat → Prop) (o : Option Addr) : Prop := ∀ d, o = some d → ¬ S d.block

theorem RdB.nil (w : World) (o : Option Addr) : RdB w o [] := fun h => (h rfl).elim
theorem RdB.mod {S : Nat → Prop} {w w' : World} {o : Option Addr} {bs : List UInt8} (h : RdB w o bs) (m : Mod S w w') (hs : Off S o) : RdB w' o bs := by
  intro hb
  obtain ⟨b, f, rfl, hl, hc⟩ := h hb
  exact ⟨b, f, rfl, Nat.lt_of_lt_of_le hl m.size, fun i hi => (World.cell?_of_block (m.block b hl (hs _ rfl))).trans (hc i hi)⟩
theorem RdB.mod' {w w' : World} {o : Option Addr} {bs : List UInt8} (h : RdB w o bs) (m : Mod NoB w w') : RdB w' o bs := h.mod m (fun _ _ h => h)
theorem RdB.sub {w : World} {o : Option Addr} {bs : List UInt8} {c lo n : Nat} (h : RdB w o bs) (hl : bs.length ≤ c) : RdB w (subO o c lo 1) ((bs.drop lo).take n) := by
  intro hne
  have h1 : lo < bs.length := by
    rcases Nat.lt_or_ge lo bs.length with h | h
    · exact h
    · rw [List.drop_eq_nil_of_le h] at hne; simp at hne
  have hb : bs ≠ [] := by intro e; rw [e] at h1; simp at h1
  obtain ⟨b, f, rfl, hlt, hc⟩ := h hb
  refine ⟨b, f + lo, ?_, hlt, fun i hi => ?_⟩
  · rw [subO, if_neg (by omega)]; simp
  · rw [List.length_take, List.length_drop] at hi
    rw [Nat.add_assoc, hc (lo + i) (by omega)]
    congr 2
    simp only [List.getD_eq_getElem?_getD]
    rw [List.getElem?_take_of_lt (by omega), List.getElem?_drop]
theorem RdB.take {w : World} {o : Option Addr} {bs : List UInt8} (h : RdB w o bs) (n : Nat) : RdB w o (bs.take n) := by
  intro hne
  have hb : bs ≠ [] := by intro e; rw [e] at hne; simp at hne
  obtain ⟨b, f, rfl, hlt, hc⟩ := h hb
  refine ⟨b, f, rfl, hlt, fun i hi => ?_⟩
  rw [List.length_take] at hi
  rw [hc i (by omega)]
  simp only [List.getD_eq_getElem?_getD]
  rw [List.getElem?_take_of_lt (by omega)]
theorem RdB.get {w : World} {o : Option Addr} {bs : List UInt8} (h : RdB w o bs) {i : Nat} (hi : i < bs.length) :
    ∃ d, o = some d ∧ w.cell? (Addr.add d (Int.toNat (i : Int))) = some (bV (bs.getD i 0)) := by
  obtain ⟨b, f, rfl, hlt, hc⟩ := h (by intro e; rw [e] at hi; simp at hi)
  exact ⟨_, rfl, by rw [Int.toNat_natCast, add_at]; exact hc i hi⟩
theorem RdB.of_blk {w : World} {b f : Nat} {t : TypeId} {cs : Array Value} {bs : List UInt8} (h : Blk w b t cs) (hc : ∀ i, i < bs.length → cs[f + i]? = some (bV (bs.getD i 0))) : RdB w (some ⟨b, f, none⟩) bs :=
  fun _ => ⟨b, f, rfl, h.lt, fun i hi => by rw [h.cell, hc i hi]⟩

def byteW (b : UInt8) : BitVec 64 := b.toBitVec.setWidth 64
theorem uI_byteW (b : UInt8) : uI (byteW b) = (b.toNat : Int) := by
  simp only [uI, byteW, BitVec.toNat_setWidth, UInt8.toNat_toBitVec]
  have := b.toNat_lt
  omega
def leK (bs : List UInt8) : Nat → BitVec 64
  | 0 => 0
  | k + 1 => leK bs k ||| (byteW (bs.getD k 0) <<< (8 * k))
def leWord (bs : List UInt8) : BitVec 64 := leK bs bs.length

def leByte (x : BitVec 64) (i : Nat) : UInt8 := UInt8.ofBitVec ((x >>> (8 * i)).setWidth 8)
def leL (x : BitVec 64) (k : Nat) : List UInt8 := (List.range k).map (leByte x)
theorem length_leL (x : BitVec 64) (k : Nat) : (leL x k).length = k := by simp [leL]
theorem leL_succ (x : BitVec 64) (k : Nat) : leL x (k + 1) = leL x k ++ [leByte x k] := by simp [leL, List.range_succ]
theorem wrap_u8 (n : Int) : IntKind.wrap .u8 n = n % 256 := by simp [IntKind.wrap, IntKind.bits, IntKind.signed]
theorem wrap_u8_word (y : BitVec 64) : IntKind.wrap .u8 (uI y) = ((UInt8.ofBitVec (y.setWidth 8)).toNat : Int) := by
  rw [wrap_u8]
  show (y.toNat : Int) % 256 = ((y.setWidth 8).toNat : Int)
  rw [BitVec.toNat_setWidth]
  omega
theorem bitsI_or_u8 (a b : UInt8) : bitsI .or .u8 (a.toNat : Int) (b.toNat : Int) = ((a ||| b).toNat : Int) := by
  have h : ∀ x : UInt8, BitVec.ofInt 8 (x.toNat : Int) = x.toBitVec := by
    intro x
    apply BitVec.eq_of_toNat_eq
    have := x.toNat_lt
    simp
  simp only [bitsI, IntKind.bits, h, wrap_u8]
  show (((a.toBitVec ||| b.toBitVec : BitVec 8).toNat : Nat) : Int) % 256 = (((a ||| b).toBitVec).toNat : Int)
  rw [UInt8.toBitVec_or]
  have := (a.toBitVec ||| b.toBitVec : BitVec 8).isLt
  omega

def xorB (s : St) (blk : List UInt8) : St := fun i => if i < 17 then s i ^^^ leWord ((blk.drop (8 * i)).take 8) else s i
def absorbB (s : St) (blk : List UInt8) : St := keccakF (xorB s blk)
def eatK (s : St) (bs : List UInt8) : Nat → St
  | 0 => s
  | k + 1 => absorbB (eatK s bs k) ((bs.drop (136 * k)).take 136)
def zeroS : St := fun _ => 0
def stOf (m : List UInt8) : St := eatK zeroS m (m.length / 136)
def restOf (m : List UInt8) : List UInt8 := m.drop (136 * (m.length / 136))
def padAt (r : List UInt8) (i : Nat) : UInt8 := (if i < r.length then r.getD i 0 else if i = r.length then 1 else 0) ||| (if i = 135 then 128 else 0)
def padB (r : List UInt8) : List UInt8 := (List.range 136).map (padAt r)
def lastS (m : List UInt8) : St := absorbB (stOf m) (padB (restOf m))
def outAt (s : St) (i : Nat) : UInt8 := UInt8.ofBitVec ((s (i / 8) >>> (8 * (i % 8))).setWidth 8)
def sumOf (m : List UInt8) : List UInt8 := (List.range 32).map (outAt (lastS m))
def hashA (h : List UInt8) : Array Value := arrOf 32 (fun i => bV (h.getD i 0))

theorem eatK_add (s : St) (bs : List UInt8) (q : Nat) : ∀ k, eatK s bs (q + k) = eatK (eatK s bs q) (bs.drop (136 * q)) k
  | 0 => rfl
  | k + 1 => by
    rw [← Nat.add_assoc, eatK, eatK_add s bs q k, eatK, List.drop_drop]
    congr 4
    omega
theorem eatK_append (s : St) (m b : List UInt8) : ∀ k, 136 * k ≤ m.length → eatK s (m ++ b) k = eatK s m k
  | 0, _ => rfl
  | k + 1, h => by
    rw [eatK, eatK_append s m b k (by omega), eatK]
    congr 1
    rw [List.drop_append_of_le_length (by omega), List.take_append_of_le_length (by rw [List.length_drop]; omega)]
theorem length_restOf (m : List UInt8) : (restOf m).length = m.length % 136 := by
  rw [restOf, List.length_drop]; omega
theorem restOf_lt (m : List UInt8) : (restOf m).length < 136 := by rw [length_restOf]; omega
theorem rest_append (m b : List UInt8) : restOf m ++ b = (m ++ b).drop (136 * (m.length / 136)) := by
  rw [restOf, List.drop_append_of_le_length (by omega)]
theorem stOf_append (m b : List UInt8) : stOf (m ++ b) = eatK (stOf m) (restOf m ++ b) ((restOf m ++ b).length / 136) := by
  rw [rest_append, stOf, stOf]
  have h1 : (m ++ b).length / 136 = m.length / 136 + ((m ++ b).drop (136 * (m.length / 136))).length / 136 := by
    rw [List.length_drop, List.length_append]; omega
  rw [h1, eatK_add, eatK_append _ _ _ _ (by omega)]
theorem restOf_append (m b : List UInt8) : restOf (m ++ b) = (restOf m ++ b).drop (136 * ((restOf m ++ b).length / 136)) := by
  rw [rest_append, restOf, List.drop_drop]
  congr 1
  rw [List.length_drop, List.length_append]; omega
theorem length_sumOf (m : List UInt8) : (sumOf m).length = 32 := by simp [sumOf]
theorem length_padB (r : List UInt8) : (padB r).length = 136 := by simp [padB]
theorem getD_padB (r : List UInt8) {i : Nat} (h : i < 136) : (padB r).getD i 0 = padAt r i := by simp [padB, List.getD_eq_getElem?_getD, h]
theorem getD_sumOf (m : List UInt8) {i : Nat} (h : i < 32) : (sumOf m).getD i 0 = outAt (lastS m) i := by simp [sumOf, List.getD_eq_getElem?_getD, h]

end Go.Vcg
end
section
namespace Go.Vcg

def Own (w : World) (e : TypeId) (sz : Nat) (o : Option Addr) (l c : Nat) (xs : List Value) : Prop :=
  xs.length = l * sz ∧ ((o = none ∧ l = 0 ∧ c = 0) ∨
    ∃ g cur, o = some ⟨g, 0, none⟩ ∧ Blk w g e cur ∧ l ≤ c ∧ c ≤ maxLen ∧ cur.size = c * sz ∧ cur.toList.take (l * sz) = xs)
def OB (o : Option Addr) : Nat → Prop := fun k => ∃ d, o = some d ∧ d.block = k

theorem OB_none (k : Nat) : ¬ OB none k := by rintro ⟨d, h, _⟩; cases h
theorem Own.nil (w : World) (e : TypeId) (sz : Nat) : Own w e sz none 0 0 [] := ⟨by simp, .inl ⟨rfl, rfl, rfl⟩⟩
theorem Own.mod {S : Nat → Prop} {w w' : World} {e : TypeId} {sz : Nat} {o : Option Addr} {l c : Nat} {xs : List Value} (h : Own w e sz o l c xs) (m : Mod S w w') (hs : ∀ k, OB o k → ¬ S k) : Own w' e sz o l c xs := by
  refine ⟨h.1, ?_⟩
  rcases h.2 with hn | ⟨g, cur, rfl, hb, rest⟩
  · exact .inl hn
  · exact .inr ⟨g, cur, rfl, hb.mod m (hs g ⟨_, rfl, rfl⟩), rest⟩
theorem Own.mod' {w w' : World} {e : TypeId} {sz : Nat} {o : Option Addr} {l c : Nat} {xs : List Value} (h : Own w e sz o l c xs) (m : Mod NoB w w') : Own w' e sz o l c xs := h.mod m (fun _ _ h => h)
theorem Own.lt {w : World} {e : TypeId} {sz : Nat} {o : Option Addr} {l c : Nat} {xs : List Value} (h : Own w e sz o l c xs) {k : Nat} (hk : OB o k) : k < w.heap.size := by
  obtain ⟨d, rfl, rfl⟩ := hk
  rcases h.2 with ⟨h, _⟩ | ⟨g, cur, h, hb, rest⟩
  · cases h
  · cases h; exact hb.lt
theorem Own.len {w : World} {e : TypeId} {o : Option Addr} {l c : Nat} {xs : List Value} (h : Own w e 1 o l c xs) : xs.length = l := by have := h.1; omega
theorem Own.cap {w : World} {e : TypeId} {sz : Nat} {o : Option Addr} {l c : Nat} {xs : List Value} (h : Own w e sz o l c xs) : l ≤ c ∧ c ≤ maxLen := by
  rcases h.2 with ⟨_, rfl, rfl⟩ | ⟨g, cur, _, _, h1, h2, _⟩
  · exact ⟨Nat.le_refl _, Nat.zero_le _⟩
  · exact ⟨h1, h2⟩
theorem Own.cell {w : World} {e : TypeId} {sz : Nat} {o : Option Addr} {l c : Nat} {xs : List Value} (h : Own w e sz o l c xs) {i : Nat} {v : Value} (hv : xs[i]? = some v) :
    ∃ g, o = some ⟨g, 0, none⟩ ∧ w.cell? ⟨g, i, none⟩ = some v := by
  rcases h.2 with ⟨_, rfl, _⟩ | ⟨g, cur, ho, hb, _, _, hs, ht⟩
  · have := h.1; simp at this; subst this; simp at hv
  · refine ⟨g, ho, ?_⟩
    rw [hb.cell]
    rw [← ht, List.getElem?_take] at hv
    split at hv
    · simpa using hv
    · cases hv

theorem Own.bytes {w : World} {e : TypeId} {o : Option Addr} {l c : Nat} {bs : List UInt8} (h : Own w e 1 o l c (bs.map bV)) : RdB w o bs := by
  intro hne
  have hl : 0 < bs.length := by cases bs <;> simp_all
  obtain ⟨g, rfl, _⟩ := h.cell (i := 0) (v := bV (bs.getD 0 0)) (by rw [List.getElem?_map]; simp [List.getD_eq_getElem?_getD, hl])
  refine ⟨g, 0, rfl, ?_, fun i hi => ?_⟩
  · exact h.lt ⟨_, rfl, rfl⟩
  · obtain ⟨g', hg, hc⟩ := h.cell (i := i) (v := bV (bs.getD i 0)) (by rw [List.getElem?_map]; simp [List.getD_eq_getElem?_getD, hi])
    cases hg
    rw [Nat.zero_add]; exact hc

theorem src_bytes {P : Program} {w : World} {tx e' : TypeId} (hk : P.underlying tx = some (.slice e')) {o : Option Addr} {c : Nat} {bs : List UInt8} (h : RdB w o bs) :
    Src P 1 tx (.slice o bs.length c) bs.length (bs.map bV) w := by
  by_cases hb : bs = []
  · subst hb
    cases o with
    | none => exact Src.ofNil w hk c
    | some a => exact Src.ofSlice w hk a 0 c [] (by simp) (by simp) (by simp)
  · obtain ⟨b, f, rfl, hl, hc⟩ := h hb
    refine Src.ofSlice w hk _ _ c _ (by simp) (fun j u hu => ?_) (by simp; intro a _; rfl)
    rw [add_at]
    rw [List.getElem?_map, Option.map_eq_some_iff] at hu
    obtain ⟨x, hx, rfl⟩ := hu
    obtain ⟨hj, rfl⟩ := List.getElem?_eq_some_iff.1 hx
    rw [hc j hj]
    simp [List.getD_eq_getElem?_getD, hj]
theorem src_one {P : Program} {w : World} {tx e' : TypeId} (hk : P.underlying tx = some (.slice e')) {b : Nat} {t : TypeId} {cs : Array Value} {sz : Nat} (h : Blk w b t cs) (hs : cs.size = sz) (h1 : ∀ v ∈ cs.toList, v.oneCell' = true) :
    Src P sz tx (.slice (some ⟨b, 0, none⟩) 1 1) 1 cs.toList w :=
  Src.ofSlice w hk _ 1 1 _ (by simp [hs]) (fun j u hu => by rw [add_at, h.cell, Nat.zero_add]; simpa using hu) h1

theorem mod_setCells (w : World) (g : Nat) : ∀ (vs : List Value) (o : Nat), Mod (· = g) w (w.setCells g o vs)
  | [], _ => Mod.refl w
  | v :: vs, o => by
    have h1 := Mod.setCell w ⟨g, o, none⟩ v
    suffices ∀ w1 : World, Mod (· = g) w w1 → ∀ (vs : List Value) (o : Nat), Mod (· = g) w (w1.setCells g o vs) from this _ h1 vs (o + 1)
    intro w1 h1 vs
    induction vs generalizing w1 with
    | nil => intro _; exact h1
    | cons v vs ih => exact fun o => ih _ (h1.trans (Mod.setCell _ _ _) (fun _ _ h => h)) _
theorem blk_setCells {g : Nat} {t : TypeId} : ∀ (vs : List Value) (o : Nat) {cs : Array Value} {w : World}, Blk w g t cs → Blk (w.setCells g o vs) g t (setsAt cs o vs)
  | [], _, _, _, h => h
  | v :: vs, o, cs, w, h => by
    rw [World.setCells, setsAt]
    exact blk_setCells vs (o + 1) (h.set o v)
theorem size_setsAt : ∀ (vs : List Value) (o : Nat) (cs : Array Value), (setsAt cs o vs).size = cs.size
  | [], _, _ => rfl
  | v :: vs, o, cs => by rw [setsAt, size_setsAt vs]; simp
theorem get_setsAt : ∀ (vs : List Value) (o : Nat) (cs : Array Value) (i : Nat), o + vs.length ≤ cs.size → (setsAt cs o vs)[i]? = if o ≤ i ∧ i < o + vs.length then vs[i - o]? else cs[i]?
  | [], o, cs, i, h => by rw [setsAt, if_neg (by simp)]
  | v :: vs, o, cs, i, h => by
    rw [List.length_cons] at h
    rw [setsAt, get_setsAt vs (o + 1) _ i (by simp; omega), Array.getElem?_setIfInBounds]
    by_cases h1 : i = o
    · subst h1
      rw [if_neg (by omega), if_pos rfl, if_pos (by omega), if_pos (by simp)]
      simp
    · by_cases h2 : o + 1 ≤ i ∧ i < o + 1 + vs.length
      · rw [if_pos h2, if_pos (by simp; omega), show i - o = (i - (o + 1)) + 1 by omega]
        simp
      · rw [if_neg h2, if_neg (by omega), if_neg (by simp; omega)]

theorem append_own {P : Program} {w : World} {t tx ty e : TypeId} {i : TypeInfo} {z : Value} {sz : Nat} {o : Option Addr} {l c : Nat} {xs : List Value} {x : Value} {n : Nat} {news : List Value}
    (ht : P.underlying t = some (.slice e)) (hi : P.info? e = some i) (hz : i.zero = some z) (hs : i.size = sz) (hzs : z.cells.size = sz)
    (h : Own w e sz o l c xs) (src : Src P sz tx x n news w) (h63 : l + n ≤ maxLen) (hb : (l + n) * i.bytes ≤ 140737488355328) :
    ∃ o' c' w', Sem.run P (builtinV .append #[t, tx] ty #[.slice o l c, x]) w = .ok (.slice o' (l + n) c') w' ∧ Own w' e sz o' (l + n) c' (xs ++ news) ∧ Mod (OB o) w w' ∧
      (∀ k, OB o' k → OB o k ∨ w.heap.size ≤ k) := by
  have hlen : (xs ++ news).length = (l + n) * sz := by rw [List.length_append, h.1, src.newsLen, Nat.add_mul]
  by_cases hroom : l + n ≤ c
  · rcases h.2 with ⟨rfl, rfl, rfl⟩ | ⟨g, cur, rfl, hB, hlc, hcm, hcs, htk⟩
    · obtain rfl : n = 0 := by omega
      have hn : news = [] := List.eq_nil_of_length_eq_zero (by simpa using src.newsLen)
      have hx : xs = [] := List.eq_nil_of_length_eq_zero (by simpa using h.1)
      subst hn hx
      refine ⟨none, 0, w, ?_, Own.nil _ _ _, Mod.refl w, fun k hk => .inl hk⟩
      have hc := src.cells
      subst hs
      rcases src.kind with ⟨e', hk⟩ | hk <;> simp [builtinV, Builtin.append_, run_underlying ht, run_underlying hk, sizeOf, typeInfo, hi, src.len, hc]
    · subst hs
      have hfit : l * i.size + news.length ≤ cur.size := by rw [src.newsLen, hcs, ← Nat.add_mul]; exact Nat.mul_le_mul_right _ hroom
      have hr := run_append_room_src (P := P) w t tx ty e i ht hi g 0 l c x n news src hroom
        (fun j hj => by rw [Nat.zero_add, hB.cell]; simp; omega) (fun j hj => by simp [World.frozen?, show w.heap[g]? = _ from hB])
      rw [Nat.zero_add] at hr
      refine ⟨_, _, _, hr, ⟨hlen, .inr ⟨g, _, rfl, blk_setCells news _ hB, hroom, hcm, by rw [size_setsAt, hcs], ?_⟩⟩, (mod_setCells w g news _).mono (fun k _ hk => ⟨_, rfl, hk.symm⟩), fun k hk => .inl hk⟩
      apply List.ext_getElem?
      intro j
      rw [List.getElem?_take]
      have hxl : xs.length = l * i.size := h.1
      by_cases hj : j < (l + n) * i.size
      · rw [if_pos hj, Array.getElem?_toList, get_setsAt _ _ _ _ hfit]
        by_cases hj2 : j < l * i.size
        · rw [if_neg (by omega), List.getElem?_append_left (by omega), ← htk, List.getElem?_take, if_pos hj2, Array.getElem?_toList]
        · rw [if_pos (by rw [src.newsLen, ← Nat.add_mul]; omega), List.getElem?_append_right (by omega), hxl]
      · rw [if_neg hj, List.getElem?_eq_none (by omega)]
  · have hold : (Builtin.firstCells i.size l (.slice o l c)).run P w.drew = .ok xs.toArray w.drew := by
      subst hs
      rcases h.2 with ⟨rfl, rfl, rfl⟩ | ⟨g, cur, rfl, hB, hlc, hcm, hcs, htk⟩
      · have hx : xs = [] := List.eq_nil_of_length_eq_zero (by simpa using h.1)
        subst hx
        exact run_firstCells_none w.drew i.size 0 0 0
      · exact run_firstCells_some w.drew i.size l _ l c xs h.1 (fun j v hv => by
          rw [add_at, Nat.zero_add]
          obtain ⟨g', hg', hc'⟩ := h.cell hv
          cases hg'
          exact hc')
    have hr := run_append_grow_src (P := P) w t tx ty e i z ht hi hz o l c xs hold x n news (hs ▸ src) (by omega) (by simp only [maxLen] at h63; omega) (growslice_fits (by omega) hb)
    have hge := grownCap_ge w (l + n) c e
    have hcm : grownCap w (l + n) c e ≤ maxLen := grownCap_le_maxLen w (l + n) c e h63
    refine ⟨_, _, _, hr, ⟨hlen, .inr ⟨_, _, rfl, Blk.new w.drew e _, hge, hcm, ?_, ?_⟩⟩, ((Mod.drew w).step_alloc _), fun k hk => .inr ?_⟩
    · rw [Array.size_append, List.size_toArray, hlen, size_zeroCells, hzs, ← Nat.add_mul]
      congr 1; omega
    · rw [Array.toList_append]
      show List.take _ ((xs ++ news) ++ _) = _
      rw [← hlen]
      exact List.take_left
    · obtain ⟨d, hd, rfl⟩ := hk
      cases hd
      exact Nat.le_refl _

theorem copy_blk {P : Program} {w : World} {t tx ty e : TypeId} {g o dLen dCap c n : Nat} {cur : Array Value} {te : TypeId} {o2 : Option Addr} {bs : List UInt8}
    (ht : P.underlying t = some (.slice e)) (hi : (P.info? e).map (·.size) = some 1) (h : Blk w g te cur) (hr : RdB w o2 bs) (hn : n = Nat.min bs.length dLen) (hfit : o + n ≤ cur.size) :
    ∃ w', Sem.run P (builtinV .copy #[t, tx] ty #[.slice (some ⟨g, o, none⟩) dLen dCap, .slice o2 bs.length c]) w = .ok (.int .i64 (n : Int)) w' ∧ Blk w' g te (setsAt cur o ((bs.take n).map bV)) ∧ Mod (· = g) w w' := by
  obtain ⟨i, hi1, hi2⟩ := Option.map_eq_some_iff.1 hi
  have hlen : ((bs.take n).map bV).length = n := by
    rw [List.length_map, List.length_take]
    have : n ≤ bs.length := by rw [hn]; exact Nat.min_le_left _ _
    omega
  have hone : ∀ v ∈ (bs.take n).map bV, v.oneCell' = true := by
    intro v hv; obtain ⟨x, _, rfl⟩ := List.mem_map.1 hv; rfl
  have hcells : (Builtin.firstCells 1 n (.slice o2 bs.length c)).run P w = .ok ((bs.take n).map bV).toArray w := by
    have h1 := hr.take n
    by_cases hb : bs.take n = []
    · have h0 : n = 0 := by rw [← hlen, hb]; rfl
      rw [hb, h0]
      cases o2 with
      | none => exact run_firstCells_none w 1 0 _ _
      | some a => exact run_firstCells_some w 1 0 a _ _ [] (by simp) (by simp)
    · obtain ⟨b, f, rfl, hl, hc⟩ := h1 hb
      refine run_firstCells_some w 1 n _ _ _ _ (by rw [hlen]; omega) (fun j u hu => ?_)
      rw [add_at]
      rw [List.getElem?_map, Option.map_eq_some_iff] at hu
      obtain ⟨x, hx, rfl⟩ := hu
      obtain ⟨hj, rfl⟩ := List.getElem?_eq_some_iff.1 hx
      rw [hc j hj]
      simp only [List.getD_eq_getElem?_getD, hx, Option.getD_some]
  have hst := run_storeCells_cells (P := P) g o ((bs.take n).map bV) 0 w
    (fun j hj => by rw [h.cell]; simp; omega) (fun j hj => by simp [World.frozen?, show w.heap[g]? = _ from h]) hone
  simp only [Nat.add_zero] at hst
  refine ⟨w.setCells g o ((bs.take n).map bV), ?_, blk_setCells _ _ h, mod_setCells _ _ _ _⟩
  have hm : (Builtin.firstCells 1 (Nat.min bs.length dLen) (.slice o2 bs.length c)).run P w = .ok ((bs.take n).map bV).toArray w := hn ▸ hcells
  clear hcells hone hr
  subst hn
  generalize (bs.take (Nat.min bs.length dLen)).map bV = L at *
  simp only [Builtin.copy_, builtinV]
  simp [run_underlying ht, Builtin.lenOf, sizeOf, typeInfo, hi1, hi2, hm, hst, goInt]

theorem copy_down {P : Program} {w : World} {t tx ty e : TypeId} {o : Option Addr} {l c lo : Nat} {bs : List UInt8}
    (ht : P.underlying t = some (.slice e)) (hi : (P.info? e).map (·.size) = some 1) (h : Own w e 1 o l c (bs.map bV)) (hlo : lo ≤ l) :
    ∃ w', Sem.run P (builtinV .copy #[t, tx] ty #[.slice o l c, .slice (subO o c lo 1) (l - lo) (c - lo)]) w = .ok (.int .i64 ((l - lo : Nat) : Int)) w' ∧ Own w' e 1 o (l - lo) c ((bs.drop lo).map bV) ∧ Mod (OB o) w w' := by
  have hl : bs.length = l := by have := h.len; simpa using this
  have hr := h.bytes
  have hr' : RdB w (subO o c lo 1) (bs.drop lo) := by
    have := hr.sub (c := c) (lo := lo) (n := bs.length) (by rw [hl]; exact h.cap.1)
    rwa [List.take_of_length_le (by simp)] at this
  rcases h.2 with ⟨rfl, rfl, rfl⟩ | ⟨g, cur, rfl, hB, hlc, hcm, hcs, htk⟩
  · obtain rfl : lo = 0 := by omega
    have : bs = [] := List.eq_nil_of_length_eq_zero hl
    subst this
    refine ⟨w, ?_, Own.nil _ _ _, Mod.refl w⟩
    obtain ⟨i, hi1, hi2⟩ := Option.map_eq_some_iff.1 hi
    simp [builtinV, Builtin.copy_, run_underlying ht, Builtin.lenOf, sizeOf, typeInfo, hi1, Builtin.firstCells, subO, goInt]
  · obtain ⟨w', h1, h2, h3⟩ := copy_blk (P := P) (ty := ty) (tx := tx) (dLen := l) (dCap := c) (n := l - lo) (o := 0) (c := c - lo) ht hi hB hr' (by rw [List.length_drop, hl]; exact (Nat.min_eq_left (by omega)).symm) (by omega)
    rw [List.length_drop, hl] at h1
    have hdl : (bs.drop lo).length = l - lo := by rw [List.length_drop, hl]
    rw [List.take_of_length_le (by omega)] at h2
    have hml : ((bs.drop lo).map bV).length = l - lo := by rw [List.length_map, hdl]
    refine ⟨w', h1, ⟨by rw [hml, Nat.mul_one], .inr ⟨g, _, rfl, h2, by omega, hcm, by rw [size_setsAt, hcs], ?_⟩⟩, h3.mono (fun k _ hk => ⟨_, rfl, hk.symm⟩)⟩
    apply List.ext_getElem?
    intro j
    rw [List.getElem?_take, Nat.mul_one]
    by_cases hj : j < l - lo
    · rw [if_pos hj, Array.getElem?_toList, get_setsAt _ _ _ _ (by omega), if_pos (by omega), Nat.sub_zero]
    · rw [if_neg hj, List.getElem?_eq_none (by omega)]

theorem setsAt_arrOf (n o : Nat) (f g : Nat → Value) (m : Nat) (vs : List Value) (hm : vs.length = m) (hg : ∀ i, i < m → vs[i]? = some (g i)) (h : o + m ≤ n) :
    setsAt (arrOf n f) o vs = arrOf n (fun i => if o ≤ i ∧ i < o + m then g (i - o) else f i) := by
  subst hm
  refine eq_arrOf (by rw [size_setsAt, size_arrOf]) (fun i hi => ?_)
  rw [get_setsAt _ _ _ _ (by simpa using h)]
  by_cases h1 : o ≤ i ∧ i < o + vs.length
  · rw [if_pos h1, if_pos h1, hg _ (by omega)]
  · rw [if_neg h1, if_neg h1, get_arrOf_lt hi]
theorem map_bV_get {bs : List UInt8} {i : Nat} (h : i < bs.length) : (bs.map bV)[i]? = some (bV (bs.getD i 0)) := by
  rw [List.getElem?_map, List.getElem?_eq_getElem h]
  simp [List.getD_eq_getElem?_getD, h]

def RdBB (w : World) (o : Option Addr) (ls : List (List UInt8)) : Prop :=
  ∀ i, i < ls.length → ∃ b f oi ci, o = some ⟨b, f, none⟩ ∧ b < w.heap.size ∧ w.cell? ⟨b, f + i, none⟩ = some (.slice oi (ls.getD i []).length ci) ∧ RdB w oi (ls.getD i [])
theorem RdBB.mod' {w w' : World} {o : Option Addr} {ls : List (List UInt8)} (h : RdBB w o ls) (m : Mod NoB w w') : RdBB w' o ls := by
  intro i hi
  obtain ⟨b, f, oi, ci, rfl, hl, hc, hr⟩ := h i hi
  exact ⟨b, f, oi, ci, rfl, Nat.lt_of_lt_of_le hl m.size, (World.cell?_of_block (m.block b hl (fun h => h))).trans hc, hr.mod' m⟩
theorem RdBB.one {w : World} {b : Nat} {t : TypeId} {o : Option Addr} {c : Nat} {bs : List UInt8} (h : Blk w b t #[.slice o bs.length c]) (hr : RdB w o bs) : RdBB w (some ⟨b, 0, none⟩) [bs] := by
  intro i hi
  obtain rfl : i = 0 := by simpa using hi
  exact ⟨b, 0, o, c, rfl, h.lt, by rw [h.cell]; rfl, hr⟩
theorem flatten_take_succ (ls : List (List UInt8)) (i : Nat) (h : i < ls.length) : (ls.take (i + 1)).flatten = (ls.take i).flatten ++ ls.getD i [] := by
  rw [List.take_add_one, List.flatten_append, List.getElem?_eq_getElem h]
  simp [List.getD_eq_getElem?_getD, h]

end Go.Vcg
end
section
namespace Go.Proofs.Ytfghidehlnfdiaa
open Go Go.Vcg

theorem Unlittle_calls {R : Ending → World → Prop} {w : World} {o : Option Addr} {l c : Nat} (bs : List UInt8) (hl : l = bs.length) (h8 : bs.length ≤ 8) (hr : RdB w o bs)
    (h : R (.returned (uV (leWord bs))) w) : Calls Try.prog plain_Unlittle.n #[.slice o l c] w R := by
  subst hl
  refine plain_Unlittle.vc _ _ _ _ _ ?_
  unfold plain_Unlittle.Vc
  refine ⟨fun n2 n3 w' => ∃ i : Nat, n3 = i ∧ i ≤ bs.length ∧ n2 = uI (leK bs i) ∧ w' = w, fun _ n _ => ((bs.length : Int) - n).toNat, ⟨0, rfl, by omega, rfl, rfl⟩, ?_⟩
  rintro _ _ _ _ ⟨i, rfl, hi, rfl, rfl⟩
  refine ⟨fun hlt => ?_, fun hge => ?_⟩
  · obtain ⟨d, rfl, hd⟩ := hr.get (i := i) (by omega)
    refine ⟨d, rfl, by omega, _, hd, ?_⟩
    have e1 : IntKind.wrap .i64 (8 * (i : Int)) = ((8 * i : Nat) : Int) := by rw [wrap_i64_small (by omega) (by omega)]; omega
    have e2 : IntKind.wrap .u64 ((bs.getD i 0).toNat : Int) = uI (byteW (bs.getD i 0)) := by rw [← uI_byteW, wrap_uI]
    rw [e1, e2, shlI_u, bitsI_or]
    exact ⟨by omega, ⟨i + 1, by rw [wrap_i64_small (by omega) (by omega)]; omega, by omega, rfl, rfl⟩, by rw [wrap_i64_small (by omega) (by omega)]; dsimp only; omega⟩
  · obtain rfl : i = bs.length := by omega
    exact h

theorem absorb_calls {w : World} (s : St) (b o : Nat) (hp : PlanAt w b o) {o2 : Option Addr} {l2 c2 : Nat} (blk : List UInt8) (hl : blk.length = 136) (hl2 : l2 = 136) (hc : 136 ≤ c2) (hr : RdB w o2 blk) :
    Calls Try.prog keccak_state_absorb.n #[.agg (lanesA s), .pointer (some ⟨b, o, none⟩), .slice o2 l2 c2] w
      (fun e w' => e = .returned (.agg (lanesA (absorbB s blk))) ∧ Vcg.Mod NoB w w') := by
  subst hl2
  refine keccak_state_absorb.vc _ _ _ _ _ _ _ ?_
  unfold keccak_state_absorb.Vc
  rintro d3 w4 ⟨rfl, rfl⟩ d5 w6 ⟨rfl, rfl⟩
  have B2 := (Blk.new w 110 (lanesA s)).alloc (.cells (Array.replicate 25 (.int .u64 0)) 110)
  have B4 := Blk.new (w.alloc (.cells (lanesA s) 110)) 110 (Array.replicate 25 (.int .u64 0))
  have M := (Mod.alloc (S := NoB) w (.cells (lanesA s) 110)).step_alloc (.cells (Array.replicate 25 (.int .u64 0)) 110)
  simp only [size_alloc] at B4 ⊢
  generalize (w.alloc (.cells (lanesA s) 110)).alloc (.cells (Array.replicate 25 (.int .u64 0)) 110) = w5 at *
  generalize hNe : w.heap.size = N at *
  refine loopN 17 (fun n w' => Vcg.Mod NoB w w' ∧ Blk w' N 110 (arrOf 25 (fun i => uV (if i < n then xorB s blk i else s i))) ∧ Blk w' (N + 1) 110 (Array.replicate 25 (.int .u64 0))) rfl
    ⟨M, by simp only [Nat.not_lt_zero, if_false]; exact B2, B4⟩ ?_ ?_
  · clear M B2 B4
    rintro n _ w6 hn ⟨M, B2, B4⟩
    rintro _ rfl
    have e1 : IntKind.wrap .i64 (8 * (n : Int)) = ((8 * n : Nat) : Int) := by rw [wrap_i64_small (by omega) (by omega)]; omega
    have e2 : IntKind.wrap .i64 (((8 * n : Nat) : Int) + 8) = ((8 * n + 8 : Nat) : Int) := by rw [wrap_i64_small (by omega) (by omega)]; omega
    rw [e1, e2]
    clear e1 e2
    refine ⟨by omega, _, B2.drew.rd0 (get_arrOf_lt (by omega)), by omega, by omega, ?_⟩
    rw [Int.toNat_natCast, Int.toNat_natCast]
    have hr' := ((hr.mod' (M.step_drew)).sub (c := c2) (lo := 8 * n) (n := 8) (by omega))
    have hlen : ((blk.drop (8 * n)).take 8).length = 8 := by rw [List.length_take, List.length_drop]; omega
    refine Unlittle_calls ((blk.drop (8 * n)).take 8) (by rw [hlen]; omega) (by omega) hr' ⟨_, rfl, B2.drew.rd0 (get_arrOf_lt (by omega)), by omega, B2.drew.canSet0 (by simp; omega) rfl, fun w7 h7 => ?_⟩
    rw [h7.at, bitsI_xor]
    simp only [Nat.lt_irrefl, if_false]
    refine UpTo.next (by rw [wrap_i64_small (by omega) (by omega)]; omega) hn ⟨(M.step_drew).step_set (fun h => by simp only [hNe] at h; omega), ?_, B4.drew.set_ne (by simp)⟩
    have := B2.drew.set n (uV (xorB s blk n))
    rw [set_arrOf] at this
    have e3 : s n ^^^ leWord ((blk.drop (8 * n)).take 8) = xorB s blk n := by rw [xorB, if_pos hn]
    rw [e3]
    refine (arrOf_congr (fun j hj => ?_)) ▸ this
    grind
  · clear M B2 B4
    rintro _ w6 ⟨M, B2, B4⟩
    have e : (arrOf 25 fun i => uV (if i < 17 then xorB s blk i else s i)) = lanesA (xorB s blk) := arrOf_congr (fun i hi => by
      by_cases h : i < 17
      · rw [if_pos h]
      · rw [if_neg h, xorB, if_neg h])
    rw [e] at B2
    refine ⟨_, B2.rowAll (size_lanesA _), (permuted_calls _ b o (hp.mod M (fun h => h))).mono ?_⟩
    rintro _ w7 ⟨rfl, M7⟩
    exact ⟨_, rfl, _, (B4.mod' M7).storeAll (L := lanesA (keccakF (xorB s blk))) (by rw [size_lanesA]; kernel_rfl) (by rw [size_lanesA, Array.size_replicate]) (lanesA_one _), _,
      ((B4.mod' M7).row_same _).rowAll (size_lanesA _), rfl, (M.none_trans M7).step_row (fun h => by omega)⟩

end Go.Proofs.Ytfghidehlnfdiaa
end
section
namespace Go.Proofs.Ytfghidehlnfdiaa
open Go
abbrev tU8 : TypeId := 5
abbrev tSlU8 : TypeId := 22
abbrev tSponge : TypeId := 112
abbrev tState : TypeId := 110
abbrev tHash : TypeId := 26
abbrev tLast : TypeId := 115
abbrev tLanes : TypeId := 40
theorem und_slU8 : Try.prog.underlying tSlU8 = some (.slice tU8) := by kernel_rfl
theorem info_u8 : (Try.prog.info? tU8).map (fun i => (i.zero, i.size, i.bytes)) = some (some (.int .u8 0), 1, 1) := by kernel_rfl
theorem info_u8_size : (Try.prog.info? tU8).map (·.size) = some 1 := by kernel_rfl
end Go.Proofs.Ytfghidehlnfdiaa
end
section
namespace Go.Proofs.Ytfghidehlnfdiaa
open Go Go.Vcg

theorem append_u8 {w : World} {o : Option Addr} {l c : Nat} {xs : List Value} {x : Value} {tx ty : TypeId} {n : Nat} {news : List Value} (h : Own w tU8 1 o l c xs) (src : Src Try.prog 1 tx x n news w) (hb : l + n ≤ 140737488355328) :
    ∃ o' c' w', Sem.run Try.prog (builtinV .append #[tSlU8, tx] ty #[.slice o l c, x]) w = .ok (.slice o' (l + n) c') w' ∧ Own w' tU8 1 o' (l + n) c' (xs ++ news) ∧ Vcg.Mod (OB o) w w' ∧ (∀ k, OB o' k → OB o k ∨ w.heap.size ≤ k) := by
  obtain ⟨i, hi, h1⟩ := Option.map_eq_some_iff.1 info_u8
  simp only [Prod.mk.injEq] at h1
  exact append_own und_slU8 hi h1.1 h1.2.1 rfl h src (by simp only [maxLen]; omega) (by rw [h1.2.2]; omega)

def spongeF (s : St) (o : Option Addr) (l c : Nat) (i : Nat) : Value :=
  if i < 24 then uV (rcOf i) else if i < 49 then .int .i64 (turnOf (i - 24) : Int) else if i < 74 then uV (s (i - 49)) else .slice o l c
def spongeA (s : St) (o : Option Addr) (l c : Nat) : Array Value := arrOf 75 (spongeF s o l c)

def SpongeAt (w : World) (b : Nat) (o : Option Addr) (m : List UInt8) : Prop :=
  ∃ l c, Blk w b tSponge (spongeA (stOf m) o l c) ∧ Own w tU8 1 o l c ((restOf m).map bV) ∧ ¬ OB o b
def SpB (b : Nat) (o : Option Addr) : Nat → Prop := fun k => k = b ∨ OB o k


theorem plan_of_sponge {w : World} {b : Nat} {s : St} {o : Option Addr} {l c : Nat} (h : Blk w b tSponge (spongeA s o l c)) : PlanAt w b 0 :=
  PlanAt.of_blk h (fun i hi => by
    rw [Nat.zero_add, spongeA, planA, get_arrOf_lt (by omega), get_arrOf_lt hi, spongeF]
    by_cases h1 : i < 24
    · rw [if_pos h1, if_pos h1]
    · rw [if_neg h1, if_neg h1, if_pos hi])
theorem lanes_of_sponge {w : World} {b : Nat} {s : St} {o : Option Addr} {l c : Nat} (h : Blk w b tSponge (spongeA s o l c)) : RowAt w ⟨b, 49, none⟩ 25 (lanesA s) :=
  h.rowAt (size_lanesA s) (fun i hi => by
    rw [spongeA, get_arrOf_lt (by omega), get_lanesA s hi, spongeF, if_neg (by omega), if_neg (by omega), if_pos (by omega), Nat.add_sub_cancel_left])
theorem rest_of_sponge {w : World} {b : Nat} {s : St} {o : Option Addr} {l c : Nat} (h : Blk w b tSponge (spongeA s o l c)) : w.cell? ⟨b, 74, none⟩ = some (.slice o l c) :=
  h.rd1 (by rw [spongeA, get_arrOf_lt (by omega)]; rfl)
theorem set_rest {w : World} {b : Nat} {s : St} {o o' : Option Addr} {l c l' c' : Nat} (h : Blk w b tSponge (spongeA s o l c)) : Blk (w.setCell ⟨b, 74, none⟩ (.slice o' l' c')) b tSponge (spongeA s o' l' c') := by
  have := h.set 74 (.slice o' l' c')
  rw [spongeA, set_arrOf] at this
  refine (show _ = spongeA s o' l' c' from arrOf_congr (fun j hj => ?_)) ▸ this
  unfold spongeF
  by_cases h0 : j = 74
  · subst h0; rfl
  · rw [if_neg h0]
    by_cases h1 : j < 24
    · rw [if_pos h1, if_pos h1]
    · rw [if_neg h1, if_neg h1]
      by_cases h2 : j < 49
      · rw [if_pos h2, if_pos h2]
      · rw [if_neg h2, if_neg h2, if_pos (by omega), if_pos (by omega)]

theorem store_lanes {w : World} {b : Nat} {s s' : St} {o : Option Addr} {l c : Nat} (h : Blk w b tSponge (spongeA s o l c)) :
    ∃ w', Sem.run Try.prog (Instr.storeAt tState (.pointer (some ⟨b, 49, none⟩)) (.agg (lanesA s'))) w = .ok () w' ∧ Blk w' b tSponge (spongeA s' o l c) ∧ Vcg.Mod (· = b) w w' := by
  have hi : (Try.prog.info? tState).map (·.size) = some 25 := by kernel_rfl
  obtain ⟨i, hi1, hi2⟩ := Option.map_eq_some_iff.1 hi
  have hs := h.storeAt (L := lanesA s') (o := 49) hi1 (by rw [size_lanesA]; exact hi2) (by rw [size_lanesA, spongeA, size_arrOf]; decide) (lanesA_one _)
  have e2 : arrOf 75 (fun i => if i < 49 then spongeF s o l c i else if i < 49 + 25 then uV (s' (i - 49)) else spongeF s o l c i) = spongeA s' o l c :=
    arrOf_congr (fun i hi => by
      unfold spongeF
      by_cases h1 : i < 24
      · rw [if_pos h1, if_pos (by omega), if_pos h1]
      · rw [if_neg h1, if_neg h1]
        by_cases h2 : i < 49
        · rw [if_pos h2, if_pos h2, if_pos h2]
        · rw [if_neg h2, if_neg h2, if_neg h2]
          by_cases h3 : i < 74
          · rw [if_pos (by omega), if_pos h3]
          · rw [if_neg (by omega), if_neg h3, if_neg h3])
  have hA : (List.take 49 (spongeA s o l c).toList ++ (lanesA s').toList ++ List.drop (49 + (lanesA s').size) (spongeA s o l c).toList).toArray = spongeA s' o l c := by
    rw [size_lanesA, ← e2]
    exact splice_arrOf 75 49 25 (spongeF s o l c) (fun i => uV (s' i)) (by decide)
  rw [hA] at hs
  exact ⟨_, hs, h.row_same _, Mod.setRow w b _⟩

theorem New_calls (w : World) : Calls Try.prog keccak_New.n #[] w (fun e w' => ∃ b, e = .returned (.pointer (some ⟨b, 0, none⟩)) ∧ SpongeAt w' b none [] ∧ Vcg.Mod NoB w w' ∧ w.heap.size ≤ b) := by
  refine keccak_New.vc _ _ ?_
  unfold keccak_New.Vc
  refine (planned_calls _).mono ?_
  rintro _ w1 ⟨rfl, M1⟩
  refine ⟨_, rfl, size_planA, ?_⟩
  rintro d3 w4 ⟨rfl, rfl⟩
  refine ⟨_, rfl, ⟨0, 0, ?_, Own.nil _ _ _, OB_none _⟩, M1.step_alloc _, M1.size⟩
  exact (show _ = spongeA (stOf []) none 0 0 from by kernel_rfl) ▸ Blk.new w1 _ _

end Go.Proofs.Ytfghidehlnfdiaa
end
section
namespace Go.Proofs.Ytfghidehlnfdiaa
open Go Go.Vcg

theorem Write_calls {w : World} {b : Nat} {o o1 : Option Addr} {l1 c1 : Nat} {m bs : List UInt8} (hS : SpongeAt w b o m) (hr : RdB w o1 bs) (hl : l1 = bs.length) (hmax : bs.length ≤ 2 ^ 40) :
    Calls Try.prog keccak_Sponge_Write.n #[.pointer (some ⟨b, 0, none⟩), .slice o1 l1 c1] w
      (fun e w' => e = .returned (.tuple #[]) ∧ ∃ o', SpongeAt w' b o' (m ++ bs) ∧ Vcg.Mod (SpB b o) w w' ∧ ∀ k, OB o' k → OB o k ∨ w.heap.size ≤ k) := by
  subst hl
  obtain ⟨l, c, hB, hO, hn⟩ := hS
  refine keccak_Sponge_Write.vc _ _ _ _ _ _ ?_
  unfold keccak_Sponge_Write.Vc
  simp only [add_at, Nat.zero_add]
  have hrl : (restOf m).length = l := by have := hO.len; simpa using this
  have hlt := restOf_lt m
  obtain ⟨o', c', w1, h1, hO1, M1, hF1⟩ := append_u8 (ty := tSlU8) hO (src_bytes (c := c1) und_slU8 hr) (by omega)
  have hnb : ¬ OB o' b := fun h => (hF1 b h).elim hn (fun h => by have := hB.lt; omega)
  rw [← List.map_append] at hO1
  have hB1 := hB.mod M1 hn
  refine ⟨_, _, _, rest_of_sponge hB, _, w1, h1, _, _, _, rfl, hB1.canSet (by rw [spongeA, size_arrOf]; decide) rfl, ?_⟩
  rintro _ rfl
  have hB2 := set_rest (o' := o') (l' := l + bs.length) (c' := c') hB1
  have hO2 := hO1.mod (Mod.setCell w1 ⟨b, 74, none⟩ (.slice o' (l + bs.length) c')) (fun k hk (hkb : k = b) => hnb (hkb ▸ hk))
  have M2 : Vcg.Mod (SpB b o) w (w1.setCell ⟨b, 74, none⟩ (.slice o' (l + bs.length) c')) := (M1.mono (T := SpB b o) (fun k _ h => .inr h)).step_set (fun _ => .inl rfl)
  generalize w1.setCell ⟨b, 74, none⟩ (.slice o' (l + bs.length) c') = w2 at *
  generalize hall : restOf m ++ bs = all at *
  have hlen : l + bs.length = all.length := by rw [← hall, List.length_append, hrl]
  rw [hlen] at hB2 hO2
  have hmax' : all.length < 2 ^ 41 := by omega
  refine ⟨fun n w' => ∃ k : Nat, n = ((136 * k : Nat) : Int) ∧ 136 * k ≤ all.length ∧ Vcg.Mod (SpB b o) w w' ∧ Blk w' b tSponge (spongeA (eatK (stOf m) all k) o' all.length c') ∧ Own w' tU8 1 o' all.length c' (all.map bV),
    fun n _ => ((all.length : Int) - n).toNat, ⟨0, rfl, by omega, M2, hB2, hO2⟩, ?_⟩
  rintro _ _ w3 ⟨k, rfl, hk, M3, hB3, hO3⟩
  refine ⟨_, _, _, rest_of_sponge hB3, ?_⟩
  have ew : IntKind.wrap .i64 (((all.length : Nat) : Int) - ((136 * k : Nat) : Int)) = ((all.length - 136 * k : Nat) : Int) := by rw [wrap_i64_small (by omega) (by omega)]; omega
  rw [ew]
  refine ⟨fun hge => ?_, fun hlt' => ?_⟩
  · rintro _ rfl
    have e2 : IntKind.wrap .i64 (((136 * k : Nat) : Int) + 136) = ((136 * k + 136 : Nat) : Int) := by rw [wrap_i64_small (by omega) (by omega)]; omega
    rw [e2, Int.toNat_natCast, Int.toNat_natCast]
    have hcap := hO3.cap
    refine ⟨_, lanes_of_sponge hB3.drew, _, _, _, rest_of_sponge hB3.drew, by omega, by omega, ?_⟩
    refine (absorb_calls _ b 0 (plan_of_sponge hB3.drew) ((all.drop (136 * k)).take 136) (by rw [List.length_take, List.length_drop]; omega) (by omega) (by omega) (((hO3.mod' (Mod.drew w3)).bytes).sub (by omega))).mono ?_
    rintro _ w4 ⟨rfl, M4⟩
    obtain ⟨w5, h5, hB5, M5⟩ := store_lanes (s' := absorbB (eatK (stOf m) all k) ((all.drop (136 * k)).take 136)) (hB3.drew.mod' M4)
    refine ⟨_, rfl, w5, h5, ⟨k + 1, by omega, by omega, ((M3.step_drew).none_trans M4).trans M5 (fun i _ hi => .inl hi), hB5, ((hO3.mod' (Mod.drew w3)).mod' M4).mod M5 (fun i hi (hib : i = b) => hnb (hib ▸ hi))⟩, by dsimp only; omega⟩
  · rintro _ rfl
    have hcap := hO3.cap
    have hkq : k = all.length / 136 := by omega
    rw [Int.toNat_natCast]
    obtain ⟨w4, h4, hO4, M4⟩ := copy_down (P := Try.prog) (t := tSlU8) (tx := tSlU8) (ty := 3) (lo := 136 * k) und_slU8 info_u8_size (hO3.mod' (Mod.drew w3)) hk
    have hB4 := hB3.drew.mod M4 hnb
    refine ⟨_, _, _, rest_of_sponge hB3.drew, _, _, _, rest_of_sponge hB3.drew, _, _, _, rest_of_sponge hB3.drew, by omega, _, w4, h4, _, rfl, rest_of_sponge hB4, by omega, hB4.canSet (by rw [spongeA, size_arrOf]; decide) rfl, ?_⟩
    rintro _ rfl
    rw [Int.toNat_natCast]
    have hB5 := set_rest (o' := o') (l' := all.length - 136 * k) (c' := c') hB4
    have M5 := Mod.setCell w4 ⟨b, 74, none⟩ (.slice o' (all.length - 136 * k) c')
    refine ⟨trivial, o', ⟨all.length - 136 * k, c', ?_, ?_, hnb⟩, ?_, hF1⟩
    · rw [stOf_append, hall, ← hkq]; exact hB5
    · rw [restOf_append, hall, ← hkq]; exact hO4.mod M5 (fun i hi (hib : i = b) => hnb (hib ▸ hi))
    · exact (((M3.step_drew).trans M4 (fun i hi h => (hF1 i h).elim (fun h => .inr h) (fun h => by omega)))).step_set (fun _ => .inl rfl)

end Go.Proofs.Ytfghidehlnfdiaa
end
section
namespace Go.Proofs.Ytfghidehlnfdiaa
open Go Go.Vcg

theorem Little_calls {w : World} {o : Option Addr} {l c : Nat} {bs : List UInt8} {n1 n2 : Int} (x : BitVec 64) (k : Nat) (h1 : n1 = uI x) (h2 : n2 = (k : Int)) (hk : k ≤ 8) (hO : Own w tU8 1 o l c (bs.map bV)) (hl : l ≤ 2 ^ 40) :
    Calls Try.prog plain_Little.n #[.slice o l c, .int .u64 n1, .int .i64 n2] w (fun e w' => ∃ o' c', e = .returned (.slice o' (l + k) c') ∧ Own w' tU8 1 o' (l + k) c' ((bs ++ leL x k).map bV) ∧ Vcg.Mod (OB o) w w' ∧ ∀ i, OB o' i → OB o i ∨ w.heap.size ≤ i) := by
  subst h1 h2
  refine plain_Little.vc _ _ _ _ _ _ _ ?_
  unfold plain_Little.Vc
  refine ⟨fun o' l' c' n w' => ∃ i : Nat, n = i ∧ i ≤ k ∧ l' = l + i ∧ Own w' tU8 1 o' l' c' ((bs ++ leL x i).map bV) ∧ Vcg.Mod (OB o) w w' ∧ ∀ i, OB o' i → OB o i ∨ w.heap.size ≤ i,
    fun _ _ _ n _ => ((k : Int) - n).toNat, ⟨0, rfl, by omega, rfl, by simpa [leL] using hO, Mod.refl w, fun i h => .inl h⟩, ?_⟩
  rintro o' _ c' _ _ w1 ⟨i, rfl, hi, rfl, hO1, M1, hF⟩
  refine ⟨fun hlt => ?_, fun hge => ?_⟩
  · have e1 : IntKind.wrap .i64 (8 * (i : Int)) = ((8 * i : Nat) : Int) := by rw [wrap_i64_small (by omega) (by omega)]; omega
    rw [e1, shrI_u _ _ _ rfl, wrap_u8_word]
    refine ⟨by omega, ?_⟩
    rintro d7 w8 ⟨rfl, rfl⟩
    have hB := Blk.new w1 tU8 #[bV (leByte x i)]
    have hO2 := hO1.mod' (Mod.alloc w1 (.cells #[bV (leByte x i)] tU8))
    have hsrc := src_one (P := Try.prog) (tx := tSlU8) und_slU8 hB (sz := 1) rfl (by intro v hv; simp at hv; subst hv; rfl)
    obtain ⟨o2, c2, w2, h2, hO3, M2, hF2⟩ := append_u8 (ty := tSlU8) hO2 hsrc (by omega)
    refine ⟨_, w2, h2, _, _, _, rfl, ⟨i + 1, by rw [wrap_i64_small (by omega) (by omega)]; omega, by omega, rfl, ?_, ?_, ?_⟩, by dsimp only; rw [wrap_i64_small (by omega) (by omega)]; omega⟩
    · rw [leL_succ, ← List.append_assoc, List.map_append]
      exact hO3
    · exact (M1.step_alloc _).trans M2 (fun j hj h => (hF j h).elim id (fun h => by omega))
    · intro j hj
      rcases hF2 j hj with h | h
      · exact hF j h
      · right; rw [size_alloc] at h; have := M1.size; omega
  · obtain rfl : i = k := by omega
    exact ⟨o', c', rfl, hO1, M1, hF⟩

theorem or_u8 (a : UInt8) : bitsI .or .u8 (a.toNat : Int) 128 = ((a ||| 128 : UInt8).toNat : Int) := bitsI_or_u8 a 128
theorem hashA_one (h : List UInt8) : ∀ v ∈ (hashA h).toList, v.oneCell' = true := arrOf_one (fun _ => rfl)
theorem size_hashA (h : List UInt8) : (hashA h).size = 32 := size_arrOf _ _

theorem out_tail {w w1 : World} {s : St} {Q N : Nat} {R : Ending → World → Prop} (M : Vcg.Mod NoB w w1) (hN : w.heap.size = N)
    (B0 : Blk w1 N tHash (Array.replicate 32 (.int .u8 0))) (BQ : Blk w1 Q tState (lanesA s)) (hQ : N < Q)
    (hR : ∀ w', Vcg.Mod NoB w w' → R (.returned (.agg (arrOf 32 (fun i => bV (outAt s i))))) w') :
    ∀ (d23 : Addr) (w24 : World), IsNew w1 tHash (Array.replicate 32 (.int .u8 0)) d23 w24 →
     ∃ (I25 : Int → World → Prop) (μ25 : Int → World → Nat), I25 0 w24 ∧
     (∀ (n26 : Int) (j27 : Nat → Value) (w27 : World), I25 n26 w27 →
       (((n26 < 4 →
         ∀ w28 : World, IsDrew w27 w28 →
         (0 ≤ (IntKind.wrap .i64 (8 * n26)) ∧ (IntKind.wrap .i64 (8 * n26)) ≤ ((32 : Nat) : Int)) ∧
         (0 ≤ n26 ∧ n26 < ((25 : Nat) : Int)) ∧
         ∃ n29 : Int, World.cell? w28 (Addr.add ⟨Q, 0, none⟩ (Int.toNat n26)) = some (.int .u64 n29) ∧
         Calls Try.prog plain_Little.n #[(.slice none 0 0), (.int .u64 n29), (.int .i64 8)] w28 (fun e30 w31 =>
           ∃ o32 : Option Addr, ∃ l33 : Nat, ∃ l34 : Nat, e30 = .returned (.slice o32 l33 l34) ∧
           ∃ (v35 : Value) (w36 : World), Sem.run Try.prog (builtinV .copy #[tSlU8, tSlU8] 3 #[(.slice (some (subD d23 32 (Int.toNat (IntKind.wrap .i64 (8 * n26))) 1)) (32 - (Int.toNat (IntKind.wrap .i64 (8 * n26)))) (32 - (Int.toNat (IntKind.wrap .i64 (8 * n26))))), (.slice o32 l33 l34)]) w31 = .ok v35 w36 ∧
           ∃ n37 : Int, v35 = (.int .i64 n37) ∧
           I25 (IntKind.wrap .i64 (n26 + 1)) w36 ∧ μ25 (IntKind.wrap .i64 (n26 + 1)) w36 < μ25 n26 w27))) ∧
        ((¬ n26 < 4 →
         ∃ L38 : Array Value, RowAt w27 d23 32 L38 ∧
         ∃ w39 : World, Sem.run Try.prog (Instr.storeAt tHash (.pointer (some ⟨N, 0, none⟩)) (.agg L38)) w27 = .ok () w39 ∧
         ∃ L40 : Array Value, RowAt w39 ⟨N, 0, none⟩ 32 L40 ∧
         R (.returned (.agg L40)) w39)))) := by
  rintro d23 w24 ⟨rfl, rfl⟩
  have hQl := BQ.lt
  have BT := Blk.new w1 tHash (Array.replicate 32 (.int .u8 0))
  replace B0 := B0.alloc (.cells (Array.replicate 32 (.int .u8 0)) tHash)
  replace BQ := BQ.alloc (.cells (Array.replicate 32 (.int .u8 0)) tHash)
  replace M := M.step_alloc (.cells (Array.replicate 32 (.int .u8 0)) tHash)
  generalize w1.alloc (.cells (Array.replicate 32 (.int .u8 0)) tHash) = w2 at *
  generalize w1.heap.size = T at *
  refine loopN 4 (fun i w' => Vcg.Mod NoB w w' ∧ Blk w' N tHash (Array.replicate 32 (.int .u8 0)) ∧ Blk w' Q tState (lanesA s) ∧ Blk w' T tHash (arrOf 32 (fun j => bV (if j < 8 * i then outAt s j else 0)))) rfl
    ⟨M, B0, BQ, by rw [replicate_arrOf] at BT; simp only [Nat.mul_zero, Nat.not_lt_zero, if_false]; exact BT⟩ ?_ ?_
  · clear M B0 BQ BT
    rintro i _ w3 hi ⟨M, B0, BQ, BT⟩
    rintro _ rfl
    have e1 : IntKind.wrap .i64 (8 * (i : Int)) = ((8 * i : Nat) : Int) := by rw [wrap_i64_small (by omega) (by omega)]; omega
    rw [e1]
    refine ⟨by omega, by omega, _, BQ.drew.rd0 (get_lanesA _ (by omega)), (Little_calls (bs := []) (s i) 8 rfl rfl (by omega) (Own.nil _ _ _) (by omega)).mono ?_⟩
    rintro _ w4 ⟨o4, c4, rfl, hO4, M4, hF4⟩
    have M4' : Vcg.Mod NoB w3.drew w4 := M4.mono (fun k _ h => OB_none k h)
    have BT4 := BT.drew.mod' M4'
    obtain ⟨w5, h5, BT5, M5⟩ := copy_blk (P := Try.prog) (tx := tSlU8) (ty := 3) (o := 8 * i) (dLen := 32 - 8 * i) (dCap := 32 - 8 * i) (c := c4) (n := 8) und_slU8 info_u8_size BT4 hO4.bytes
      (by rw [List.nil_append, length_leL]; exact (Nat.min_eq_left (by omega)).symm) (by rw [size_arrOf]; omega)
    rw [List.nil_append, length_leL] at h5
    rw [Int.toNat_natCast (8 * i), subD, if_neg (by omega), add_at, Nat.mul_one, Nat.zero_add (8 * i)]
    refine ⟨_, _, _, rfl, _, w5, h5, _, rfl, UpTo.next (by rw [wrap_i64_small (by omega) (by omega)]; omega) hi ⟨((M.step_drew).none_trans M4').trans M5 (fun j hj h => by simp only [hN] at hj; omega), (B0.drew.mod' M4').mod M5 (by omega), (BQ.drew.mod' M4').mod M5 (by omega), ?_⟩⟩
    rw [List.nil_append, List.take_of_length_le (by rw [length_leL]; omega), setsAt_arrOf 32 (8 * i) _ (fun j => bV (leByte (s i) j)) 8 _ (by rw [List.length_map, length_leL]) (fun j hj => by
      rw [map_bV_get (by rw [length_leL]; exact hj)]
      simp [leL, List.getD_eq_getElem?_getD, hj]) (by omega)] at BT5
    refine (show _ = arrOf 32 (fun j => bV (if j < 8 * (i + 1) then outAt s j else 0)) from arrOf_congr (fun j hj => ?_)) ▸ BT5
    by_cases h1 : 8 * i ≤ j ∧ j < 8 * i + 8
    · rw [if_pos h1, if_pos (by omega), outAt, leByte, show j / 8 = i by omega, show j % 8 = j - 8 * i by omega]
    · rw [if_neg h1]
      by_cases h2 : j < 8 * i
      · rw [if_pos h2, if_pos (by omega)]
      · rw [if_neg h2, if_neg (by omega)]
  · clear M B0 BQ BT
    rintro _ w3 ⟨M, B0, BQ, BT⟩
    have e : arrOf 32 (fun j => bV (if j < 8 * 4 then outAt s j else 0)) = arrOf 32 (fun i => bV (outAt s i)) := arrOf_congr (fun i hi => by rw [if_pos (by omega)])
    rw [e] at BT
    exact ⟨_, BT.rowAll (size_arrOf _ _), _, B0.storeAll (L := arrOf 32 (fun i => bV (outAt s i))) (by rw [size_arrOf]; kernel_rfl) (by rw [size_arrOf, Array.size_replicate]) (arrOf_one (fun _ => rfl)), _, (B0.row_same _).rowAll (size_arrOf _ _), hR _ (M.step_row (fun h => by omega))⟩

set_option maxRecDepth 20000 in
theorem SpSum_calls {w : World} {b : Nat} {o : Option Addr} {m : List UInt8} (hS : SpongeAt w b o m) :
    Calls Try.prog keccak_Sponge_Sum.n #[.pointer (some ⟨b, 0, none⟩)] w (fun e w' => e = .returned (.agg (hashA (sumOf m))) ∧ Vcg.Mod NoB w w') := by
  obtain ⟨l, c, hB, hO, hn⟩ := hS
  refine keccak_Sponge_Sum.vc _ _ _ ?_
  unfold keccak_Sponge_Sum.Vc
  simp only [add_at, Nat.zero_add]
  rintro d1 w2 ⟨rfl, rfl⟩ d3 w4 ⟨rfl, rfl⟩ _ rfl
  have hbl := hB.lt
  have B1 := ((Blk.new w tHash (Array.replicate 32 (.int .u8 0))).alloc (.cells (Array.replicate 136 (.int .u8 0)) tLast)).drew
  have B3 := (Blk.new (w.alloc (.cells (Array.replicate 32 (.int .u8 0)) tHash)) tLast (Array.replicate 136 (.int .u8 0))).drew
  have M := ((Mod.alloc (S := NoB) w (.cells (Array.replicate 32 (.int .u8 0)) tHash)).step_alloc (.cells (Array.replicate 136 (.int .u8 0)) tLast)).step_drew
  have hB1 := hB.mod' M
  have hO1 := hO.mod' M
  simp only [size_alloc] at B3 ⊢
  generalize ((w.alloc (.cells (Array.replicate 32 (.int .u8 0)) tHash)).alloc (.cells (Array.replicate 136 (.int .u8 0)) tLast)).drew = w5 at *
  generalize hNe : w.heap.size = N at *
  have hrl : (restOf m).length = l := by have := hO.len; simpa using this
  have hlt := restOf_lt m
  obtain ⟨w6, h6, B6, M6⟩ := copy_blk (P := Try.prog) (tx := tSlU8) (ty := 3) (o := 0) (dLen := 136) (dCap := 136) (c := c) (n := (restOf m).length) und_slU8 info_u8_size B3 hO1.bytes
    (Nat.min_eq_left (by omega)).symm (by rw [Array.size_replicate]; omega)
  rw [List.take_of_length_le (Nat.le_refl _), replicate_arrOf, setsAt_arrOf 136 0 _ (fun j => bV ((restOf m).getD j 0)) (restOf m).length _ (by rw [List.length_map]) (fun j hj => map_bV_get hj) (by omega)] at B6
  rw [hrl] at h6 B6
  refine ⟨_, _, _, rest_of_sponge hB1, _, w6, h6, _, rfl, by omega, B6.canSet0 (by rw [size_arrOf]; omega) rfl, fun w7 h7 => ?_⟩
  have h7' := h7.at
  subst h7'
  clear h7
  simp only [add_at, Nat.zero_add]
  have B7 := B6.set l (bV 1)
  rw [set_arrOf] at B7
  have M7 := M6.trans (Mod.setCell w6 ⟨N + 1, l, none⟩ (.int .u8 1)) (fun i _ h => h)
  have e7 : (arrOf 136 fun j => if j = l then bV 1 else if 0 ≤ j ∧ j < 0 + l then bV ((restOf m).getD (j - 0) 0) else .int .u8 0) = arrOf 136 (fun j => bV (if j < l then (restOf m).getD j 0 else if j = l then 1 else 0)) :=
    arrOf_congr (fun j hj => by
      by_cases h1 : j = l
      · rw [if_pos h1, if_neg (by omega), if_pos h1]
      · rw [if_neg h1]
        by_cases h2 : j < l
        · rw [if_pos (by omega), if_pos h2, Nat.sub_zero]
        · rw [if_neg (by omega), if_neg h2, if_neg h1]; rfl)
  rw [e7] at B7
  refine ⟨_, B7.rd1 (get_arrOf_lt (by omega)), B7.canSet (by rw [size_arrOf]; omega) rfl, ?_⟩
  rintro _ rfl
  rw [or_u8]
  have B8 := B7.set 135 (bV ((if 135 < l then (restOf m).getD 135 0 else if 135 = l then 1 else 0) ||| 128))
  rw [set_arrOf] at B8
  have e8 : (arrOf 136 fun j => if j = 135 then bV ((if 135 < l then (restOf m).getD 135 0 else if 135 = l then 1 else 0) ||| 128) else bV (if j < l then (restOf m).getD j 0 else if j = l then 1 else 0)) = arrOf 136 (fun j => bV (padAt (restOf m) j)) :=
    arrOf_congr (fun j hj => by
      unfold padAt
      rw [hrl]
      by_cases h1 : j = 135
      · subst h1; rw [if_pos rfl, if_pos rfl]
      · rw [if_neg h1, if_neg h1]; congr 2; simp)
  rw [e8] at B8
  change Blk ((w6.setCell ⟨N + 1, l, none⟩ (.int .u8 1)).setCell ⟨N + 1, 135, none⟩ (bV ((if 135 < l then (restOf m).getD 135 0 else if 135 = l then 1 else 0) ||| 128))) _ _ _ at B8
  have M8 := M7.trans (Mod.setCell _ ⟨N + 1, 135, none⟩ (bV ((if 135 < l then (restOf m).getD 135 0 else if 135 = l then 1 else 0) ||| 128))) (fun i _ h => h)
  have hq : N < w5.heap.size := B1.lt
  have hq3 : N + 1 < w5.heap.size := B3.lt
  have B18 := B1.mod M8 (by omega)
  have hB8 := hB1.mod M8 (by omega)
  have Mw8 := M.trans M8 (fun i hi h => by simp only [hNe] at hi; omega)
  have hs8 := M8.size
  generalize ((w6.setCell ⟨N + 1, l, none⟩ (.int .u8 1)).setCell ⟨N + 1, 135, none⟩ (bV ((if 135 < l then (restOf m).getD 135 0 else if 135 = l then 1 else 0) ||| 128))) = w8 at *
  have hlast : ∀ w', Blk w' (N + 1) tLast (arrOf 136 (fun j => bV (padAt (restOf m) j))) → RdB w' (some ⟨N + 1, 0, none⟩) (padB (restOf m)) := fun w' h =>
    RdB.of_blk h (fun i hi => by rw [length_padB] at hi; rw [Nat.zero_add, get_arrOf_lt hi, getD_padB _ hi])
  have hfin : ∀ w', Vcg.Mod NoB w w' → (fun e w' => e = Ending.returned (.agg (hashA (sumOf m))) ∧ Vcg.Mod NoB w w') (.returned (.agg (arrOf 32 (fun i => bV (outAt (lastS m) i))))) w' := fun w' h => by
    refine ⟨?_, h⟩
    have : hashA (sumOf m) = arrOf 32 (fun i => bV (outAt (lastS m) i)) := arrOf_congr (fun i hi => by rw [getD_sumOf m hi])
    rw [this]
  rintro _ rfl
  refine ⟨_, lanes_of_sponge hB8.drew, ?_, ?_⟩
  · refine (absorb_calls (stOf m) b 0 (plan_of_sponge hB8.drew) (padB (restOf m)) (length_padB _) rfl (Nat.le_refl _) (hlast _ B8.drew)).mono ?_
    rintro _ w9 ⟨rfl, M9⟩
    refine ⟨_, rfl, ?_⟩
    rintro d20 w21 ⟨rfl, rfl⟩
    have BQ := Blk.new w9 tState (Array.replicate 25 (.int .u64 0))
    have hs9 := M9.size
    have hs9' := (B18.drew.mod' M9).lt
    refine ⟨_, BQ.storeAll (L := lanesA (lastS m)) (by rw [size_lanesA]; kernel_rfl) (by rw [size_lanesA, Array.size_replicate]) (lanesA_one _), ?_⟩
    exact out_tail (s := lastS m) (R := fun e w' => e = Ending.returned (.agg (hashA (sumOf m))) ∧ Vcg.Mod NoB w w') (((Mw8.step_drew).none_trans M9).step_alloc _ |>.step_row (fun h => by omega)) hNe (((B18.drew.mod' M9).alloc _).row_ne (by omega)) (BQ.row_same _) (by omega) hfin
  · rintro d41 w42 ⟨rfl, rfl⟩
    have BQ := Blk.new w8.drew tState (Array.replicate 25 (.int .u64 0))
    have hB9 := hB8.drew.alloc (.cells (Array.replicate 25 (.int .u64 0)) tState)
    refine ⟨lanes_of_sponge hB9, (absorb_calls (stOf m) b 0 (plan_of_sponge hB9) (padB (restOf m)) (length_padB _) rfl (Nat.le_refl _) (hlast _ (B8.drew.alloc _))).mono ?_⟩
    rintro _ w9 ⟨rfl, M9⟩
    have hs9' := (B18.drew).lt
    refine ⟨_, rfl, _, (BQ.mod' M9).storeAll (L := lanesA (lastS m)) (by rw [size_lanesA]; kernel_rfl) (by rw [size_lanesA, Array.size_replicate]) (lanesA_one _), ?_⟩
    have hsz : w8.drew.heap.size = w8.heap.size := rfl
    exact out_tail (s := lastS m) (R := fun e w' => e = Ending.returned (.agg (hashA (sumOf m))) ∧ Vcg.Mod NoB w w') ((((Mw8.step_drew).step_alloc _).none_trans M9).step_row (fun h => by omega)) hNe (((B18.drew.alloc _).mod' M9).row_ne (by omega)) ((BQ.mod' M9).row_same _) (by omega) hfin

end Go.Proofs.Ytfghidehlnfdiaa
end
section
namespace Go.Proofs.Ytfghidehlnfdiaa
open Go Go.Vcg

theorem Sum_calls {w : World} {o0 : Option Addr} {l0 c0 : Nat} (ls : List (List UInt8)) (hl : l0 = ls.length) (hl0 : l0 ≤ 2 ^ 40) (hr : RdBB w o0 ls) (hmax : ∀ b ∈ ls, b.length ≤ 2 ^ 40) :
    Calls Try.prog keccak_Sum.n #[.slice o0 l0 c0] w (fun e w' => e = .returned (.agg (hashA (sumOf ls.flatten))) ∧ Vcg.Mod NoB w w') := by
  subst hl
  refine keccak_Sum.vc _ _ _ _ _ ?_
  unfold keccak_Sum.Vc
  rintro d1 w2 ⟨rfl, rfl⟩
  have B1 := Blk.new w tHash (Array.replicate 32 (.int .u8 0))
  have M := Mod.alloc (S := NoB) w (.cells (Array.replicate 32 (.int .u8 0)) tHash)
  refine (New_calls _).mono ?_
  rintro _ w3 ⟨b, rfl, hS, M3, hb⟩
  rw [size_alloc] at hb
  have B1' := B1.mod' M3
  have M' := M.none_trans M3
  refine ⟨_, rfl, ?_⟩
  refine loopN ls.length (fun i w' => Vcg.Mod NoB w w' ∧ Blk w' w.heap.size tHash (Array.replicate 32 (.int .u8 0)) ∧ ∃ o, SpongeAt w' b o (ls.take i).flatten ∧ ∀ k, SpB b o k → w.heap.size < k) rfl
    ⟨M', B1', none, hS, fun k hk => hk.elim (fun h => by omega) (fun h => (OB_none k h).elim)⟩ ?_ ?_
  · rintro i _ w4 hi ⟨M4, B4, o, hS4, hF⟩
    obtain ⟨bb, f, oi, ci, rfl, hbl, hc, hri⟩ := (hr.mod' M4) i hi
    refine ⟨_, rfl, by omega, _, _, _, by rw [add_at, Int.toNat_natCast]; exact hc, ?_⟩
    refine (Write_calls hS4 hri rfl (hmax _ (by simp [List.getD_eq_getElem?_getD, hi]))).mono ?_
    rintro _ w5 ⟨rfl, o', hS5, M5, hF5⟩
    refine ⟨rfl, UpTo.next (by rw [wrap_i64_small (by omega) (by omega)]; omega) hi ⟨M4.trans M5 (fun k hk h => by have := hF k h; omega), B4.mod M5 (fun h => by have := hF _ h; omega), o', ?_, ?_⟩⟩
    · rw [flatten_take_succ _ _ hi]; exact hS5
    · intro k hk
      have hs := M4.size
      rcases hk with rfl | hk
      · exact hF _ (.inl rfl)
      · rcases hF5 k hk with h | h
        · exact hF _ (.inr h)
        · have := B4.lt; omega
  · rintro _ w4 ⟨M4, B4, o, hS4, hF⟩
    rw [List.take_length] at hS4
    refine (SpSum_calls hS4).mono ?_
    rintro _ w5 ⟨rfl, M5⟩
    exact ⟨_, rfl, _, (B4.mod' M5).storeAll (L := hashA (sumOf ls.flatten)) (by rw [size_hashA]; kernel_rfl) (by rw [size_hashA, Array.size_replicate]) (hashA_one _), _, ((B4.mod' M5).row_same _).rowAll (size_hashA _), rfl, (M4.none_trans M5).step_row (fun h => by omega)⟩

end Go.Proofs.Ytfghidehlnfdiaa
end
section
namespace Go.Vcg

theorem leK_high (bs : List UInt8) : ∀ (k i : Nat), 8 * k ≤ i → (leK bs k).getLsbD i = false
  | 0, i, _ => by simp [leK]
  | k + 1, i, h => by
    rw [leK, BitVec.getLsbD_or, leK_high bs k i (by omega), BitVec.getLsbD_shiftLeft, byteW, BitVec.getLsbD_setWidth]
    have : (bs.getD k 0).toBitVec.getLsbD (i - 8 * k) = false := BitVec.getLsbD_of_ge _ _ (by omega)
    rw [this]
    simp
theorem or_xor (bs : List UInt8) (k : Nat) (b : UInt8) : leK bs k ||| (byteW b <<< (8 * k)) = leK bs k ^^^ (byteW b <<< (8 * k)) := by
  apply BitVec.eq_of_getLsbD_eq
  intro i hi
  rw [BitVec.getLsbD_or, BitVec.getLsbD_xor, BitVec.getLsbD_shiftLeft]
  by_cases h : i < 8 * k
  · simp [h]
  · rw [leK_high bs k i (by omega)]; simp

def xorP (s : St) (c : Nat → UInt8) : Nat → St
  | 0 => s
  | i + 1 => fun j => if j = i / 8 then xorP s c i j ^^^ (byteW (c i) <<< (8 * (i % 8))) else xorP s c i j
def lxK (c : Nat → UInt8) : Nat → BitVec 64
  | 0 => 0
  | k + 1 => lxK c k ^^^ (byteW (c k) <<< (8 * k))
theorem xorP_eq (s : St) (c : Nat → UInt8) : ∀ (i j : Nat), xorP s c i j = s j ^^^ lxK (fun m => c (8 * j + m)) (Nat.min (i - 8 * j) 8)
  | 0, j => by simp [xorP, lxK]
  | i + 1, j => by
    rw [xorP]
    by_cases h : j = i / 8
    · simp only [h, if_true]
      rw [← h, xorP_eq s c i j]
      have e1 : Nat.min (i - 8 * j) 8 = i % 8 := by show min _ _ = _; omega
      have e2 : Nat.min (i + 1 - 8 * j) 8 = i % 8 + 1 := by show min _ _ = _; omega
      rw [e1, e2, lxK, show 8 * j + i % 8 = i by omega, BitVec.xor_assoc]
    · simp only [h, if_false]
      rw [xorP_eq s c i j]
      have e : Nat.min (i - 8 * j) 8 = Nat.min (i + 1 - 8 * j) 8 := by show min _ _ = min _ _; omega
      rw [e]
theorem leK_lxK (bs : List UInt8) (c : Nat → UInt8) : ∀ k, (∀ m, m < k → bs.getD m 0 = c m) → leK bs k = lxK c k
  | 0, _ => rfl
  | k + 1, h => by rw [leK, or_xor, lxK, leK_lxK bs c k (fun m hm => h m (by omega)), h k (by omega)]
theorem xorP_xorB (s : St) (c : Nat → UInt8) (j : Nat) (hj : j < 25) : xorP s c 136 j = xorB s ((List.range 136).map c) j := by
  rw [xorP_eq, xorB]
  by_cases h : j < 17
  · rw [if_pos h]
    have e : Nat.min (136 - 8 * j) 8 = 8 := by show min _ _ = _; omega
    have hl : ((((List.range 136).map c).drop (8 * j)).take 8).length = 8 := by rw [List.length_take, List.length_drop, List.length_map, List.length_range]; omega
    rw [e, leWord, hl]
    congr 1
    symm
    refine leK_lxK _ _ 8 (fun m hm => ?_)
    rw [List.getD_eq_getElem?_getD, List.getElem?_take_of_lt hm, List.getElem?_drop, List.getElem?_map, List.getElem?_range (by omega)]
    rfl
  · rw [if_neg h]
    have e : Nat.min (136 - 8 * j) 8 = 0 := by show min _ _ = _; omega
    rw [e, lxK]; simp

def cAt (m : List UInt8) (k i : Nat) : UInt8 := (if 136 * k + i < m.length then m.getD (136 * k + i) 0 else if 136 * k + i = m.length then 1 else 0) ||| (if i = 135 ∧ m.length < 136 * k + 136 then 128 else 0)
def refSt (m : List UInt8) : Nat → St
  | 0 => zeroS
  | k + 1 => absorbB (refSt m k) ((List.range 136).map (cAt m k))
theorem cAt_full (m : List UInt8) (k : Nat) (h : 136 * k + 136 ≤ m.length) : (List.range 136).map (cAt m k) = (m.drop (136 * k)).take 136 := by
  apply List.ext_getElem?
  intro i
  by_cases hi : i < 136
  · rw [List.getElem?_map, List.getElem?_range hi, List.getElem?_take_of_lt hi, List.getElem?_drop]
    simp only [Option.map_some, cAt]
    rw [if_pos (by omega), if_neg (by omega), List.getElem?_eq_getElem (by omega)]
    simp [List.getD_eq_getElem?_getD, show 136 * k + i < m.length by omega]
  · rw [List.getElem?_eq_none (by simp; omega), List.getElem?_eq_none (by simp; omega)]
theorem cAt_last (m : List UInt8) : (List.range 136).map (cAt m (m.length / 136)) = padB (restOf m) := by
  refine List.map_congr_left (fun i hi => ?_)
  have hi' : i < 136 := List.mem_range.1 hi
  have hl := length_restOf m
  simp only [cAt, padAt]
  have e1 : (if i = 135 ∧ m.length < 136 * (m.length / 136) + 136 then (128 : UInt8) else 0) = (if i = 135 then 128 else 0) := by
    by_cases h : i = 135
    · rw [if_pos ⟨h, by omega⟩, if_pos h]
    · rw [if_neg (fun g => h g.1), if_neg h]
  rw [e1]
  congr 1
  by_cases h1 : i < (restOf m).length
  · rw [if_pos (by omega), if_pos h1, restOf]
    simp only [List.getD_eq_getElem?_getD, List.getElem?_drop]
  · rw [if_neg (by omega), if_neg h1]
    by_cases h2 : i = (restOf m).length
    · rw [if_pos (by omega), if_pos h2]
    · rw [if_neg (by omega), if_neg h2]
theorem refSt_eq (m : List UInt8) : ∀ k, k ≤ m.length / 136 → refSt m k = eatK zeroS m k
  | 0, _ => rfl
  | k + 1, h => by rw [refSt, refSt_eq m k (by omega), cAt_full m k (by omega), eatK]
theorem refSt_last (m : List UInt8) : refSt m (m.length / 136 + 1) = lastS m := by
  rw [refSt, refSt_eq m _ (Nat.le_refl _), cAt_last, lastS, stOf]

end Go.Vcg
end
