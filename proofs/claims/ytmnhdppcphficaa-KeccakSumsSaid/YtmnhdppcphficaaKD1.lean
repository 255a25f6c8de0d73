/- Contract: the document's hash. -/
import Derived.Test.YtmnhdppcphficaaKC9
import Derived.Test.YtmnhdppcphficaaXRef
set_option linter.unusedVariables false
set_option linter.unusedSimpArgs false
namespace Go.Proofs.Ytmnhdppcphficaa
open Go Go.Vcg

theorem or1 (w : World) (x y : Operand) : Sem.run Try.prog (semBin .or tU8 x y (.int .u8 1) (.int .u8 128)) w = .ok (.int .u8 129) w := by rfl
theorem or0 (w : World) (x y : Operand) : Sem.run Try.prog (semBin .or tU8 x y (.int .u8 0) (.int .u8 128)) w = .ok (.int .u8 128) w := by rfl
theorem word_byte (b : UInt8) : IntKind.wrap .u64 (b.toNat : Int) = uI (byteW b) := by rw [← uI_byteW, wrap_uI]

theorem refSum_calls {w : World} {o0 : Option Addr} {l0 c0 : Nat} (m : List UInt8) (hl : l0 = m.length) (hmax : m.length ≤ 2 ^ 40) (hr : RdB w o0 m) :
    Calls Try.prog moraineref3_Sum.n #[.slice o0 l0 c0] w (fun e w' => e = .returned (.agg (hashA (sumOf m))) ∧ Vcg.Mod NoB w w') := by
  subst hl
  refine moraineref3_Sum.vc _ _ _ _ _ ?_
  unfold moraineref3_Sum.Vc
  rintro d1 w2 ⟨rfl, rfl⟩ d3 w4 ⟨rfl, rfl⟩
  have B1 := (Blk.new w tHash (Array.replicate 32 (.int .u8 0))).alloc (.cells (Array.replicate 25 (.int .u64 0)) tLanes)
  have B3 := Blk.new (w.alloc (.cells (Array.replicate 32 (.int .u8 0)) tHash)) tLanes (Array.replicate 25 (.int .u64 0))
  have M := (Mod.alloc (S := NoB) w (.cells (Array.replicate 32 (.int .u8 0)) tHash)).step_alloc (.cells (Array.replicate 25 (.int .u64 0)) tLanes)
  simp only [size_alloc] at B3 ⊢
  generalize (w.alloc (.cells (Array.replicate 32 (.int .u8 0)) tHash)).alloc (.cells (Array.replicate 25 (.int .u64 0)) tLanes) = w4 at *
  generalize hNe : w.heap.size = N at *
  refine ⟨fun n w' => ∃ k : Nat, n = ((136 * k : Nat) : Int) ∧ k ≤ m.length / 136 + 1 ∧ Vcg.Mod NoB w w' ∧ Blk w' N tHash (Array.replicate 32 (.int .u8 0)) ∧ Blk w' (N + 1) tLanes (lanesA (refSt m k)),
    fun n _ => ((m.length : Int) + 136 - n).toNat, ⟨0, rfl, by omega, M, B1, by rw [replicate_arrOf] at B3; exact B3⟩, ?_⟩
  clear M B1 B3
  rintro _ _ w1 ⟨k, rfl, hk, M, B1, B3⟩
  refine ⟨fun hle => ?_, fun hgt => ?_⟩
  · have hk' : 136 * k ≤ m.length := by omega
    refine loopN 136 (fun i w' => Vcg.Mod NoB w w' ∧ Blk w' N tHash (Array.replicate 32 (.int .u8 0)) ∧ Blk w' (N + 1) tLanes (lanesA (xorP (refSt m k) (cAt m k) i))) rfl ⟨M, B1, B3⟩ ?_ ?_
    · clear M B1 B3
      rintro i _ w10 hi ⟨M, B1, B3⟩
      have eI : IntKind.wrap .i64 (((136 * k : Nat) : Int) + (i : Int)) = ((136 * k + i : Nat) : Int) := by rw [wrap_i64_small (by omega) (by omega)]; omega
      have eJ : IntKind.wrap .i64 (((136 * k : Nat) : Int) + 136) = ((136 * k + 136 : Nat) : Int) := by rw [wrap_i64_small (by omega) (by omega)]; omega
      have eq : IntKind.wrap .i64 (Int.tdiv (i : Int) 8) = ((i / 8 : Nat) : Int) := by
        rw [Int.tdiv_eq_ediv_of_nonneg (by omega), wrap_i64_small (by omega) (by omega)]; omega
      have es : IntKind.wrap .i64 (8 * Int.tmod (i : Int) 8) = ((8 * (i % 8) : Nat) : Int) := by
        simp (disch := omega) only [tmod_nn, wrap_i64_small]; omega
      rw [eI, eJ, eq, es]
      have tail : ∀ (v : Int), v = uI (byteW (cAt m k i)) → ∀ w13 : World, IsDrew w10 w13 →
          (0 ≤ ((i / 8 : Nat) : Int) ∧ ((i / 8 : Nat) : Int) < ((25 : Nat) : Int)) ∧
          ∃ n14 : Int, World.cell? w13 (Addr.add ⟨N + 1, 0, none⟩ (Int.toNat ((i / 8 : Nat) : Int))) = some (.int .u64 n14) ∧
          0 ≤ ((8 * (i % 8) : Nat) : Int) ∧
          (0 ≤ ((i / 8 : Nat) : Int) ∧ ((i / 8 : Nat) : Int) < ((25 : Nat) : Int)) ∧
          CanSet w13 (Addr.add ⟨N + 1, 0, none⟩ (Int.toNat ((i / 8 : Nat) : Int))) (.int .u64 (bitsI .xor .u64 n14 (shlI .u64 v ((8 * (i % 8) : Nat) : Int)))) ∧
          ∀ w15 : World, IsSet w13 (Addr.add ⟨N + 1, 0, none⟩ (Int.toNat ((i / 8 : Nat) : Int))) (.int .u64 (bitsI .xor .u64 n14 (shlI .u64 v ((8 * (i % 8) : Nat) : Int)))) w15 →
          UpTo 136 (fun i w' => Vcg.Mod NoB w w' ∧ Blk w' N tHash (Array.replicate 32 (.int .u8 0)) ∧ Blk w' (N + 1) tLanes (lanesA (xorP (refSt m k) (cAt m k) i))) (IntKind.wrap .i64 ((i : Int) + 1)) w15 ∧
            Vcg.Left 136 (IntKind.wrap .i64 ((i : Int) + 1)) w15 < Vcg.Left 136 (i : Int) w10 := by
        rintro v rfl _ rfl
        refine ⟨by omega, _, B3.drew.rd0 (get_lanesA _ (by omega)), by omega, by omega, B3.drew.canSet0 (by rw [size_lanesA]; omega) rfl, fun w15 h15 => ?_⟩
        rw [h15.at, shlI_u, bitsI_xor]
        refine UpTo.next (by rw [wrap_i64_small (by omega) (by omega)]; omega) hi ⟨(M.step_drew).step_set (fun h => by simp only [hNe] at h; omega), B1.drew.set_ne (by simp), ?_⟩
        have := B3.drew.set (i / 8) (uV (xorP (refSt m k) (cAt m k) i (i / 8) ^^^ (byteW (cAt m k i) <<< (8 * (i % 8)))))
        rw [lanesA, set_arrOf] at this
        refine (show _ = lanesA (xorP (refSt m k) (cAt m k) (i + 1)) from arrOf_congr (fun j hj => ?_)) ▸ this
        rw [xorP]
        by_cases h : j = i / 8
        · simp only [h, if_true]
        · simp only [h, if_false]
      have c128 : ∀ x : UInt8, IntKind.wrap .u64 (bitsI .or .u8 (x.toNat : Int) 128) = uI (byteW (x ||| 128)) := fun x => by rw [show (128 : Int) = ((128 : UInt8).toNat : Int) from rfl, bitsI_or_u8, word_byte]
      have z : ∀ x : UInt8, x ||| 0 = x := fun x => by simp
      refine ⟨fun hin => ?_, fun hout => ?_⟩
      · obtain ⟨d, rfl, hd⟩ := (hr.mod' M).get (i := 136 * k + i) (by omega)
        refine ⟨d, rfl, by omega, _, hd, fun h135 => ⟨fun hg => ?_, fun hg => ?_⟩, fun h135 => ?_⟩
        · refine tail _ ?_
          rw [c128, cAt, if_pos (by omega), if_pos (by omega)]
        · refine tail _ ?_
          rw [word_byte, cAt, if_pos (by omega), if_neg (by omega), z]
        · refine tail _ ?_
          rw [word_byte, cAt, if_pos (by omega), if_neg (by omega), z]
      · refine ⟨fun he => ⟨fun h135 => ⟨fun hg => ?_, fun hg => ?_⟩, fun h135 => ?_⟩, fun he => ⟨fun h135 => ⟨fun hg => ?_, fun hg => ?_⟩, fun h135 => ?_⟩⟩
        · refine ⟨_, or1 _ _ _, _, rfl, tail _ ?_⟩
          rw [cAt, if_neg (by omega), if_pos (by omega), if_pos (by omega)]; rfl
        · refine tail _ ?_
          rw [cAt, if_neg (by omega), if_pos (by omega), if_neg (by omega)]; rfl
        · refine tail _ ?_
          rw [cAt, if_neg (by omega), if_pos (by omega), if_neg (by omega)]; rfl
        · refine ⟨_, or0 _ _ _, _, rfl, tail _ ?_⟩
          rw [cAt, if_neg (by omega), if_neg (by omega), if_pos (by omega)]; rfl
        · refine tail _ ?_
          rw [cAt, if_neg (by omega), if_neg (by omega), if_neg (by omega)]; rfl
        · refine tail _ ?_
          rw [cAt, if_neg (by omega), if_neg (by omega), if_neg (by omega)]; rfl
    · clear M B1 B3
      rintro _ w10 ⟨M, B1, B3⟩
      rw [lanesA_congr (fun j hj => xorP_xorB _ _ j hj)] at B3
      refine ⟨_, B3.rowAll (size_lanesA _), (refPermute_calls _ _).mono ?_⟩
      rintro _ w11 ⟨rfl, M11⟩
      refine ⟨_, rfl, _, (B3.mod' M11).storeAll (L := lanesA (refSt m (k + 1))) (by rw [size_lanesA]; kernel_rfl) (by rw [size_lanesA, size_lanesA]) (lanesA_one _), ⟨k + 1, by rw [wrap_i64_small (by omega) (by omega)]; omega, by omega, (M.none_trans M11).step_row (fun h => by omega), (B1.mod' M11).row_ne (by omega), (B3.mod' M11).row_same _⟩, ?_⟩
      dsimp only
      rw [wrap_i64_small (by omega) (by omega)]; omega
  · obtain rfl : k = m.length / 136 + 1 := by omega
    rw [refSt_last] at B3
    rintro d49 w50 ⟨rfl, rfl⟩
    have hq : N + 1 < w1.heap.size := B3.lt
    have B4 := Blk.new w1 tHash (Array.replicate 32 (.int .u8 0))
    replace B1 := B1.alloc (.cells (Array.replicate 32 (.int .u8 0)) tHash)
    replace B3 := B3.alloc (.cells (Array.replicate 32 (.int .u8 0)) tHash)
    replace M := M.step_alloc (.cells (Array.replicate 32 (.int .u8 0)) tHash)
    generalize w1.alloc (.cells (Array.replicate 32 (.int .u8 0)) tHash) = w2 at *
    generalize w1.heap.size = T at *
    refine loopN 32 (fun i w' => Vcg.Mod NoB w w' ∧ Blk w' N tHash (Array.replicate 32 (.int .u8 0)) ∧ Blk w' (N + 1) tLanes (lanesA (lastS m)) ∧ Blk w' T tHash (arrOf 32 (fun j => bV (if j < i then outAt (lastS m) j else 0)))) rfl
      ⟨M, B1, B3, by rw [replicate_arrOf] at B4; simp only [Nat.not_lt_zero, if_false]; exact B4⟩ ?_ ?_
    · clear M B1 B3 B4
      rintro i _ w3 hi ⟨M, B1, B3, B4⟩
      have eq : IntKind.wrap .i64 (Int.tdiv (i : Int) 8) = ((i / 8 : Nat) : Int) := by
        rw [Int.tdiv_eq_ediv_of_nonneg (by omega), wrap_i64_small (by omega) (by omega)]; omega
      have es : IntKind.wrap .i64 (8 * Int.tmod (i : Int) 8) = ((8 * (i % 8) : Nat) : Int) := by
        simp (disch := omega) only [tmod_nn, wrap_i64_small]; omega
      rw [eq, es]
      refine ⟨by omega, _, B3.rd0 (get_lanesA _ (by omega)), by omega, by omega, B4.canSet0 (by rw [size_arrOf]; omega) rfl, fun w15 h15 => ?_⟩
      rw [h15.at, shrI_u _ _ _ rfl, wrap_u8_word]
      refine UpTo.next (by rw [wrap_i64_small (by omega) (by omega)]; omega) hi ⟨M.step_set (fun h => by simp only [hNe] at h; omega), B1.set_ne (by simp; omega), B3.set_ne (by simp; omega), ?_⟩
      have := B4.set i (bV (outAt (lastS m) i))
      rw [set_arrOf] at this
      refine (show _ = arrOf 32 (fun j => bV (if j < i + 1 then outAt (lastS m) j else 0)) from arrOf_congr (fun j hj => ?_)) ▸ this
      by_cases h : j = i
      · rw [if_pos h, if_pos (by omega), h]
      · rw [if_neg h]
        by_cases h2 : j < i
        · rw [if_pos h2, if_pos (by omega)]
        · rw [if_neg h2, if_neg (by omega)]
    · clear M B1 B3 B4
      rintro _ w3 ⟨M, B1, B3, B4⟩
      have e : arrOf 32 (fun j => bV (if j < 32 then outAt (lastS m) j else 0)) = hashA (sumOf m) := arrOf_congr (fun j hj => by rw [if_pos hj, getD_sumOf m hj])
      rw [e] at B4
      exact ⟨_, B4.rowAll (size_hashA _), _, B1.storeAll (L := hashA (sumOf m)) (by rw [size_hashA]; kernel_rfl) (by rw [size_hashA, Array.size_replicate]) (hashA_one _), _, (B1.row_same _).rowAll (size_hashA _), rfl, M.step_row (fun h => by omega)⟩

end Go.Proofs.Ytmnhdppcphficaa
