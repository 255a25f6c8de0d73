/- Contract: the document's hash. -/
/- Equality of arrays of numbers. -/
/- Arguments: what a reading tells of the value. -/
/- Coloured heaps: each block has a colour, and a step says which colours it may change. -/
/- Maps: what a map's block holds, read, written, gone through. -/
/- Tries as plain Lean: items, nodes, paths. -/
/- Tries as plain Lean: there is but one canonical trie of a map. -/
/- Tries as plain Lean: what putting does. -/
/- Tries as plain Lean: what taking away does. -/
/- Rows that a call makes anew: copied, appended to, and handed on; rows of cells that are only read. -/
/- Bytes as strings; slices that are made. -/
/- Contracts: bytes that are made anew; nibbles; packed paths. -/
/- Contracts: packed paths; what two paths share. -/
/- Contracts: bytes held against one another; heads of items. -/
import Derived.Test.YtfghidehlnfdiaaXRef
import Derived.Laws.StructEq
import Derived.ProofKit
import Derived.OpenShut
import Derived.ShutString
import Derived.ChangeOld
import Derived.Below
import Derived.Carry
import Derived.Maps.Range
import Derived.DeepKeys4
import Derived.StringKeys
import Derived.Test.YtfghidehlnfdiaaXExec
import Derived.Laws.BytesString
import Derived.Laws.MakeOwn
import Derived.Test.YtfghidehlnfdiaaTV
set_option linter.unusedVariables false
set_option linter.unusedSimpArgs false
section
namespace Go.Proofs.Ytfghidehlnfdiaa
open Go Go.Vcg

theorem or1 (w : World) (x y : Operand) : Sem.run Try.prog (semBin .or tU8 x y (.int .u8 1) (.int .u8 128)) w = .ok (.int .u8 129) w := by rfl
theorem or0 (w : World) (x y : Operand) : Sem.run Try.prog (semBin .or tU8 x y (.int .u8 0) (.int .u8 128)) w = .ok (.int .u8 128) w := by rfl
theorem word_byte (b : UInt8) : IntKind.wrap .u64 (b.toNat : Int) = uI (byteW b) := by rw [← uI_byteW, wrap_uI]

theorem refSum_calls {w : World} {o0 : Option Addr} {l0 c0 : Nat} (m : List UInt8) (hl : l0 = m.length) (hmax : m.length ≤ 2 ^ 40) (hr : RdB w o0 m) :
    Calls Try.prog moraineref3_Sum.n #[.slice o0 l0 c0] w (fun e w' => e = .returned (.agg (hashA (sumOf m))) ∧ Vcg.Mod NoB w w') := by
  subst hl
  refine moraineref3_Sum.vc _ _ _ _ _ ?_
  unfold moraineref3_Sum.Vc
  rintro d1 w2 ⟨rfl, rfl⟩ d3 w4 ⟨rfl, rfl⟩
  have B1 := (Blk.new w tHash (Array.replicate 32 (.int .u8 0))).alloc (.cells (Array.replicate 25 (.int .u64 0)) tLanes)
  have B3 := Blk.new (w.alloc (.cells (Array.replicate 32 (.int .u8 0)) tHash)) tLanes (Array.replicate 25 (.int .u64 0))
  have M := (Mod.alloc (S := NoB) w (.cells (Array.replicate 32 (.int .u8 0)) tHash)).step_alloc (.cells (Array.replicate 25 (.int .u64 0)) tLanes)
  simp only [size_alloc] at B3 ⊢
  generalize (w.alloc (.cells (Array.replicate 32 (.int .u8 0)) tHash)).alloc (.cells (Array.replicate 25 (.int .u64 0)) tLanes) = w4 at *
  generalize hNe : w.heap.size = N at *
  refine ⟨fun n w' => ∃ k : Nat, n = ((136 * k : Nat) : Int) ∧ k ≤ m.length / 136 + 1 ∧ Vcg.Mod NoB w w' ∧ Blk w' N tHash (Array.replicate 32 (.int .u8 0)) ∧ Blk w' (N + 1) tLanes (lanesA (refSt m k)),
    fun n _ => ((m.length : Int) + 136 - n).toNat, ⟨0, rfl, by omega, M, B1, by rw [replicate_arrOf] at B3; exact B3⟩, ?_⟩
  clear M B1 B3
  rintro _ _ w1 ⟨k, rfl, hk, M, B1, B3⟩
  refine ⟨fun hle => ?_, fun hgt => ?_⟩
  · have hk' : 136 * k ≤ m.length := by omega
    refine loopN 136 (fun i w' => Vcg.Mod NoB w w' ∧ Blk w' N tHash (Array.replicate 32 (.int .u8 0)) ∧ Blk w' (N + 1) tLanes (lanesA (xorP (refSt m k) (cAt m k) i))) rfl ⟨M, B1, B3⟩ ?_ ?_
    · clear M B1 B3
      rintro i _ w10 hi ⟨M, B1, B3⟩
      have eI : IntKind.wrap .i64 (((136 * k : Nat) : Int) + (i : Int)) = ((136 * k + i : Nat) : Int) := by rw [wrap_i64_small (by omega) (by omega)]; omega
      have eJ : IntKind.wrap .i64 (((136 * k : Nat) : Int) + 136) = ((136 * k + 136 : Nat) : Int) := by rw [wrap_i64_small (by omega) (by omega)]; omega
      have eq : IntKind.wrap .i64 (Int.tdiv (i : Int) 8) = ((i / 8 : Nat) : Int) := by
        rw [Int.tdiv_eq_ediv_of_nonneg (by omega), wrap_i64_small (by omega) (by omega)]; omega
      have es : IntKind.wrap .i64 (8 * Int.tmod (i : Int) 8) = ((8 * (i % 8) : Nat) : Int) := by
        simp (disch := omega) only [tmod_nn, wrap_i64_small]; omega
      rw [eI, eJ, eq, es]
      have tail : ∀ (v : Int), v = uI (byteW (cAt m k i)) → ∀ w13 : World, IsDrew w10 w13 →
          (0 ≤ ((i / 8 : Nat) : Int) ∧ ((i / 8 : Nat) : Int) < ((25 : Nat) : Int)) ∧
          ∃ n14 : Int, World.cell? w13 (Addr.add ⟨N + 1, 0, none⟩ (Int.toNat ((i / 8 : Nat) : Int))) = some (.int .u64 n14) ∧
          0 ≤ ((8 * (i % 8) : Nat) : Int) ∧
          (0 ≤ ((i / 8 : Nat) : Int) ∧ ((i / 8 : Nat) : Int) < ((25 : Nat) : Int)) ∧
          CanSet w13 (Addr.add ⟨N + 1, 0, none⟩ (Int.toNat ((i / 8 : Nat) : Int))) (.int .u64 (bitsI .xor .u64 n14 (shlI .u64 v ((8 * (i % 8) : Nat) : Int)))) ∧
          ∀ w15 : World, IsSet w13 (Addr.add ⟨N + 1, 0, none⟩ (Int.toNat ((i / 8 : Nat) : Int))) (.int .u64 (bitsI .xor .u64 n14 (shlI .u64 v ((8 * (i % 8) : Nat) : Int)))) w15 →
          UpTo 136 (fun i w' => Vcg.Mod NoB w w' ∧ Blk w' N tHash (Array.replicate 32 (.int .u8 0)) ∧ Blk w' (N + 1) tLanes (lanesA (xorP (refSt m k) (cAt m k) i))) (IntKind.wrap .i64 ((i : Int) + 1)) w15 ∧
            Vcg.Left 136 (IntKind.wrap .i64 ((i : Int) + 1)) w15 < Vcg.Left 136 (i : Int) w10 := by
        rintro v rfl _ rfl
        refine ⟨by omega, _, B3.drew.rd0 (get_lanesA _ (by omega)), by omega, by omega, B3.drew.canSet0 (by rw [size_lanesA]; omega) rfl, fun w15 h15 => ?_⟩
        rw [h15.at, shlI_u, bitsI_xor]
        refine UpTo.next (by rw [wrap_i64_small (by omega) (by omega)]; omega) hi ⟨(M.step_drew).step_set (fun h => by simp only [hNe] at h; omega), B1.drew.set_ne (by simp), ?_⟩
        have := B3.drew.set (i / 8) (uV (xorP (refSt m k) (cAt m k) i (i / 8) ^^^ (byteW (cAt m k i) <<< (8 * (i % 8)))))
        rw [lanesA, set_arrOf] at this
        refine (show _ = lanesA (xorP (refSt m k) (cAt m k) (i + 1)) from arrOf_congr (fun j hj => ?_)) ▸ this
        rw [xorP]
        by_cases h : j = i / 8
        · simp only [h, if_true]
        · simp only [h, if_false]
      have c128 : ∀ x : UInt8, IntKind.wrap .u64 (bitsI .or .u8 (x.toNat : Int) 128) = uI (byteW (x ||| 128)) := fun x => by rw [show (128 : Int) = ((128 : UInt8).toNat : Int) from rfl, bitsI_or_u8, word_byte]
      have z : ∀ x : UInt8, x ||| 0 = x := fun x => by simp
      refine ⟨fun hin => ?_, fun hout => ?_⟩
      · obtain ⟨d, rfl, hd⟩ := (hr.mod' M).get (i := 136 * k + i) (by omega)
        refine ⟨d, rfl, by omega, _, hd, fun h135 => ⟨fun hg => ?_, fun hg => ?_⟩, fun h135 => ?_⟩
        · refine tail _ ?_
          rw [c128, cAt, if_pos (by omega), if_pos (by omega)]
        · refine tail _ ?_
          rw [word_byte, cAt, if_pos (by omega), if_neg (by omega), z]
        · refine tail _ ?_
          rw [word_byte, cAt, if_pos (by omega), if_neg (by omega), z]
      · refine ⟨fun he => ⟨fun h135 => ⟨fun hg => ?_, fun hg => ?_⟩, fun h135 => ?_⟩, fun he => ⟨fun h135 => ⟨fun hg => ?_, fun hg => ?_⟩, fun h135 => ?_⟩⟩
        · refine ⟨_, or1 _ _ _, _, rfl, tail _ ?_⟩
          rw [cAt, if_neg (by omega), if_pos (by omega), if_pos (by omega)]; rfl
        · refine tail _ ?_
          rw [cAt, if_neg (by omega), if_pos (by omega), if_neg (by omega)]; rfl
        · refine tail _ ?_
          rw [cAt, if_neg (by omega), if_pos (by omega), if_neg (by omega)]; rfl
        · refine ⟨_, or0 _ _ _, _, rfl, tail _ ?_⟩
          rw [cAt, if_neg (by omega), if_neg (by omega), if_pos (by omega)]; rfl
        · refine tail _ ?_
          rw [cAt, if_neg (by omega), if_neg (by omega), if_neg (by omega)]; rfl
        · refine tail _ ?_
          rw [cAt, if_neg (by omega), if_neg (by omega), if_neg (by omega)]; rfl
    · clear M B1 B3
      rintro _ w10 ⟨M, B1, B3⟩
      rw [lanesA_congr (fun j hj => xorP_xorB _ _ j hj)] at B3
      refine ⟨_, B3.rowAll (size_lanesA _), (refPermute_calls _ _).mono ?_⟩
      rintro _ w11 ⟨rfl, M11⟩
      refine ⟨_, rfl, _, (B3.mod' M11).storeAll (L := lanesA (refSt m (k + 1))) (by rw [size_lanesA]; kernel_rfl) (by rw [size_lanesA, size_lanesA]) (lanesA_one _), ⟨k + 1, by rw [wrap_i64_small (by omega) (by omega)]; omega, by omega, (M.none_trans M11).step_row (fun h => by omega), (B1.mod' M11).row_ne (by omega), (B3.mod' M11).row_same _⟩, ?_⟩
      dsimp only
      rw [wrap_i64_small (by omega) (by omega)]; omega
  · obtain rfl : k = m.length / 136 + 1 := by omega
    rw [refSt_last] at B3
    rintro d49 w50 ⟨rfl, rfl⟩
    have hq : N + 1 < w1.heap.size := B3.lt
    have B4 := Blk.new w1 tHash (Array.replicate 32 (.int .u8 0))
    replace B1 := B1.alloc (.cells (Array.replicate 32 (.int .u8 0)) tHash)
    replace B3 := B3.alloc (.cells (Array.replicate 32 (.int .u8 0)) tHash)
    replace M := M.step_alloc (.cells (Array.replicate 32 (.int .u8 0)) tHash)
    generalize w1.alloc (.cells (Array.replicate 32 (.int .u8 0)) tHash) = w2 at *
    generalize w1.heap.size = T at *
    refine loopN 32 (fun i w' => Vcg.Mod NoB w w' ∧ Blk w' N tHash (Array.replicate 32 (.int .u8 0)) ∧ Blk w' (N + 1) tLanes (lanesA (lastS m)) ∧ Blk w' T tHash (arrOf 32 (fun j => bV (if j < i then outAt (lastS m) j else 0)))) rfl
      ⟨M, B1, B3, by rw [replicate_arrOf] at B4; simp only [Nat.not_lt_zero, if_false]; exact B4⟩ ?_ ?_
    · clear M B1 B3 B4
      rintro i _ w3 hi ⟨M, B1, B3, B4⟩
      have eq : IntKind.wrap .i64 (Int.tdiv (i : Int) 8) = ((i / 8 : Nat) : Int) := by
        rw [Int.tdiv_eq_ediv_of_nonneg (by omega), wrap_i64_small (by omega) (by omega)]; omega
      have es : IntKind.wrap .i64 (8 * Int.tmod (i : Int) 8) = ((8 * (i % 8) : Nat) : Int) := by
        simp (disch := omega) only [tmod_nn, wrap_i64_small]; omega
      rw [eq, es]
      refine ⟨by omega, _, B3.rd0 (get_lanesA _ (by omega)), by omega, by omega, B4.canSet0 (by rw [size_arrOf]; omega) rfl, fun w15 h15 => ?_⟩
      rw [h15.at, shrI_u _ _ _ rfl, wrap_u8_word]
      refine UpTo.next (by rw [wrap_i64_small (by omega) (by omega)]; omega) hi ⟨M.step_set (fun h => by simp only [hNe] at h; omega), B1.set_ne (by simp; omega), B3.set_ne (by simp; omega), ?_⟩
      have := B4.set i (bV (outAt (lastS m) i))
      rw [set_arrOf] at this
      refine (show _ = arrOf 32 (fun j => bV (if j < i + 1 then outAt (lastS m) j else 0)) from arrOf_congr (fun j hj => ?_)) ▸ this
      by_cases h : j = i
      · rw [if_pos h, if_pos (by omega), h]
      · rw [if_neg h]
        by_cases h2 : j < i
        · rw [if_pos h2, if_pos (by omega)]
        · rw [if_neg h2, if_neg (by omega)]
    · clear M B1 B3 B4
      rintro _ w3 ⟨M, B1, B3, B4⟩
      have e : arrOf 32 (fun j => bV (if j < 32 then outAt (lastS m) j else 0)) = hashA (sumOf m) := arrOf_congr (fun j hj => by rw [if_pos hj, getD_sumOf m hj])
      rw [e] at B4
      exact ⟨_, B4.rowAll (size_hashA _), _, B1.storeAll (L := hashA (sumOf m)) (by rw [size_hashA]; kernel_rfl) (by rw [size_hashA, Array.size_replicate]) (hashA_one _), _, (B1.row_same _).rowAll (size_hashA _), rfl, M.step_row (fun h => by omega)⟩

end Go.Proofs.Ytfghidehlnfdiaa
end
section
namespace Go.Vcg

section
variable {P : Program} {w : World} {t e : TypeId} {n : Nat} {k : IntKind}

theorem run_equalIn_arr (d : Nat) (ht : P.underlying t = some (.array n e)) (he : P.underlying e = some (.int k)) (hsz : (P.info? e).map (·.size) = some 1) (f g : Nat → Int) :
    (Op.equalIn (d + 2) t (.agg (arrOf n (fun i => .int k (f i)))) (.agg (arrOf n (fun i => .int k (g i))))).run P w = .ok (decide (∀ i, i < n → f i = g i)) w := by
  obtain ⟨inf, hi1, hi2⟩ := Option.map_eq_some_iff.1 hsz
  have hs : ∀ w, (sizeOf e).run P w = .ok 1 w := fun w => by simp [sizeOf, typeInfo, hi1, hi2]
  have hall : decide (∀ i, i < n → f i = g i) = ((List.range' 0 n 1).all fun i => f i == g i) := by
    rw [Bool.eq_iff_iff]
    simp only [decide_eq_true_eq, List.all_eq_true, List.mem_range'_1, Nat.zero_le, true_and, Nat.zero_add, beq_iff_eq]
  rw [hall, Op.equalIn]
  simp only [Sem.run_bind, run_underlying ht, Result.andThen_ok, hs, Std.Legacy.Range.forIn_eq_forIn_range', Std.Legacy.Range.size, Nat.sub_zero, Nat.add_sub_cancel, Nat.div_one]
  have hl : ∀ i ∈ List.range' 0 n 1, i < n := fun i hi => by simpa using (List.mem_range'_1.1 hi).2
  generalize List.range' 0 n 1 = l at hl ⊢
  induction l with
  | nil => simp
  | cons i l ih =>
    have hi : i < n := hl i (by simp)
    have px : ∀ h : Nat → Int, (part e (arrOf n (fun i => Value.int k (h i))) (i * 1)).run P w = .ok (.int k (h i)) w := by
      intro h
      simp only [Nat.mul_one]
      simp [part, isAgg, run_underlying he, get_arrOf_lt hi]
    have pe : (Op.equalIn (d + 1) e (.int k (f i)) (.int k (g i))).run P w = .ok (f i == g i) w := run_equalIn_int w d e k k _ _ he
    simp only [List.forIn_cons, Sem.run_bind, px, pe, Result.andThen_ok, List.all_cons]
    cases hb : (f i == g i)
    · simp
    · simp only [Bool.not_true, Bool.false_eq_true, if_false, Sem.run_pure, Result.andThen_ok, Bool.true_and]
      exact ih fun j hj => hl j (by simp [hj])

theorem semEq_arr (ht : P.underlying t = some (.array n e)) (he : P.underlying e = some (.int k)) (hsz : (P.info? e).map (·.size) = some 1) (hg : P.eqGuardType P.depth t = false) (x y : Operand) (f g : Nat → Int) :
    Sem.run P (semBin .eql t x y (.agg (arrOf n (fun i => .int k (f i)))) (.agg (arrOf n (fun i => .int k (g i))))) w = .ok (.bool (decide (∀ i, i < n → f i = g i))) w := by
  have hgd : (eqGuard .eql t x y (.agg (arrOf n (fun i => .int k (f i)))) (.agg (arrOf n (fun i => .int k (g i))))).run P w = .ok () w := by
    have hpg : ∀ w, Sem.run P program w = .ok P w := fun w => rfl
    simp [eqGuard, hpg, hg]
  rw [semBin, Sem.run_bind, hgd, Result.andThen_ok, run_eql_struct, run_equalIn_arr 9998 ht he hsz]
  rfl
theorem semNe_arr (ht : P.underlying t = some (.array n e)) (he : P.underlying e = some (.int k)) (hsz : (P.info? e).map (·.size) = some 1) (hg : P.eqGuardType P.depth t = false) (x y : Operand) (f g : Nat → Int) :
    Sem.run P (semBin .neq t x y (.agg (arrOf n (fun i => .int k (f i)))) (.agg (arrOf n (fun i => .int k (g i))))) w = .ok (.bool (!decide (∀ i, i < n → f i = g i))) w := by
  have hgd : (eqGuard .neq t x y (.agg (arrOf n (fun i => .int k (f i)))) (.agg (arrOf n (fun i => .int k (g i))))).run P w = .ok () w := by
    have hpg : ∀ w, Sem.run P program w = .ok P w := fun w => rfl
    simp [eqGuard, hpg, hg]
  rw [semBin, Sem.run_bind, hgd, Result.andThen_ok, run_neq_struct, run_equalIn_arr 9998 ht he hsz]
  rfl
end

theorem convert_same {P : Program} {w : World} {t e : TypeId} {b l c : Nat} {te : TypeId} {cs : Array Value} (ht : P.underlying t = some (.slice e)) (he : P.underlying e = some (.int .u8)) (h : Blk w b te cs) :
    ∃ w', Sem.run P (convert t t (.slice (some ⟨b, 0, none⟩) l c)) w = .ok (.slice (some ⟨b, 0, none⟩) l c) w' ∧ Mod (· = b) w w' ∧ ∀ a, w'.cell? a = w.cell? a := by
  have hb : w.heap[b]? = some (.cells cs te (0, 0)) := h
  refine ⟨w.freeze ⟨b, cs.size, none⟩ 1, ?_, ?_, ?_⟩
  · have h1 : ∀ w : World, Sem.run P (shape b) w = .ok (w.shape? b) w := fun w => rfl
    have h2 : ∀ (a : Addr) (n : Nat) (w : World), Sem.run P (freeze a n) w = .ok () (w.freeze a n) := fun a n w => rfl
    have h3 : w.shape? b = some (te, cs.size) := by simp [World.shape?, hb]
    simp [convert, run_underlying ht, run_underlying he, markStringish, h1, h2, h3]
  · unfold World.freeze
    rw [if_neg (by decide)]
    exact ⟨rfl, rfl, rfl, by simp, fun k hk hn => by simp only [Array.getElem?_modify]; rw [if_neg (fun e => hn e.symm)]⟩
  · intro a
    unfold World.freeze
    rw [if_neg (by decide)]
    simp only [World.cell?, Array.getElem?_modify]
    by_cases ha : b = a.block
    · rw [if_pos ha, ← ha, hb]; rfl
    · rw [if_neg ha]

end Go.Vcg
end
section
namespace Go.Vcg
open Go

theorem mapM_all {α β : Type} {f : α → Option β} : ∀ {l : List α} {ys : List β}, l.mapM f = some ys → ∀ x ∈ l, ∃ y, f x = some y
  | [], _, _, x, hx => by cases hx
  | a :: l, ys, h, x, hx => by
    rw [List.mapM_cons] at h
    cases ha : f a with
    | none => simp [ha] at h
    | some b =>
      cases hl : l.mapM f with
      | none => simp [ha, hl] at h
      | some bs =>
        rcases List.mem_cons.1 hx with rfl | hx
        · exact ⟨b, ha⟩
        · exact mapM_all hl x hx

section
variable {H : Type} {enc : TypeId × Value → H} {P : Program} {W : World} {sp : Nat → Bool} {held : Bool} {b0 base : Nat} {r : Reach}

end

section
variable {H : Type} {enc : TypeId × Value → H} {P : Program} {W : World} {sp : Nat → Bool} {held : Bool} {base : Nat}

theorem cells1_some {a : Addr} {vs : List Value} (h : W.cells? base a 1 = some vs) : ∃ v, vs = [v] ∧ W.cell? a = some v := by
  unfold World.cells? at h
  split at h
  · simp only [List.range_one, List.mapM_cons, List.mapM_nil] at h
    have e : a.add 0 = a := by simp [Addr.add]
    rw [e] at h
    cases hc : W.cell? a with
    | none => simp [hc] at h
    | some v => simp [hc] at h; exact ⟨v, h.symm, rfl⟩
  · cases h

theorem trod_slice {fuel : Nat} {t e : TypeId} {v : Value} {d : DataW H} {ps : List MemPlace} (ht : P.underlying t = some (.slice e)) (hce : P.cellsOf e = 1)
    (h : DataW.trod enc P W base sp held fuel t [v] = some (d, ps)) :
    ∃ o l c, v = .slice o l c ∧ l ≤ c ∧ c ≤ maxLen ∧ ∀ i, i < l → ∃ b f u d' ps' fuel', o = some ⟨b, f, none⟩ ∧ b < W.heap.size ∧ W.cell? ⟨b, f + i, none⟩ = some u ∧ DataW.trod enc P W base sp held fuel' e [u] = some (d', ps') := by
  cases fuel with
  | zero => simp [DataW.trod] at h
  | succ fuel =>
    cases v with
    | slice o l c =>
      cases o with
      | none =>
        have : l = 0 ∧ c = 0 := by
          rcases l with _ | l <;> rcases c with _ | c <;> simp [DataW.trod, ht] at h ⊢
        obtain ⟨rfl, rfl⟩ := this
        exact ⟨none, 0, 0, rfl, Nat.le_refl _, Nat.zero_le _, fun i hi => (Nat.not_lt_zero _ hi).elim⟩
      | some a =>
        simp only [DataW.trod, ht, hce, Nat.mul_one] at h
        split at h
        · rename_i hc
          refine ⟨some a, l, c, rfl, hc.2.1, hc.2.2, fun i hi => ?_⟩
          obtain ⟨els, hm, _⟩ := Option.bind_eq_some_iff.1 h
          obtain ⟨y, hy⟩ := mapM_all hm i (List.mem_range.2 hi)
          obtain ⟨vs, hv, hd⟩ := Option.bind_eq_some_iff.1 hy
          obtain ⟨u, rfl, hu⟩ := cells1_some hv
          obtain ⟨y0, hy0⟩ := mapM_all hm 0 (List.mem_range.2 (by omega))
          obtain ⟨vs0, hv0, _⟩ := Option.bind_eq_some_iff.1 hy0
          obtain ⟨u0, _, hu0⟩ := cells1_some hv0
          have hspot : a.spot = none := by
            have e : a.add 0 = a := by simp [Addr.add]
            rw [e] at hu0
            unfold World.cell? at hu0
            cases hs : a.spot with
            | none => rfl
            | some x =>
              rw [hs] at hu0
              split at hu0 <;> simp at hu0
          obtain ⟨b, f, spot⟩ := a
          simp only at hspot
          subst hspot
          rw [add_at] at hu
          refine ⟨b, f, u, y.1, y.2, fuel, rfl, ?_, hu, hd⟩
          unfold World.cell? at hu
          split at hu
          · rename_i hb; exact (Array.getElem?_eq_some_iff.1 hb).1
          · cases hu
        · cases h
    | _ => simp [DataW.trod, ht] at h

theorem trod_u8 {fuel : Nat} {e : TypeId} {u : Value} {d : DataW H} {ps : List MemPlace} (he : P.underlying e = some (.int .u8)) (h : DataW.trod enc P W base sp held fuel e [u] = some (d, ps)) : ∃ x : UInt8, u = bV x := by
  cases fuel with
  | zero => simp [DataW.trod] at h
  | succ fuel =>
    simp only [DataW.trod, he] at h
    cases u with
    | int k m =>
      simp only at h
      split at h
      · rename_i hk
        obtain ⟨rfl, hw⟩ := hk
        simp only [Lit.wf, Bool.and_eq_true, decide_eq_true_eq] at hw
        have h1 : IntKind.min .u8 = 0 := by decide
        have h2 : IntKind.max .u8 = 255 := by decide
        refine ⟨UInt8.ofNat m.toNat, ?_⟩
        have : ((UInt8.ofNat m.toNat).toNat : Int) = m := by
          rw [UInt8.toNat_ofNat']; omega
        rw [bV, this]
      · cases h
    | _ => simp at h

theorem trod_bytes {fuel : Nat} {t e : TypeId} {v : Value} {d : DataW H} {ps : List MemPlace} (ht : P.underlying t = some (.slice e)) (he : P.underlying e = some (.int .u8)) (hce : P.cellsOf e = 1)
    (h : DataW.trod enc P W base sp held fuel t [v] = some (d, ps)) : ∃ o c bs, v = .slice o bs.length c ∧ bs.length ≤ c ∧ c ≤ maxLen ∧ RdB W o bs := by
  obtain ⟨o, l, c, rfl, hlc, hcm, hall⟩ := trod_slice ht hce h
  have hx : ∀ i, ∃ x : UInt8, i < l → ∃ b f, o = some ⟨b, f, none⟩ ∧ b < W.heap.size ∧ W.cell? ⟨b, f + i, none⟩ = some (bV x) := fun i => by
    by_cases hi : i < l
    · obtain ⟨b, f, u, d', ps', fuel', ho, hb, hu, hd⟩ := hall i hi
      obtain ⟨x, rfl⟩ := trod_u8 he hd
      exact ⟨x, fun _ => ⟨b, f, ho, hb, hu⟩⟩
    · exact ⟨0, fun h => (hi h).elim⟩
  have hl : ((List.range l).map (fun i => Classical.choose (hx i))).length = l := by simp
  refine ⟨o, c, (List.range l).map (fun i => Classical.choose (hx i)), by rw [hl], by rw [hl]; exact hlc, hcm, fun hne => ?_⟩
  have hl0 : 0 < l := by rw [← hl]; exact List.length_pos_iff.2 hne
  obtain ⟨b, f, ho, hb, _⟩ := Classical.choose_spec (hx 0) hl0
  subst ho
  refine ⟨b, f, rfl, hb, fun i hi => ?_⟩
  rw [hl] at hi
  obtain ⟨b', f', ho, hb', hc⟩ := Classical.choose_spec (hx i) hi
  cases ho
  rw [hc]
  simp [List.getD_eq_getElem?_getD, hi]


end

end Go.Vcg
end
section
namespace Go.Vcg

section
variable {C : Type}

structure Stp (S : C → Prop) (w : World) (la : Nat → C) (w' : World) (la' : Nat → C) : Prop where
  os : w'.os = w.os
  tape : w'.tape = w.tape
  output : w'.output = w.output
  size : w.heap.size ≤ w'.heap.size
  lab : ∀ k, k < w.heap.size → la' k = la k
  block : ∀ k, k < w.heap.size → ¬ S (la k) → w'.heap[k]? = w.heap[k]?

def ext (lab : Nat → C) (n : Nat) (c : C) : Nat → C := fun k => if k < n then lab k else c
theorem ext_old {lab : Nat → C} {n k : Nat} {c : C} (h : k < n) : ext lab n c k = lab k := if_pos h
theorem ext_new {lab : Nat → C} {n k : Nat} {c : C} (h : n ≤ k) : ext lab n c k = c := if_neg (by omega)

variable {S T : C → Prop} {w w' w'' : World} {lab lab' lab'' : Nat → C}
theorem Stp.refl (S : C → Prop) (w : World) (lab : Nat → C) : Stp S w lab w lab := ⟨rfl, rfl, rfl, Nat.le_refl _, fun _ _ => rfl, fun _ _ _ => rfl⟩
theorem Stp.trans (h : Stp S w lab w' lab') (k : Stp S w' lab' w'' lab'') : Stp S w lab w'' lab'' :=
  ⟨k.os.trans h.os, k.tape.trans h.tape, k.output.trans h.output, Nat.le_trans h.size k.size,
    fun i hi => (k.lab i (Nat.lt_of_lt_of_le hi h.size)).trans (h.lab i hi),
    fun i hi hn => (k.block i (Nat.lt_of_lt_of_le hi h.size) (by rw [h.lab i hi]; exact hn)).trans (h.block i hi hn)⟩
theorem Stp.mono (h : Stp S w lab w' lab') (hs : ∀ c, S c → T c) : Stp T w lab w' lab' :=
  ⟨h.os, h.tape, h.output, h.size, h.lab, fun i hi hn => h.block i hi (fun k => hn (hs _ k))⟩
theorem Stp.of_mod {Q : Nat → Prop} (h : Mod Q w w') (c : C) (hq : ∀ k, k < w.heap.size → Q k → S (lab k)) : Stp S w lab w' (ext lab w.heap.size c) :=
  ⟨h.os, h.tape, h.output, h.size, fun _ hi => ext_old hi, fun i hi hn => h.block i hi (fun q => hn (hq i hi q))⟩
theorem Stp.of_nob (h : Mod NoB w w') (c : C) : Stp S w lab w' (ext lab w.heap.size c) := Stp.of_mod h c (fun _ _ h => h.elim)
theorem Stp.drew (S : C → Prop) (w : World) (lab : Nat → C) : Stp S w lab w.drew lab := ⟨rfl, rfl, rfl, Nat.le_refl _, fun _ _ => rfl, fun _ _ _ => rfl⟩
theorem Stp.alloc (S : C → Prop) (w : World) (lab : Nat → C) (o : Obj) (c : C) : Stp S w lab (w.alloc o) (ext lab w.heap.size c) := Stp.of_nob (Mod.alloc w o) c
theorem Stp.setCell {a : Addr} {v : Value} (hs : S (lab a.block)) : Stp S w lab (w.setCell a v) lab :=
  ⟨rfl, rfl, rfl, by simp [World.setCell], fun _ _ => rfl, fun k _ hn => heap_setCell_other w a k v (fun e => hn (e ▸ hs))⟩
theorem Stp.mod {Q : Nat → Prop} (h : Stp S w lab w' lab') (hq : ∀ k, k < w.heap.size → S (lab k) → Q k) : Mod Q w w' :=
  ⟨h.os, h.tape, h.output, h.size, fun k hk hn => h.block k hk (fun s => hn (hq k hk s))⟩

structure CB (w : World) (lab : Nat → C) (c : C) (b : Nat) (t : TypeId) (cs : Array Value) : Prop where
  blk : Blk w b t cs
  clr : lab b = c
variable {c : C} {b : Nat} {t : TypeId} {cs : Array Value}
theorem CB.stp (h : CB w lab c b t cs) (m : Stp S w lab w' lab') (hs : ¬ S c) : CB w' lab' c b t cs :=
  ⟨(m.block b h.blk.lt (by rw [h.clr]; exact hs)).trans h.blk, (m.lab b h.blk.lt).trans h.clr⟩
theorem CB.new (w : World) (lab : Nat → C) (c : C) (t : TypeId) (cs : Array Value) : CB (w.alloc (.cells cs t)) (ext lab w.heap.size c) c w.heap.size t cs := ⟨Blk.new w t cs, ext_new (Nat.le_refl _)⟩
theorem CB.set (h : CB w lab c b t cs) (i : Nat) (v : Value) : CB (w.setCell ⟨b, i, none⟩ v) lab c b t (cs.setIfInBounds i v) := ⟨h.blk.set i v, h.clr⟩

structure CBy (w : World) (lab : Nat → C) (c : C) (o : Option Addr) (bs : List UInt8) : Prop where
  rd : RdB w o bs
  clr : bs ≠ [] → ∀ d, o = some d → lab d.block = c
variable {o : Option Addr} {bs : List UInt8}
theorem CBy.stp (h : CBy w lab c o bs) (m : Stp S w lab w' lab') (hs : ¬ S c) : CBy w' lab' c o bs := by
  refine ⟨fun hne => ?_, fun hne d hd => ?_⟩
  · obtain ⟨b, f, rfl, hb, hc⟩ := h.rd hne
    have hl := h.clr hne _ rfl
    refine ⟨b, f, rfl, Nat.lt_of_lt_of_le hb m.size, fun i hi => ?_⟩
    exact (World.cell?_of_block (m.block b hb (by rw [hl]; exact hs))).trans (hc i hi)
  · obtain ⟨b, f, rfl, hb, _⟩ := h.rd hne
    cases hd
    exact (m.lab b hb).trans (h.clr hne _ rfl)
theorem CBy.nil (w : World) (lab : Nat → C) (c : C) (o : Option Addr) : CBy w lab c o [] := ⟨fun h => (h rfl).elim, fun h => (h rfl).elim⟩
theorem CBy.sub {cap lo n : Nat} (h : CBy w lab c o bs) (hc : bs.length ≤ cap) : CBy w lab c (subO o cap lo 1) ((bs.drop lo).take n) := by
  refine ⟨h.rd.sub hc, fun hne d hd => ?_⟩
  have hb : bs ≠ [] := fun e => hne (by rw [e]; simp)
  obtain ⟨b, f, rfl, _, _⟩ := h.rd hb
  have := h.clr hb _ rfl
  rw [subO] at hd
  split at hd
  · cases hd; exact this
  · simp at hd; subst hd; exact this

structure COw (w : World) (lab : Nat → C) (c : C) (e : TypeId) (sz : Nat) (o : Option Addr) (l cap : Nat) (xs : List Value) : Prop where
  own : Own w e sz o l cap xs
  clr : ∀ k, OB o k → lab k = c
variable {e : TypeId} {sz l cap : Nat} {xs : List Value}
theorem COw.nil (w : World) (lab : Nat → C) (c : C) (e : TypeId) (sz : Nat) : COw w lab c e sz none 0 0 [] := ⟨Own.nil w e sz, fun k h => (OB_none k h).elim⟩
theorem COw.stp (h : COw w lab c e sz o l cap xs) (m : Stp S w lab w' lab') (hs : ¬ S c) : COw w' lab' c e sz o l cap xs := by
  have hl : ∀ k, OB o k → k < w.heap.size := fun k hk => h.own.lt hk
  refine ⟨?_, fun k hk => (m.lab k (hl k hk)).trans (h.clr k hk)⟩
  have hm : Mod (fun k => S (lab k)) w w' := m.mod (fun _ _ s => s)
  exact h.own.mod hm (fun k hk s => hs (by rw [← h.clr k hk]; exact s))
theorem COw.append {P : Program} {t tx ty : TypeId} {i : TypeInfo} {z : Value} {x : Value} {n : Nat} {news : List Value}
    (ht : P.underlying t = some (.slice e)) (hi : P.info? e = some i) (hz : i.zero = some z) (hs : i.size = sz) (hzs : z.cells.size = sz)
    (h : COw w lab c e sz o l cap xs) (src : Src P sz tx x n news w) (h63 : l + n ≤ maxLen) (hb : (l + n) * i.bytes ≤ 140737488355328) :
    ∃ o' c' w', Sem.run P (builtinV .append #[t, tx] ty #[.slice o l cap, x]) w = .ok (.slice o' (l + n) c') w' ∧
      COw w' (ext lab w.heap.size c) c e sz o' (l + n) c' (xs ++ news) ∧ Stp (· = c) w lab w' (ext lab w.heap.size c) := by
  obtain ⟨o', c', w', h1, h2, h3, h4⟩ := append_own (ty := ty) ht hi hz hs hzs h.own src h63 hb
  refine ⟨o', c', w', h1, ⟨h2, fun k hk => ?_⟩, Stp.of_mod h3 c (fun k _ hk => h.clr k hk)⟩
  by_cases hl : k < w.heap.size
  · rw [ext_old hl]
    rcases h4 k hk with h5 | h5
    · exact h.clr k h5
    · omega
  · exact ext_new (by omega)
end
end Go.Vcg
end
section
namespace Go.Vcg
open Go.ChangeMaps (setBlock)
open Go.Maps (Keyed)
open Go.MapKept

section
variable {K : Type} [DecidableEq K] {V : Type}
def assoc (k : K) : List (K × V) → Option V
  | [] => none
  | x :: r => if x.1 = k then some x.2 else assoc k r
def upd (k : K) (v : V) : List (K × V) → List (K × V)
  | [] => [(k, v)]
  | x :: r => if x.1 = k then (k, v) :: r else x :: upd k v r
theorem assoc_none {k : K} : ∀ {es : List (K × V)}, (∀ x ∈ es, x.1 ≠ k) → assoc k es = none
  | [], _ => rfl
  | x :: r, h => by
    rw [assoc, if_neg (h x (List.mem_cons_self ..)), assoc_none (fun y hy => h y (List.mem_cons_of_mem _ hy))]
theorem upd_none {k : K} {v : V} : ∀ {es : List (K × V)}, (∀ x ∈ es, x.1 ≠ k) → upd k v es = es ++ [(k, v)]
  | [], _ => rfl
  | x :: r, h => by
    rw [upd, if_neg (h x (List.mem_cons_self ..)), upd_none (fun y hy => h y (List.mem_cons_of_mem _ hy))]; rfl
theorem assoc_at {k : K} : ∀ {es : List (K × V)} {j : Nat} {x : K × V}, (es.map Prod.fst).Nodup → es[j]? = some x → x.1 = k → assoc k es = some x.2
  | [], _, _, _, h, _ => by simp at h
  | y :: r, 0, x, _, h, hk => by simp at h; subst h; rw [assoc, if_pos hk]
  | y :: r, j + 1, x, hn, h, hk => by
    rw [List.getElem?_cons_succ] at h
    have hne : y.1 ≠ k := by
      rintro rfl
      exact (List.nodup_cons.1 hn).1 (hk ▸ List.mem_map_of_mem (List.mem_of_getElem? h))
    rw [assoc, if_neg hne, assoc_at (List.nodup_cons.1 hn).2 h hk]
theorem upd_at {k : K} {v : V} : ∀ {es : List (K × V)} {j : Nat} {x : K × V}, (es.map Prod.fst).Nodup → es[j]? = some x → x.1 = k → upd k v es = es.set j (k, v)
  | [], _, _, _, h, _ => by simp at h
  | y :: r, 0, x, _, h, hk => by simp at h; subst h; rw [upd, if_pos hk]; rfl
  | y :: r, j + 1, x, hn, h, hk => by
    rw [List.getElem?_cons_succ] at h
    have hne : y.1 ≠ k := by
      rintro rfl
      exact (List.nodup_cons.1 hn).1 (hk ▸ List.mem_map_of_mem (List.mem_of_getElem? h))
    rw [upd, if_neg hne, upd_at (List.nodup_cons.1 hn).2 h hk]; rfl
end

section
variable {K : Type} {P : Program} {kt : TypeId} {enc : K → Value}

structure KeyEnc (P : Program) (kt : TypeId) (enc : K → Value) (good : K → Prop) : Prop where
  keyed : Keyed P kt
  ok : ∀ k, good k → ∃ l, keyOf P kt (enc k) = some l
  inj : ∀ a b, enc a = enc b → a = b

def dec (enc : K → Value) (x : K × Value) : Value × Value := (enc x.1, x.2)
def cellE (e : MapEntry) : Value × Value := (e.key, e.val)

def MapAt (good : K → Prop) (enc : K → Value) (w : World) (m : Nat) (es : List (K × Value)) : Prop :=
  ∃ (A : Array MapEntry) (clock : Nat), w.heap[m]? = some (.map A clock) ∧ Stamped A clock ∧ A.toList.map cellE = es.map (dec enc) ∧ ∀ x ∈ es, good x.1

variable {good : K → Prop} {w w' : World} {m : Nat} {es : List (K × Value)}
theorem MapAt.lt (h : MapAt good enc w m es) : m < w.heap.size := by
  obtain ⟨A, clock, hb, _⟩ := h
  exact (Array.getElem?_eq_some_iff.1 hb).1
theorem MapAt.same (h : MapAt good enc w m es) (hb : w'.heap[m]? = w.heap[m]?) : MapAt good enc w' m es := by
  obtain ⟨A, clock, h1, h2⟩ := h
  exact ⟨A, clock, hb.trans h1, h2⟩
theorem MapAt.nodup (h : MapAt good enc w m es) : (es.map Prod.fst).Nodup := by
  obtain ⟨A, clock, _, hs, he, _⟩ := h
  have h1 : (A.toList.map (·.key)) = (es.map Prod.fst).map enc := by
    have := congrArg (List.map Prod.fst) he
    simpa [cellE, dec, Function.comp_def] using this
  have h2 := hs.2.2
  rw [h1] at h2
  generalize es.map Prod.fst = l at h2
  clear h1
  induction l with
  | nil => exact List.nodup_nil
  | cons a l ih =>
    rw [List.map_cons, List.nodup_cons] at h2
    rw [List.nodup_cons]
    exact ⟨fun h => h2.1 (List.mem_map_of_mem h), ih h2.2⟩

private theorem find_split (E : KeyEnc P kt enc good) (w : World) {A : Array MapEntry} {k : K} (hk : good k) (he : A.toList.map cellE = es.map (dec enc)) (hg : ∀ x ∈ es, good x.1) :
    ((Instr.findKey kt (enc k) A.toList).run P w = .ok none w ∧ (∀ x ∈ es, x.1 ≠ k) ∧ ∀ e ∈ A.toList, e.key ≠ enc k) ∨
    ∃ j e v, (Instr.findKey kt (enc k) A.toList).run P w = .ok (some (j, v)) w ∧ A.toList[j]? = some e ∧ e.key = enc k ∧ e.val = v ∧ es[j]? = some (k, v) := by
  obtain ⟨lk, hl⟩ := E.ok k hk
  have hall : ∀ e ∈ A.toList, ∃ l, keyOf P kt e.key = some l := fun e hm => by
    have : cellE e ∈ es.map (dec enc) := he ▸ List.mem_map_of_mem hm
    obtain ⟨x, hx, hxe⟩ := List.mem_map.1 this
    have h1 : e.key = enc x.1 := (congrArg Prod.fst hxe).symm
    rw [h1]; exact E.ok _ (hg x hx)
  rcases E.keyed.find w hl A.toList hall with ⟨h1, h2⟩ | ⟨j, e, h1, h2, h3⟩
  · refine .inl ⟨h1, fun x hx hxk => ?_, h2⟩
    have : dec enc x ∈ A.toList.map cellE := he ▸ List.mem_map_of_mem hx
    obtain ⟨e, hm, hee⟩ := List.mem_map.1 this
    exact h2 e hm (by rw [show e.key = enc x.1 from congrArg Prod.fst hee, hxk])
  · refine .inr ⟨j, e, e.val, h1, h2, h3, rfl, ?_⟩
    have h4 : (es.map (dec enc))[j]? = some (cellE e) := by rw [← he, List.getElem?_map, h2]; rfl
    rw [List.getElem?_map, Option.map_eq_some_iff] at h4
    obtain ⟨x, hx, hxe⟩ := h4
    have e1 : enc x.1 = enc k := (congrArg Prod.fst hxe).trans h3
    have e2 : x.2 = e.val := congrArg Prod.snd hxe
    rw [hx, ← E.inj _ _ e1, ← e2]

theorem MapAt.check (E : KeyEnc P kt enc good) {k : K} (hk : good k) (em : Bool) (w : World) : (Instr.checkKey em 10000 kt (enc k)).run P w = .ok () w := by
  obtain ⟨lk, hl⟩ := E.ok k hk
  exact E.keyed.check w em hl

theorem MapAt.look [DecidableEq K] (h : MapAt good enc w m es) (E : KeyEnc P kt enc good) {t e : TypeId} (ht : P.underlying t = some (.map kt e)) {z : Value} (hz : (zeroValue e).run P w = .ok z w) {k : K} (hk : good k) (c : Bool) :
    (Instr.lookup t (.map (some m)) (enc k) c).run P w = .ok (if c then .tuple #[(assoc k es).getD z, .bool (assoc k es).isSome] else (assoc k es).getD z) w := by
  have hn := h.nodup
  obtain ⟨A, clock, hb, hs, he, hg⟩ := h
  rcases find_split E w hk he hg with ⟨h1, h2, _⟩ | ⟨j, e0, v, h1, h2, h3, h4, h5⟩
  · rw [assoc_none h2]
    simp [Instr.lookup, run_underlying ht, MapKept.run_getObj_map hb, MapAt.check E hk, h1, hz, Result.andThen]
  · rw [assoc_at hn h5 rfl]
    simp [Instr.lookup, run_underlying ht, MapKept.run_getObj_map hb, MapAt.check E hk, h1, Result.andThen]

theorem MapAt.update [DecidableEq K] (h : MapAt good enc w m es) (E : KeyEnc P kt enc good) {t e : TypeId} (ht : P.underlying t = some (.map kt e)) {k : K} (hk : good k) (v : Value) :
    ∃ w', (Instr.mapUpdate t (.map (some m)) (enc k) v).run P w = .ok () w' ∧ MapAt good enc w' m (upd k v es) ∧ Mod (· = m) w w' := by
  have hn := h.nodup
  obtain ⟨A, clock, hb, hs, he, hg⟩ := h
  have hmod : ∀ o, Mod (· = m) w (setBlock w m o) := fun o => ⟨rfl, rfl, rfl, by simp [setBlock], fun k _ hk => (heap_set hb).2 k hk⟩
  rcases find_split E w hk he hg with ⟨h1, h2, h2'⟩ | ⟨j, e0, v0, h1, h2, h3, h4, h5⟩
  · refine ⟨setBlock w m (.map (A.push ⟨enc k, v, clock⟩) (clock + 1)), ?_, ⟨_, _, (heap_set hb).1, stamped_push hs h2', ?_, ?_⟩, hmod _⟩
    · simp [Instr.mapUpdate, run_underlying ht, MapKept.run_getObj_map hb, MapAt.check E hk, h1, MapKept.run_setObj_map _ hb, Result.andThen, setBlock]
    · rw [upd_none h2, Array.toList_push, List.map_append, List.map_append, he]; rfl
    · rw [upd_none h2]
      intro x hx
      rcases List.mem_append.1 hx with hx | hx
      · exact hg x hx
      · simp at hx; subst hx; exact hk
  · obtain ⟨lk, hl⟩ := E.ok k hk
    have hj : j < A.size := by simpa using (List.getElem?_eq_some_iff.1 h2).1
    have hA : A[j]? = some e0 := by simpa using h2
    refine ⟨setBlock w m (.map (A.modify j fun e => { e with key := enc k, val := v }) clock), ?_, ⟨_, _, (heap_set hb).1, stamped_modify hs j _ (fun _ _ => rfl) (fun e hm hej => ?_), ?_, ?_⟩, hmod _⟩
    · have hst := E.keyed.stays w hl
      simp [Instr.mapUpdate, run_underlying ht, MapKept.run_getObj_map hb, MapAt.check E hk, h1, hA, h3, hst, MapKept.run_setObj_map _ hb, Result.andThen, setBlock]
    · rw [hA] at hej
      cases hej
      exact h3.symm
    · rw [upd_at hn h5 rfl]
      apply List.ext_getElem?
      intro i
      have hi : (A.toList.map cellE)[i]? = (es.map (dec enc))[i]? := by rw [he]
      rw [List.getElem?_map, List.getElem?_map] at hi
      rw [List.getElem?_map, List.getElem?_map, Array.getElem?_toList, Array.getElem?_modify, List.getElem?_set]
      rw [Array.getElem?_toList] at hi
      by_cases hij : j = i
      · subst hij
        rw [if_pos rfl, if_pos rfl, if_pos (by have := (List.getElem?_eq_some_iff.1 h5).1; exact this), hA]
        rfl
      · rw [if_neg hij, if_neg hij, hi]
    · rw [upd_at hn h5 rfl]
      intro x hx
      rcases List.mem_or_eq_of_mem_set hx with hx | rfl
      · exact hg x hx
      · exact hk


variable {i : Nat} {todo : List (K × Value)}
end

section
variable {C : Type} {S : C → Prop} {w w' : World} {lab lab' : Nat → C} {c : C} {K : Type} {good : K → Prop} {enc : K → Value} {m : Nat} {es : List (K × Value)}
structure CM (good : K → Prop) (enc : K → Value) (w : World) (lab : Nat → C) (c : C) (m : Nat) (es : List (K × Value)) : Prop where
  map : MapAt good enc w m es
  clr : lab m = c
theorem CM.stp (h : CM good enc w lab c m es) (s : Stp S w lab w' lab') (hs : ¬ S c) : CM good enc w' lab' c m es :=
  ⟨h.map.same (s.block m h.map.lt (by rw [h.clr]; exact hs)), (s.lab m h.map.lt).trans h.clr⟩
end
end Go.Vcg
end
section
namespace Go.Trie
abbrev By := List UInt8
inductive It where
  | s (b : By)
  | l (xs : List It)
inductive Nd where
  | nil
  | leaf (p v : By)
  | row (p : By) (c : Nd)
  | branch (cs : Fin 16 → Nd) (v : By)

def nibbles (k : By) : By := k.flatMap fun (c : UInt8) => [c >>> 4, c &&& 15]
def pairs : By → By
  | a :: b :: r => (a <<< 4 ||| b) :: pairs r
  | _ => []
def flagOf (leaf : Bool) : UInt8 := if leaf then 2 else 0
def headed (p : By) (leaf : Bool) : By := if p.length % 2 = 1 then (flagOf leaf + 1) :: p else flagOf leaf :: 0 :: p
def packBad (p : By) : Prop := p.length > 128 ∨ ∃ x ∈ p, x ≥ 16
instance (p : By) : Decidable (packBad p) := by unfold packBad; infer_instance
def pack (p : By) (leaf : Bool) : By × Int := if packBad p then ([], 140) else (pairs (headed p leaf), 0)
def shared : By → By → Nat
  | a :: p, b :: q => if a = b then shared p q + 1 else 0
  | _, _ => 0
theorem shared_le : ∀ (p q : By), shared p q ≤ p.length ∧ shared p q ≤ q.length
  | [], q => by simp [shared]
  | a :: p, [] => by simp [shared]
  | a :: p, b :: q => by
    have := shared_le p q
    simp only [shared]
    split <;> simp <;> omega
theorem shared_take : ∀ (p q : By), p.take (shared p q) = q.take (shared p q)
  | [], q => by simp [shared]
  | a :: p, [] => by simp [shared]
  | a :: p, b :: q => by
    simp only [shared]
    split
    · rename_i h
      subst h
      simp [shared_take p q]
    · simp
theorem shared_ne : ∀ (p q : By) (h1 : shared p q < p.length) (h2 : shared p q < q.length), p[shared p q] ≠ q[shared p q]
  | a :: p, b :: q, h1, h2 => by
    by_cases hab : a = b
    · subst hab
      have e : shared (a :: p) (a :: q) = shared p q + 1 := by simp [shared]
      simp only [e, List.getElem_cons_succ]
      exact shared_ne p q (by simp only [e, List.length_cons] at h1; omega) (by simp only [e, List.length_cons] at h2; omega)
    · have e : shared (a :: p) (b :: q) = 0 := by simp [shared, hab]
      simp only [e, List.getElem_cons_zero]
      exact hab
  | [], q, h1, _ => by simp at h1
  | a :: p, [], _, h2 => by simp at h2

def rowed (p : By) (n : Nd) : Nd :=
  if p = [] then n else match n with
    | .leaf q v => .leaf (p ++ q) v
    | .row q c => .row (p ++ q) c
    | n => .row p n
def upd (cs : Fin 16 → Nd) (a : UInt8) (n : Nd) : Fin 16 → Nd := fun i => if i.val = a.toNat then n else cs i
def at_ (cs : Fin 16 → Nd) (a : UInt8) : Nd := if h : a.toNat < 16 then cs ⟨a.toNat, h⟩ else .nil
def lay (cs : Fin 16 → Nd) (v : By) (p x : By) : Nd := match p with
  | [] => .branch cs x
  | a :: r => .branch (upd cs a (.leaf r x)) v
def lay2 (n : Nd) (p x : By) : Nd := match n with
  | .branch cs v => lay cs v p x
  | n => n
def none16 : Fin 16 → Nd := fun _ => .nil
def put (n : Nd) (p x : By) : Nd := match n with
  | .nil => .leaf p x
  | .leaf q v =>
    if shared q p = q.length ∧ shared q p = p.length then .leaf p x
    else rowed (p.take (shared q p)) (lay2 (lay none16 [] (q.drop (shared q p)) v) (p.drop (shared q p)) x)
  | .row q c =>
    if shared q p = q.length then .row q (put c (p.drop (shared q p)) x)
    else rowed (p.take (shared q p)) (lay (upd none16 (q.getD (shared q p) 0) (rowed (q.drop (shared q p + 1)) c)) [] (p.drop (shared q p)) x)
  | .branch cs v => match p with
    | [] => .branch cs x
    | a :: r => .branch (fun i => if i.val = a.toNat then put (cs i) r x else cs i) v
def get (n : Nd) (p : By) : Option By := match n with
  | .nil => none
  | .leaf q v => if q = p then some v else none
  | .row q c => if q.isPrefixOf p then get c (p.drop q.length) else none
  | .branch cs v => match p with
    | [] => if v = [] then none else some v
    | a :: r => if h : a.toNat < 16 then get (cs ⟨a.toNat, h⟩) r else none
end Go.Trie
end
section
namespace Go.Trie
def Nib (p : By) : Prop := ∀ x ∈ p, x.toNat < 16
def IsBranch : Nd → Prop
  | .branch _ _ => True
  | _ => False
def Many (cs : Fin 16 → Nd) (v : By) : Prop := (v ≠ [] ∧ ∃ i, cs i ≠ .nil) ∨ ∃ i j, i ≠ j ∧ cs i ≠ .nil ∧ cs j ≠ .nil
def Canon : Nd → Prop
  | .nil => True
  | .leaf p v => Nib p ∧ v ≠ []
  | .row p c => p ≠ [] ∧ Nib p ∧ IsBranch c ∧ Canon c
  | .branch cs v => (∀ i, Canon (cs i)) ∧ Many cs v

theorem get_row_append (p r : By) (c : Nd) : get (.row p c) (p ++ r) = get c r := by
  simp only [get]
  rw [if_pos (List.isPrefixOf_iff_prefix.2 (List.prefix_append _ _)), List.drop_left]
theorem get_row_some {p k : By} {c : Nd} {v : By} (h : get (.row p c) k = some v) : ∃ r, k = p ++ r ∧ get c r = some v := by
  simp only [get] at h
  split at h
  · rename_i hp
    obtain ⟨r, rfl⟩ := List.isPrefixOf_iff_prefix.1 hp
    rw [List.drop_left] at h
    exact ⟨r, rfl, h⟩
  · cases h
theorem get_branch_nil (cs : Fin 16 → Nd) (v : By) : get (.branch cs v) [] = if v = [] then none else some v := by simp only [get]
theorem get_branch_cons (cs : Fin 16 → Nd) (v : By) (i : Fin 16) (r : By) : get (.branch cs v) (UInt8.ofNat i.val :: r) = get (cs i) r := by
  have hi : (UInt8.ofNat i.val).toNat = i.val := by
    rw [UInt8.toNat_ofNat']; have := i.isLt; omega
  simp only [get]
  rw [dif_pos (by rw [hi]; exact i.isLt)]
  congr 2
  exact Fin.ext hi
theorem ofNat_inj {i j : Fin 16} (h : UInt8.ofNat i.val = UInt8.ofNat j.val) : i = j := by
  have h1 := congrArg UInt8.toNat h
  rw [UInt8.toNat_ofNat', UInt8.toNat_ofNat'] at h1
  have := i.isLt
  have := j.isLt
  exact Fin.ext (by omega)
theorem has_key : ∀ {n : Nd}, Canon n → n ≠ .nil → ∃ k v, get n k = some v
  | .nil, _, h => (h rfl).elim
  | .leaf p v, _, _ => ⟨p, v, by simp [get]⟩
  | .row p c, h, _ => by
    obtain ⟨k, v, hk⟩ := has_key (n := c) h.2.2.2 (by intro e; rw [e] at h; exact h.2.2.1)
    exact ⟨p ++ k, v, by rw [get_row_append]; exact hk⟩
  | .branch cs v, h, _ => by
    rcases h.2 with ⟨hv, _⟩ | ⟨i, j, _, hi, _⟩
    · exact ⟨[], v, by rw [get_branch_nil, if_neg hv]⟩
    · obtain ⟨k, w, hk⟩ := has_key (n := cs i) (h.1 i) hi
      exact ⟨UInt8.ofNat i.val :: k, w, by rw [get_branch_cons]; exact hk⟩
def Part (a b : By) : Prop := a ≠ b ∧ ∀ x r s, ¬ (a = x :: r ∧ b = x :: s)
theorem two_keys {n : Nd} (h : Canon n) (hb : IsBranch n) : ∃ k1 v1 k2 v2, get n k1 = some v1 ∧ get n k2 = some v2 ∧ Part k1 k2 := by
  cases n with
  | nil => exact hb.elim
  | leaf p v => exact hb.elim
  | row p c => exact hb.elim
  | branch cs v =>
    rcases h.2 with ⟨hv, i, hi⟩ | ⟨i, j, hij, hi, hj⟩
    · obtain ⟨k, w, hk⟩ := has_key (h.1 i) hi
      exact ⟨[], v, UInt8.ofNat i.val :: k, w, by rw [get_branch_nil, if_neg hv], by rw [get_branch_cons]; exact hk, by simp, fun x r s h => by cases h.1⟩
    · obtain ⟨k, w, hk⟩ := has_key (h.1 i) hi
      obtain ⟨k', w', hk'⟩ := has_key (h.1 j) hj
      refine ⟨UInt8.ofNat i.val :: k, w, UInt8.ofNat j.val :: k', w', by rw [get_branch_cons]; exact hk, by rw [get_branch_cons]; exact hk', ?_, fun x r s h => ?_⟩
      · intro e
        exact hij (ofNat_inj (List.cons.inj e).1)
      · exact hij (ofNat_inj ((List.cons.inj h.1).1.trans (List.cons.inj h.2).1.symm))
theorem two_row {p : By} {c : Nd} (h : Canon (.row p c)) : ∃ k1 v1 k2 v2, get (.row p c) k1 = some v1 ∧ get (.row p c) k2 = some v2 ∧ k1 ≠ k2 := by
  obtain ⟨k1, v1, k2, v2, h1, h2, hp⟩ := two_keys h.2.2.2 h.2.2.1
  exact ⟨p ++ k1, v1, p ++ k2, v2, by rw [get_row_append]; exact h1, by rw [get_row_append]; exact h2, fun e => hp.1 (List.append_cancel_left e)⟩
end Go.Trie
end
section
namespace Go.Trie
theorem Nib.left {p q : By} (h : Nib (p ++ q)) : Nib p := fun x hx => h x (List.mem_append_left _ hx)
theorem Nib.right {p q : By} (h : Nib (p ++ q)) : Nib q := fun x hx => h x (List.mem_append_right _ hx)
theorem Nib.append {p q : By} (h : Nib p) (k : Nib q) : Nib (p ++ q) := fun x hx => (List.mem_append.1 hx).elim (h x) (k x)
def behind (p k : By) (n : Nd) : Option By := if p.isPrefixOf k then get n (k.drop p.length) else none
theorem behind_append (p r : By) (n : Nd) : behind p (p ++ r) n = get n r := by
  unfold behind
  rw [if_pos (List.isPrefixOf_iff_prefix.2 (List.prefix_append _ _)), List.drop_left]
theorem behind_none {p k : By} {n : Nd} (h : ¬ p <+: k) : behind p k n = none := by
  unfold behind
  rw [if_neg (fun hp => h (List.isPrefixOf_iff_prefix.1 hp))]
theorem get_row (p : By) (c : Nd) (k : By) : get (.row p c) k = behind p k c := by simp only [get, behind]
theorem get_rowed (p : By) (n : Nd) (k : By) : get (rowed p n) k = behind p k n := by
  unfold rowed
  split
  · rename_i h
    subst h
    unfold behind
    simp
  · cases n with
    | nil => exact get_row _ _ _
    | branch cs v => exact get_row _ _ _
    | leaf q v =>
      by_cases hp : p <+: k
      · obtain ⟨r, rfl⟩ := hp
        rw [behind_append]
        simp only [get, List.append_cancel_left_eq]
      · rw [behind_none hp]
        simp only [get]
        rw [if_neg (fun (e : p ++ q = k) => hp (by rw [← e]; exact List.prefix_append _ _))]
    | row q c =>
      by_cases hp : p <+: k
      · obtain ⟨r, rfl⟩ := hp
        rw [behind_append, get_row, get_row]
        by_cases hq : q <+: r
        · obtain ⟨s, rfl⟩ := hq
          rw [← List.append_assoc, behind_append, behind_append]
        · rw [behind_none hq, behind_none]
          rintro ⟨s, hs⟩
          rw [List.append_assoc] at hs
          exact hq ⟨s, List.append_cancel_left hs⟩
      · rw [behind_none hp]
        show get (.row (p ++ q) c) k = none
        rw [get_row, behind_none]
        rintro ⟨s, rfl⟩
        rw [List.append_assoc] at hp
        exact hp (List.prefix_append _ _)
theorem canon_rowed {p : By} {n : Nd} (hp : Nib p) (hn : Canon n) (h0 : n ≠ .nil) : Canon (rowed p n) ∧ rowed p n ≠ .nil := by
  unfold rowed
  split
  · exact ⟨hn, h0⟩
  · rename_i hne
    cases n with
    | nil => exact (h0 rfl).elim
    | leaf q v => exact ⟨⟨hp.append hn.1, hn.2⟩, by simp⟩
    | row q c => exact ⟨⟨by simp [hne], hp.append hn.2.1, hn.2.2⟩, by simp⟩
    | branch cs v => exact ⟨⟨hne, hp, trivial, hn⟩, by simp⟩
theorem get_branch_hd (cs : Fin 16 → Nd) (v : By) (a : UInt8) (r : By) : get (.branch cs v) (a :: r) = get (at_ cs a) r := by
  simp only [get, at_]
  split <;> simp [get]
theorem at_upd_same {cs : Fin 16 → Nd} {a : UInt8} {n : Nd} (h : a.toNat < 16) : at_ (upd cs a n) a = n := by
  unfold at_ upd
  rw [dif_pos h, if_pos rfl]
theorem at_upd_ne {cs : Fin 16 → Nd} {a b : UInt8} {n : Nd} (h : b ≠ a) : at_ (upd cs a n) b = at_ cs b := by
  unfold at_ upd
  split
  · rw [if_neg (fun e => h (UInt8.toNat_inj.1 e))]
  · rfl
theorem get_lay {cs : Fin 16 → Nd} {v p x : By} (hp : Nib p) (hx : x ≠ []) (h1 : p = [] → v = []) (h2 : ∀ a r, p = a :: r → at_ cs a = .nil) (k : By) : get (lay cs v p x) k = if k = p then some x else get (.branch cs v) k := by
  cases p with
  | nil =>
    show get (.branch cs x) k = _
    cases k with
    | nil => rw [get_branch_nil, if_neg hx, if_pos rfl]
    | cons b r => rw [if_neg (by simp), get_branch_hd, get_branch_hd]
  | cons a r =>
    show get (.branch (upd cs a (.leaf r x)) v) k = _
    have ha : a.toNat < 16 := hp a (by simp)
    cases k with
    | nil => rw [get_branch_nil, get_branch_nil, if_neg (show ¬ ([] : By) = a :: r by simp)]
    | cons b s =>
      rw [get_branch_hd, get_branch_hd]
      by_cases hb : b = a
      · subst hb
        rw [at_upd_same ha, h2 b r rfl]
        simp only [get, List.cons.injEq, true_and]
        by_cases hrs : r = s
        · rw [if_pos hrs, if_pos hrs.symm]
        · rw [if_neg hrs, if_neg (fun e => hrs e.symm)]
      · rw [at_upd_ne hb, if_neg (by simp [hb])]
theorem canon_upd {cs : Fin 16 → Nd} {a : UInt8} {n : Nd} (h : ∀ i, Canon (cs i)) (hn : Canon n) : ∀ i, Canon (upd cs a n i) := fun i => by
  unfold upd; split
  · exact hn
  · exact h i
theorem at_idx {cs : Fin 16 → Nd} {a : UInt8} (h : a.toNat < 16) : at_ cs a = cs ⟨a.toNat, h⟩ := dif_pos h
theorem at_none (a : UInt8) : at_ none16 a = .nil := by unfold at_; split <;> rfl
theorem get_none16 (k : By) : get (.branch none16 []) k = none := by
  cases k with
  | nil => rfl
  | cons a r => rw [get_branch_hd, at_none]; simp [get]
theorem idx_ne {a b : UInt8} (ha : a.toNat < 16) (hb : b.toNat < 16) (h : a ≠ b) : (⟨a.toNat, ha⟩ : Fin 16) ≠ ⟨b.toNat, hb⟩ := fun e => h (UInt8.toNat_inj.1 (Fin.mk.inj e))
theorem lay_two {q p v x : By} (hq : Nib q) (hp : Nib p) (hv : v ≠ []) (hx : x ≠ []) (hne : q ≠ p) (hh : ∀ a r s, ¬ (q = a :: r ∧ p = a :: s)) :
    Canon (lay2 (lay none16 [] q v) p x) ∧ IsBranch (lay2 (lay none16 [] q v) p x) ∧ ∀ k, get (lay2 (lay none16 [] q v) p x) k = if k = p then some x else if k = q then some v else none := by
  have g1 := fun k => get_lay (cs := none16) (v := []) (x := v) hq hv (fun _ => rfl) (fun a r _ => at_none a) k
  cases q with
  | nil =>
    cases p with
    | nil => exact (hne rfl).elim
    | cons b s =>
      have hb : b.toNat < 16 := hp b (by simp)
      refine ⟨⟨canon_upd (fun _ => trivial) ⟨fun y hy => hp y (by simp [hy]), hx⟩, .inl ⟨hv, ⟨b.toNat, hb⟩, by unfold upd; rw [if_pos rfl]; simp⟩⟩, trivial, fun k => ?_⟩
      have g2 := get_lay (cs := none16) (v := v) hp hx (fun h => by cases h) (fun a r _ => at_none a) k
      show get (lay none16 v (b :: s) x) k = _
      rw [g2]
      split
      · rfl
      · have := g1 k
        rw [get_none16] at this
        exact this
  | cons a r =>
    have ha : a.toNat < 16 := hq a (by simp)
    have e : lay none16 [] (a :: r) v = .branch (upd none16 a (.leaf r v)) [] := rfl
    rw [e] at g1 ⊢
    show Canon (lay (upd none16 a (.leaf r v)) [] p x) ∧ IsBranch (lay (upd none16 a (.leaf r v)) [] p x) ∧ ∀ k, get (lay (upd none16 a (.leaf r v)) [] p x) k = _
    have hc1 : ∀ i, Canon (upd none16 a (.leaf r v) i) := canon_upd (fun _ => trivial) ⟨fun y hy => hq y (by simp [hy]), hv⟩
    have hp2 : ∀ b s, p = b :: s → at_ (upd none16 a (.leaf r v)) b = .nil := fun b s h => by
      rw [at_upd_ne (fun h2 => hh a r s ⟨rfl, by rw [h, h2]⟩), at_none]
    refine ⟨?_, ?_, fun k => ?_⟩
    · cases p with
      | nil => exact ⟨hc1, .inl ⟨hx, ⟨a.toNat, ha⟩, by unfold upd; rw [if_pos rfl]; simp⟩⟩
      | cons b s =>
        have hb : b.toNat < 16 := hp b (by simp)
        have hab : a ≠ b := fun h => hh a r s ⟨rfl, by rw [h]⟩
        refine ⟨canon_upd hc1 ⟨fun y hy => hp y (by simp [hy]), hx⟩, .inr ⟨⟨a.toNat, ha⟩, ⟨b.toNat, hb⟩, idx_ne ha hb hab, ?_, ?_⟩⟩
        · unfold upd
          rw [if_neg (fun h => hab (UInt8.toNat_inj.1 h)), if_pos rfl]; simp
        · unfold upd
          rw [if_pos rfl]; simp
    · cases p <;> exact trivial
    · rw [get_lay hp hx (fun _ => rfl) hp2 k]
      split
      · rfl
      · have := g1 k
        rw [get_none16] at this
        exact this
theorem split_shared (q p : By) : ∃ t q' p', q = t ++ q' ∧ p = t ++ p' ∧ t = p.take (shared q p) ∧ q' = q.drop (shared q p) ∧ p' = p.drop (shared q p) ∧ t.length = shared q p ∧ ∀ a r s, ¬ (q' = a :: r ∧ p' = a :: s) := by
  have hl := shared_le q p
  refine ⟨p.take (shared q p), q.drop (shared q p), p.drop (shared q p), ?_, (List.take_append_drop _ _).symm, rfl, rfl, rfl, by rw [List.length_take]; omega, fun a r s h => ?_⟩
  · rw [← shared_take]; exact (List.take_append_drop _ _).symm
  · have h1 : shared q p < q.length := by
      have := congrArg List.length h.1
      rw [List.length_drop] at this; simp at this; omega
    have h2 : shared q p < p.length := by
      have := congrArg List.length h.2
      rw [List.length_drop] at this; simp at this; omega
    refine shared_ne q p h1 h2 ?_
    have e1 : q[shared q p] = a := by
      have := List.getElem_drop (xs := q) (i := shared q p) (j := 0) (h := by rw [List.length_drop]; omega)
      simp only [h.1, List.getElem_cons_zero, Nat.add_zero] at this
      exact this.symm
    have e2 : p[shared q p] = a := by
      have := List.getElem_drop (xs := p) (i := shared q p) (j := 0) (h := by rw [List.length_drop]; omega)
      simp only [h.2, List.getElem_cons_zero, Nat.add_zero] at this
      exact this.symm
    rw [e1, e2]

theorem put_ok : ∀ {n : Nd} {p x : By}, Canon n → Nib p → x ≠ [] → Canon (put n p x) ∧ put n p x ≠ .nil ∧ (IsBranch n → IsBranch (put n p x)) ∧ ∀ k, get (put n p x) k = if k = p then some x else get n k
  | .nil, p, x, hn, hp, hx => by
    refine ⟨⟨hp, hx⟩, by simp [put], fun h => h.elim, fun k => ?_⟩
    simp only [put, get]
    by_cases h : p = k
    · rw [if_pos h, if_pos h.symm]
    · rw [if_neg h, if_neg (fun e => h e.symm)]
  | .leaf q v, p, x, hn, hp, hx => by
    simp only [put]
    obtain ⟨t, q', p', hq, hpe, ht, hq', hp', htl, hh⟩ := split_shared q p
    split
    · rename_i hs
      have hqp : q = p := by
        have h1 := shared_take q p
        rw [hs.1, List.take_length] at h1
        have h2 : q.length = p.length := hs.1.symm.trans hs.2
        rw [h2, List.take_length] at h1
        exact h1
      subst hqp
      refine ⟨⟨hp, hx⟩, by simp, fun h => h.elim, fun k => ?_⟩
      simp only [get]
      by_cases h : q = k
      · rw [if_pos h, if_pos h.symm]
      · rw [if_neg h, if_neg (fun e => h e.symm), if_neg h]
    · rename_i hs
      have hne : q' ≠ p' := by
        rintro rfl
        cases q' with
        | nil =>
          simp only [List.append_nil] at hq hpe
          exact hs ⟨by rw [← htl, ← hq], by rw [← htl, ← hpe]⟩
        | cons a r => exact hh a r r ⟨rfl, rfl⟩
      have hnq : Nib q' := (hq ▸ hn.1 : Nib (t ++ q')).right
      have hnp : Nib p' := (hpe ▸ hp : Nib (t ++ p')).right
      have hnt : Nib t := (hpe ▸ hp : Nib (t ++ p')).left
      obtain ⟨hc, hb, hg⟩ := lay_two hnq hnp hn.2 hx hne hh
      rw [← ht, ← hq', ← hp']
      have hnz : lay2 (lay none16 [] q' v) p' x ≠ .nil := by intro e; rw [e] at hb; exact hb
      obtain ⟨h1, h2⟩ := canon_rowed hnt hc hnz
      refine ⟨h1, h2, fun h => h.elim, fun k => ?_⟩
      rw [get_rowed]
      simp only [get]
      by_cases hk : t <+: k
      · obtain ⟨k', rfl⟩ := hk
        rw [behind_append, hg, hpe, hq]
        simp only [List.append_cancel_left_eq]
        split
        · rfl
        · by_cases h : k' = q'
          · rw [if_pos h, if_pos h.symm]
          · rw [if_neg h, if_neg (fun e => h e.symm)]
      · rw [behind_none hk, if_neg (fun (e : k = p) => hk (by rw [e, hpe]; exact List.prefix_append _ _)), if_neg (fun (e : q = k) => hk (by rw [← e, hq]; exact List.prefix_append _ _))]
  | .row q c, p, x, hn, hp, hx => by
    simp only [put]
    obtain ⟨t, q', p', hq, hpe, ht, hq', hp', htl, hh⟩ := split_shared q p
    have hnp : Nib p' := (hpe ▸ hp : Nib (t ++ p')).right
    have hnt : Nib t := (hpe ▸ hp : Nib (t ++ p')).left
    split
    · rename_i hs
      have hq0 : q' = [] := by rw [hq', hs, List.drop_length]
      rw [hq0, List.append_nil] at hq
      subst hq
      rw [← hp']
      obtain ⟨h1, h2, h3, h4⟩ := put_ok (p := p') (x := x) hn.2.2.2 hnp hx
      refine ⟨⟨hn.1, hn.2.1, h3 hn.2.2.1, h1⟩, by simp, fun h => h.elim, fun k => ?_⟩
      rw [get_row, get_row]
      by_cases hk : q <+: k
      · obtain ⟨k', rfl⟩ := hk
        rw [behind_append, behind_append, h4, hpe]
        simp only [List.append_cancel_left_eq]
      · rw [behind_none hk, behind_none hk, if_neg (fun (e : k = p) => hk (by rw [e, hpe]; exact List.prefix_append _ _))]
    · rename_i hs
      have hlt : shared q p < q.length := by have := (shared_le q p).1; omega
      obtain ⟨a, q2, hq2⟩ : ∃ a q2, q' = a :: q2 := by
        cases h : q' with
        | nil => rw [hq', List.drop_eq_nil_iff] at h; omega
        | cons a r => exact ⟨a, r, rfl⟩
      have hga : q.getD (shared q p) 0 = a := by
        have h3 : q[t.length]? = some a := by rw [hq, List.getElem?_append_right (Nat.le_refl _), Nat.sub_self, hq2]; rfl
        rw [← htl, List.getD_eq_getElem?_getD, h3]; rfl
      have hgd : q.drop (shared q p + 1) = q2 := by
        rw [← List.drop_drop, ← hq', hq2]; rfl
      rw [hga, hgd, ← ht, ← hp']
      have hnq : Nib q' := (hq ▸ hn.2.1 : Nib (t ++ q')).right
      rw [hq2] at hnq
      have ha : a.toNat < 16 := hnq a (by simp)
      have hcn : c ≠ .nil := by intro e; rw [e] at hn; exact hn.2.2.1
      obtain ⟨r1, r2⟩ := canon_rowed (p := q2) (n := c) (fun y hy => hnq y (by simp [hy])) hn.2.2.2 hcn
      have hc1 : ∀ i, Canon (upd none16 a (rowed q2 c) i) := canon_upd (fun _ => trivial) r1
      have hp2 : ∀ b s, p' = b :: s → at_ (upd none16 a (rowed q2 c)) b = .nil := fun b s h => by
        rw [at_upd_ne (fun h2 => hh a q2 s ⟨hq2, by rw [h, h2]⟩), at_none]
      have hcl : Canon (lay (upd none16 a (rowed q2 c)) [] p' x) ∧ IsBranch (lay (upd none16 a (rowed q2 c)) [] p' x) := by
        cases hpp : p' with
        | nil => exact ⟨⟨hc1, .inl ⟨hx, ⟨a.toNat, ha⟩, by unfold upd; rw [if_pos rfl]; exact r2⟩⟩, trivial⟩
        | cons b s =>
          rw [hpp] at hnp
          have hb : b.toNat < 16 := hnp b (by simp)
          have hab : a ≠ b := fun h => hh a q2 s ⟨hq2, by rw [hpp, h]⟩
          refine ⟨⟨canon_upd hc1 ⟨fun y hy => hnp y (by simp [hy]), hx⟩, .inr ⟨⟨a.toNat, ha⟩, ⟨b.toNat, hb⟩, idx_ne ha hb hab, ?_, ?_⟩⟩, trivial⟩
          · unfold upd
            rw [if_neg (fun h => hab (UInt8.toNat_inj.1 h)), if_pos rfl]; exact r2
          · unfold upd
            rw [if_pos rfl]; simp
      have hnz : lay (upd none16 a (rowed q2 c)) [] p' x ≠ .nil := by intro e; rw [e] at hcl; exact hcl.2
      obtain ⟨h1, h2⟩ := canon_rowed hnt hcl.1 hnz
      refine ⟨h1, h2, fun h => h.elim, fun k => ?_⟩
      rw [get_rowed, get_row]
      by_cases hk : t <+: k
      · obtain ⟨k', rfl⟩ := hk
        rw [behind_append, get_lay hnp hx (fun _ => rfl) hp2, hpe, hq, hq2]
        simp only [List.append_cancel_left_eq]
        split
        · rfl
        · cases k' with
          | nil =>
            rw [get_branch_nil, if_pos rfl, List.append_nil, behind_none]
            intro hpre
            have := hpre.length_le
            simp at this
            omega
          | cons b s =>
            rw [get_branch_hd]
            by_cases hba : b = a
            · subst hba
              rw [at_upd_same ha, get_rowed]
              by_cases hqs : q2 <+: s
              · obtain ⟨u, rfl⟩ := hqs
                rw [behind_append, show t ++ b :: (q2 ++ u) = (t ++ b :: q2) ++ u by simp, behind_append]
              · rw [behind_none hqs, behind_none]
                rintro ⟨u, hu⟩
                rw [List.append_assoc] at hu
                have := List.append_cancel_left hu
                rw [List.cons_append] at this
                exact hqs ⟨u, (List.cons.inj this).2⟩
            · rw [at_upd_ne hba, at_none, behind_none]
              · simp [get]
              · rintro ⟨u, hu⟩
                rw [List.append_assoc] at hu
                have := List.append_cancel_left hu
                rw [List.cons_append] at this
                exact hba (List.cons.inj this).1.symm
      · rw [behind_none hk, if_neg (fun (e : k = p) => hk (by rw [e, hpe]; exact List.prefix_append _ _)), behind_none]
        rintro ⟨u, rfl⟩
        rw [hq, List.append_assoc] at hk
        exact hk (List.prefix_append _ _)
  | .branch cs v, [], x, hn, hp, hx => by
    refine ⟨⟨hn.1, ?_⟩, by simp [put], fun _ => trivial, fun k => ?_⟩
    · rcases hn.2 with ⟨_, h⟩ | h
      · exact .inl ⟨hx, h⟩
      · exact .inr h
    · simp only [put]
      cases k with
      | nil => rw [get_branch_nil, if_neg hx, if_pos rfl]
      | cons b r => rw [if_neg (by simp), get_branch_hd, get_branch_hd]
  | .branch cs v, a :: r, x, hn, hp, hx => by
    have ha : a.toNat < 16 := hp a (by simp)
    have hr : Nib r := fun y hy => hp y (by simp [hy])
    have ih := fun i => put_ok (n := cs i) (p := r) (x := x) (hn.1 i) hr hx
    simp only [put]
    refine ⟨⟨fun i => ?_, ?_⟩, by simp, fun _ => trivial, fun k => ?_⟩
    · dsimp only
      split
      · exact (ih i).1
      · exact hn.1 i
    · have keep : ∀ i, cs i ≠ .nil → (if i.val = a.toNat then put (cs i) r x else cs i) ≠ .nil := fun i hi => by
        split
        · exact (ih i).2.1
        · exact hi
      rcases hn.2 with ⟨hv, i, hi⟩ | ⟨i, j, hij, hi, hj⟩
      · exact .inl ⟨hv, i, keep i hi⟩
      · exact .inr ⟨i, j, hij, keep i hi, keep j hj⟩
    · cases k with
      | nil => rw [get_branch_nil, get_branch_nil, if_neg (show ¬ ([] : By) = a :: r by simp)]
      | cons b s =>
        rw [get_branch_hd, get_branch_hd]
        by_cases hb : b = a
        · subst hb
          rw [at_idx ha, at_idx ha, if_pos rfl, (ih _).2.2.2]
          simp only [List.cons.injEq, true_and]
        · rw [if_neg (by simp [hb])]
          unfold at_
          split
          · rename_i hb16
            dsimp only
            rw [if_neg (fun e => hb (UInt8.toNat_inj.1 e))]
          · rfl
end Go.Trie
end
section
namespace Go.Trie
def isNil : Nd → Bool
  | .nil => true
  | _ => false
def there (cs : Fin 16 → Nd) : List (Fin 16) := (List.finRange 16).filter fun i => !isNil (cs i)
end Go.Trie
end
section
namespace Go.Vcg

structure Fresh (w0 w : World) (e : TypeId) (sz : Nat) (o : Option Addr) (l c : Nat) (xs : List Value) : Prop where
  own : Own w e sz o l c xs
  mod : Mod NoB w0 w
  new : ∀ k, OB o k → w0.heap.size ≤ k
variable {P : Program} {w0 w w' : World} {e t tx ty : TypeId} {sz l c n : Nat} {o : Option Addr} {xs news : List Value} {x : Value} {i : TypeInfo} {z : Value}
theorem Fresh.nil (M : Mod NoB w0 w) (e : TypeId) (sz : Nat) : Fresh w0 w e sz none 0 0 [] := ⟨Own.nil w e sz, M, fun k h => (OB_none k h).elim⟩
theorem Fresh.mod' (h : Fresh w0 w e sz o l c xs) (M : Mod NoB w w') : Fresh w0 w' e sz o l c xs := ⟨h.own.mod' M, h.mod.trans M (fun _ _ h => h), h.new⟩
theorem Fresh.push (h : Fresh w0 w e sz o l c xs) (ht : P.underlying t = some (.slice e)) (hi : P.info? e = some i) (hz : i.zero = some z) (hs : i.size = sz) (hzs : z.cells.size = sz)
    (src : Src P sz tx x n news w) (h63 : l + n ≤ maxLen) (hb : (l + n) * i.bytes ≤ 140737488355328) :
    ∃ o' c' w', Sem.run P (builtinV .append #[t, tx] ty #[.slice o l c, x]) w = .ok (.slice o' (l + n) c') w' ∧ Fresh w0 w' e sz o' (l + n) c' (xs ++ news) := by
  obtain ⟨o', c', w', h1, h2, h3, h4⟩ := append_own (ty := ty) ht hi hz hs hzs h.own src h63 hb
  refine ⟨o', c', w', h1, h2, h.mod.trans h3 (fun k hk hob => absurd (h.new k hob) (by omega)), fun k hk => ?_⟩
  rcases h4 k hk with h5 | h5
  · exact h.new k h5
  · exact Nat.le_trans h.mod.size h5
section
variable {C : Type} {lab : Nat → C}
theorem Fresh.done (h : Fresh w0 w e sz o l c xs) (cl : C) : COw w (ext lab w0.heap.size cl) cl e sz o l c xs ∧ Stp (fun _ => False) w0 lab w (ext lab w0.heap.size cl) :=
  ⟨⟨h.own, fun k hk => ext_new (h.new k hk)⟩, Stp.of_nob h.mod cl⟩

def CRow (w : World) (lab : Nat → C) (c : C) (o : Option Addr) (xs : List Value) : Prop :=
  ∀ (j : Nat) (v : Value), xs[j]? = some v → ∃ b f, o = some ⟨b, f, none⟩ ∧ b < w.heap.size ∧ lab b = c ∧ w.cell? ⟨b, f + j, none⟩ = some v
variable {cl : C} {S : C → Prop} {lab' : Nat → C}
theorem CRow.nil (w : World) (lab : Nat → C) (cl : C) (o : Option Addr) : CRow w lab cl o [] := fun j v h => by simp at h
theorem CRow.stp (h : CRow w lab cl o xs) (s : Stp S w lab w' lab') (hs : ¬ S cl) : CRow w' lab' cl o xs := fun j v hv => by
  obtain ⟨b, f, ho, hb, hl, hc⟩ := h j v hv
  exact ⟨b, f, ho, Nat.lt_of_lt_of_le hb s.size, (s.lab b hb).trans hl, (World.cell?_of_block (s.block b hb (by rw [hl]; exact hs))).trans hc⟩
theorem COw.row (h : COw w lab cl e sz o l c xs) : CRow w lab cl o xs := fun j v hv => by
  obtain ⟨g, rfl, hc⟩ := h.own.cell hv
  exact ⟨g, 0, rfl, h.own.lt ⟨_, rfl, rfl⟩, h.clr _ ⟨_, rfl, rfl⟩, by rw [Nat.zero_add]; exact hc⟩
end
end Go.Vcg
end
section
namespace Go.Vcg

def strOf (bs : List UInt8) : ByteArray := ⟨bs.toArray⟩
theorem run_toStr {P : Program} {w : World} {src dst e : TypeId} (hs : P.underlying src = some (.slice e)) (he : P.underlying e = some (.int .u8)) (hd : P.underlying dst = some .string) {o : Option Addr} {c : Nat} {bs : List UInt8} (h : RdB w o bs) :
    (convert src dst (.slice o bs.length c)).run P w = .ok (.string (strOf bs)) w := by
  rw [run_convert_bytes_string w src dst e o bs.length c hs he hd]
  cases o with
  | none =>
    have : bs = [] := by
      by_cases hne : bs = []
      · exact hne
      · obtain ⟨b, f, h, _⟩ := h hne; cases h
    subst this
    rfl
  | some a =>
    have hl : (loadCells a bs.length).run P w = .ok ((bs.map fun b => (b.toNat : Int)).map (Value.int .u8)).toArray w := by
      have h1 : (Builtin.firstCells 1 bs.length (.slice (some a) bs.length c)).run P w = .ok (bs.map bV).toArray w := by
        refine run_firstCells_some w 1 bs.length a _ c _ (by simp) (fun j v hv => ?_)
        rw [List.getElem?_map, Option.map_eq_some_iff] at hv
        obtain ⟨x, hx, rfl⟩ := hv
        obtain ⟨hj, rfl⟩ := List.getElem?_eq_some_iff.1 hx
        obtain ⟨b, f, ho, _, hc⟩ := h (by intro e; rw [e] at hj; simp at hj)
        cases ho
        rw [add_at, hc j hj]
        simp [List.getD_eq_getElem?_getD, hj]
      simp only [Builtin.firstCells, Nat.mul_one] at h1
      rw [h1, List.map_map]; rfl
    rw [run_bytesToString w a _ c _ hl]
    have key : ∀ (l : List UInt8) (s : ByteArray), (l.map fun b => (b.toNat : Int)).foldl (fun r n => r.push (UInt8.ofNat n.toNat)) s = ⟨s.data ++ l.toArray⟩ := by
      intro l
      induction l with
      | nil => intro s; simp
      | cons b l ih =>
        intro s
        rw [List.map_cons, List.foldl_cons, ih]
        have e1 : UInt8.ofNat ((b.toNat : Int)).toNat = b := by rw [Int.toNat_natCast, UInt8.ofNat_toNat]
        rw [e1]
        congr 1
        show s.data.push b ++ l.toArray = _
        rw [List.toArray_cons, ← Array.append_assoc]
        rfl
    rw [key]
    show Result.ok (Value.string ⟨#[] ++ bs.toArray⟩) w = _
    rw [Array.empty_append]; rfl
theorem strB_eql (a b : ByteArray) : strB .eql a b = decide (a.data.toList = b.data.toList) := by
  simp only [strB, ByteArray.toList_eq]
  by_cases h : a.data.toList = b.data.toList
  · rw [decide_eq_true h, h]; simp
  · rw [decide_eq_false h]; simpa using h
theorem strB_strOf (a b : List UInt8) : strB .eql (strOf a) (strOf b) = decide (a = b) := by
  rw [strB_eql]; rfl
end Go.Vcg
end
section
namespace Go.Proofs.Ytfghidehlnfdiaa
open Go Go.Vcg Go.Trie

theorem calls_gen {P : Program} {f : FuncId} {args : Array Value} {w : World} {Q : Ending → World → Prop} (h : ∀ R : Ending → World → Prop, (∀ e w', Q e w' → R e w') → Calls P f args w R) : Calls P f args w Q :=
  h Q (fun _ _ h => h)
theorem info_of {t : TypeId} {z : Value} {s b : Nat} (h : (Try.prog.info? t).map (fun i => (i.zero, i.size, i.bytes)) = some (some z, s, b)) : ∃ i, Try.prog.info? t = some i ∧ i.zero = some z ∧ i.size = s ∧ i.bytes = b := by
  obtain ⟨i, hi, h1⟩ := Option.map_eq_some_iff.1 h
  simp only [Prod.mk.injEq] at h1
  exact ⟨i, hi, h1⟩
theorem push_bytes {w0 w : World} {o : Option Addr} {n k : Nat} {b : List UInt8} {ty : TypeId} (F : Fresh w0 w tU8 1 o n k (b.map bV)) {o2 : Option Addr} {c : List UInt8} {k2 : Nat} (hr : RdB w o2 c) (hn : n + c.length ≤ 2 ^ 40) :
    ∃ o' c' w', Sem.run Try.prog (builtinV .append #[tSlU8, tSlU8] ty #[.slice o n k, .slice o2 c.length k2]) w = .ok (.slice o' (n + c.length) c') w' ∧ Fresh w0 w' tU8 1 o' (n + c.length) c' ((b ++ c).map bV) := by
  obtain ⟨i, hi, hz, hs, hb⟩ := info_of info_u8
  rw [List.map_append]
  exact F.push und_slU8 hi hz hs rfl (src_bytes und_slU8 hr) (by simp only [maxLen]; omega) (by rw [hb]; omega)
theorem copy_bytes' {w0 w : World} (M : Vcg.Mod NoB w0 w) {o2 : Option Addr} {c : List UInt8} {k2 : Nat} {ty : TypeId} (hr : RdB w o2 c) (hn : c.length ≤ 2 ^ 40) :
    ∃ o' c' w', Sem.run Try.prog (builtinV .append #[tSlU8, tSlU8] ty #[.slice none 0 0, .slice o2 c.length k2]) w = .ok (.slice o' c.length c') w' ∧ Fresh w0 w' tU8 1 o' c.length c' (c.map bV) := by
  have := push_bytes (k2 := k2) (ty := ty) (b := []) (Fresh.nil M tU8 1) hr (by omega)
  simpa using this
theorem fresh_bytes {w0 w : World} {o : Option Addr} {l k : Nat} {bs : List UInt8} (F : Fresh w0 w tU8 1 o l k (bs.map bV)) : RdB w o bs := F.own.bytes
theorem rdb_get {w : World} {o : Option Addr} {bs : List UInt8} (h : RdB w o bs) {i : Nat} (hi : i < bs.length) : ∃ b f, o = some ⟨b, f, none⟩ ∧ b < w.heap.size ∧ w.cell? ⟨b, f + i, none⟩ = some (bV bs[i]) := by
  obtain ⟨b, f, ho, hb, hc⟩ := h (by intro e; rw [e] at hi; simp at hi)
  refine ⟨b, f, ho, hb, ?_⟩
  rw [hc i hi]
  simp [List.getD_eq_getElem?_getD, hi]
theorem two_bytes {w : World} (a b : UInt8) {n m : Int} (hn : n = (a.toNat : Int)) (hm : m = (b.toNat : Int)) : RdB (w.alloc (.cells #[.int .u8 n, .int .u8 m] 5)) (some ⟨w.heap.size, 0, none⟩) [a, b] := by
  subst hn hm
  exact RdB.of_blk (Blk.new w 5 #[bV a, bV b]) (fun i hi => by
    rcases i with _ | _ | i
    · rfl
    · rfl
    · exact absurd hi (by simp))
theorem hi_nib (b : UInt8) : Int.fdiv (b.toNat : Int) 16 = ((b >>> 4).toNat : Int) := by
  have : ∀ n : Fin 256, Int.fdiv ((UInt8.ofFin n).toNat : Int) 16 = ((UInt8.ofFin n >>> 4).toNat : Int) := by decide +kernel
  exact this b.toFin
theorem lo_nib (b : UInt8) : bitsI .and .u8 (b.toNat : Int) 15 = ((b &&& 15).toNat : Int) := by
  have : ∀ n : Fin 256, bitsI .and .u8 ((UInt8.ofFin n).toNat : Int) 15 = ((UInt8.ofFin n &&& 15).toNat : Int) := by decide +kernel
  exact this b.toFin
theorem nibbles_len (k : By) : (nibbles k).length = 2 * k.length := by
  induction k with
  | nil => rfl
  | cons a r ih =>
    show ([a >>> 4, a &&& 15] ++ nibbles r).length = _
    rw [List.length_append, ih]; simp; omega
theorem nibbles_snoc (k : By) (a : UInt8) : nibbles (k ++ [a]) = nibbles k ++ [a >>> 4, a &&& 15] := by
  unfold nibbles
  rw [List.flatMap_append]; rfl
theorem Nibbles_calls {w : World} {o : Option Addr} {k : Nat} {bs : List UInt8} (hr : RdB w o bs) (hl : bs.length ≤ 2 ^ 30) :
    Calls Try.prog trie_Nibbles.n #[.slice o bs.length k] w (fun e w' => ∃ o' k', e = .returned (.slice o' (nibbles bs).length k') ∧ Fresh w w' tU8 1 o' (nibbles bs).length k' ((nibbles bs).map bV)) := by
  refine trie_Nibbles.vc _ _ _ _ _ ?_
  unfold trie_Nibbles.Vc
  refine ⟨fun o' l' k' i w' => ∃ j : Nat, i = (j : Int) ∧ j ≤ bs.length ∧ l' = (nibbles (bs.take j)).length ∧ Fresh w w' tU8 1 o' l' k' ((nibbles (bs.take j)).map bV), fun _ _ _ i _ => ((bs.length : Int) - i).toNat,
    ⟨0, rfl, Nat.zero_le _, rfl, Fresh.nil (Mod.refl w) _ _⟩, ?_⟩
  rintro o' _ k' _ _ w1 ⟨j, rfl, hj, rfl, F⟩
  refine ⟨fun hlt => ?_, fun hge => ?_⟩
  · have hjl : j < bs.length := by omega
    obtain ⟨b, f, rfl, hb, hc⟩ := rdb_get hr hjl
    have htk : bs.take (j + 1) = bs.take j ++ [bs[j]] := by rw [List.take_add_one, List.getElem?_eq_getElem hjl]; rfl
    refine ⟨_, rfl, by omega, _, by rw [add_at, Int.toNat_natCast]; exact (cell_mod F.mod hb (fun h => h)).trans hc, ?_⟩
    rintro d w2 ⟨rfl, rfl⟩
    have hnl := nibbles_len (bs.take j)
    rw [List.length_take] at hnl
    obtain ⟨o3, k3, w3, hr3, F3⟩ := push_bytes (ty := tSlU8) (k2 := 2) (F.mod' (Mod.alloc _ _)) (two_bytes (w := w1) (bs[j] >>> 4) (bs[j] &&& 15) (hi_nib _) (lo_nib _)) (by simp; omega)
    refine ⟨_, w3, hr3, _, _, _, rfl, ⟨j + 1, by rw [wrap_i64_small (by omega) (by omega)]; omega, hjl, ?_, ?_⟩, ?_⟩
    · rw [htk, nibbles_snoc, List.length_append]
    · rw [htk, nibbles_snoc]; exact F3
    · dsimp only
      rw [wrap_i64_small (by omega) (by omega)]; omega
  · obtain rfl : j = bs.length := by omega
    rw [List.take_length] at F ⊢
    exact ⟨_, _, rfl, F⟩
theorem Clone_calls {w : World} {o : Option Addr} {k : Nat} {bs : List UInt8} (hr : RdB w o bs) (hl : bs.length ≤ 2 ^ 40) :
    Calls Try.prog bytes_Clone.n #[.slice o bs.length k] w (fun e w' => ∃ o' k', e = .returned (.slice o' bs.length k') ∧ Fresh w w' tU8 1 o' bs.length k' (bs.map bV)) := by
  refine bytes_Clone.vc _ _ _ _ _ ?_
  unfold bytes_Clone.Vc
  refine ⟨fun h => ?_, fun h => ?_⟩
  · subst h
    have : bs = [] := by
      by_cases hne : bs = []
      · exact hne
      · obtain ⟨b, f, ho, _⟩ := hr hne; cases ho
    subst this
    exact ⟨none, 0, rfl, Fresh.nil (Mod.refl w) _ _⟩
  · rintro d w2 ⟨rfl, rfl⟩
    have M2 := Mod.alloc (S := NoB) w (.cells #[] 5)
    have F : Fresh w (w.alloc (.cells #[] 5)) tU8 1 (some ⟨w.heap.size, 0, none⟩) 0 0 (([] : List UInt8).map bV) :=
      ⟨⟨rfl, .inr ⟨_, #[], rfl, Blk.new w 5 #[], Nat.le_refl _, by simp [maxLen], rfl, rfl⟩⟩, M2, fun k hk => by obtain ⟨d, hd, rfl⟩ := hk; cases hd; exact Nat.le_refl _⟩
    obtain ⟨o3, k3, w3, hr3, F3⟩ := push_bytes (ty := tSlU8) (k2 := k) F (hr.mod' M2) (by omega)
    rw [Nat.zero_add] at hr3 F3
    rw [List.nil_append] at F3
    exact ⟨_, w3, hr3, _, _, _, rfl, _, _, rfl, F3⟩
end Go.Proofs.Ytfghidehlnfdiaa
end
section
namespace Go.Trie
theorem pairs_snoc : ∀ (n : Nat) (x : By) (a b : UInt8), x.length = 2 * n → pairs (x ++ [a, b]) = pairs x ++ [a <<< 4 ||| b]
  | 0, [], a, b, _ => rfl
  | 0, _ :: _, a, b, h => by simp at h
  | n + 1, [], a, b, h => by simp at h
  | n + 1, [_], a, b, h => by simp at h; omega
  | n + 1, c :: d :: r, a, b, h => by
    have := pairs_snoc n r a b (by simp at h; omega)
    show pairs (c :: d :: (r ++ [a, b])) = pairs (c :: d :: r) ++ _
    simp only [pairs, this, List.cons_append]
theorem pairs_len : ∀ (n : Nat) (x : By), x.length = 2 * n → (pairs x).length = n
  | 0, [], _ => rfl
  | 0, _ :: _, h => by simp at h
  | n + 1, [], h => by simp at h
  | n + 1, [_], h => by simp at h; omega
  | n + 1, c :: d :: r, h => by
    simp only [pairs, List.length_cons, pairs_len n r (by simp at h; omega)]
def headOf (p : By) (leaf : Bool) : By := if p.length % 2 = 1 then [flagOf leaf + 1] else [flagOf leaf, 0]
theorem headed_eq (p : By) (leaf : Bool) : headed p leaf = headOf p leaf ++ p := by
  unfold headed headOf; split <;> rfl
theorem headed_even (p : By) (leaf : Bool) : ∃ n, (headed p leaf).length = 2 * n := by
  unfold headed
  split
  · rename_i h; exact ⟨(p.length + 1) / 2, by rw [List.length_cons]; omega⟩
  · rename_i h; exact ⟨(p.length + 2) / 2, by rw [List.length_cons, List.length_cons]; omega⟩
theorem shared_take_add : ∀ (n : Nat) (p q : By), p.take n = q.take n → n ≤ p.length → n ≤ q.length → n ≤ shared p q
  | 0, p, q, _, _, _ => Nat.zero_le _
  | n + 1, a :: p, b :: q, h, h1, h2 => by
    simp only [List.take_succ_cons, List.cons.injEq] at h
    have := shared_take_add n p q h.2 (by simp at h1; omega) (by simp at h2; omega)
    simp only [shared, if_pos h.1]; omega
  | n + 1, [], q, _, h, _ => by simp at h
  | n + 1, _ :: _, [], _, _, h => by simp at h
theorem shared_eq {n : Nat} {p q : By} (h : p.take n = q.take n) (h1 : n ≤ p.length) (h2 : n ≤ q.length) (h3 : n = p.length ∨ n = q.length ∨ ∃ (x : n < p.length) (y : n < q.length), p[n] ≠ q[n]) : shared p q = n := by
  have ge := shared_take_add n p q h h1 h2
  obtain ⟨l1, l2⟩ := shared_le p q
  rcases h3 with rfl | rfl | ⟨x, y, hne⟩
  · omega
  · omega
  · by_cases hlt : n < shared p q
    · have ht := shared_take p q
      have e1 : (p.take (shared p q))[n]? = (q.take (shared p q))[n]? := by rw [ht]
      rw [List.getElem?_take, List.getElem?_take, if_pos hlt, if_pos hlt, List.getElem?_eq_getElem x, List.getElem?_eq_getElem y] at e1
      exact (hne (Option.some.inj e1)).elim
    · omega
end Go.Trie
namespace Go.Proofs.Ytfghidehlnfdiaa
open Go Go.Vcg Go.Trie
theorem maxOf_calls {w : World} {o : Option Addr} {k : Nat} {bs : List UInt8} (hr : RdB w o bs) (hl : bs.length ≤ 2 ^ 30) :
    Calls Try.prog trie_maxOf.n #[.slice o bs.length k] w (fun e w' => w' = w ∧ ∃ n, e = .returned (.int .u8 n) ∧ (n ≥ 16 ↔ ∃ x ∈ bs, x ≥ 16)) := by
  refine trie_maxOf.vc _ _ _ _ _ ?_
  unfold trie_maxOf.Vc
  refine ⟨fun n i w' => ∃ j : Nat, i = (j : Int) ∧ j ≤ bs.length ∧ w' = w ∧ (n ≥ 16 ↔ ∃ x ∈ bs.take j, x ≥ 16), fun _ i _ => ((bs.length : Int) - i).toNat, ⟨0, rfl, Nat.zero_le _, rfl, by simp⟩, ?_⟩
  rintro n _ _ _ ⟨j, rfl, hj, rfl, hn⟩
  refine ⟨fun hlt => ?_, fun hge => ?_⟩
  · have hjl : j < bs.length := by omega
    obtain ⟨b, f, rfl, hb, hc⟩ := rdb_get hr hjl
    have htk : bs.take (j + 1) = bs.take j ++ [bs[j]] := by rw [List.take_add_one, List.getElem?_eq_getElem hjl]; rfl
    refine ⟨_, rfl, by omega, _, by rw [add_at, Int.toNat_natCast]; exact hc, ⟨j + 1, by rw [wrap_i64_small (by omega) (by omega)]; omega, hjl, rfl, ?_⟩, ?_⟩
    · rw [htk]
      simp only [List.mem_append, List.mem_singleton]
      have hx : ((bs[j].toNat : Int) ≥ 16) ↔ bs[j] ≥ 16 := by
        have : bs[j] ≥ 16 ↔ (16 : UInt8).toNat ≤ bs[j].toNat := UInt8.le_iff_toNat_le
        rw [this]
        show _ ↔ 16 ≤ bs[j].toNat
        omega
      constructor
      · intro h
        by_cases h1 : n ≥ 16
        · obtain ⟨x, hx1, hx2⟩ := hn.1 h1
          exact ⟨x, .inl hx1, hx2⟩
        · exact ⟨_, .inr rfl, hx.1 (by omega)⟩
      · rintro ⟨x, hx1 | rfl, hx2⟩
        · have := hn.2 ⟨x, hx1, hx2⟩; omega
        · have := hx.2 hx2; omega
    · dsimp only
      rw [wrap_i64_small (by omega) (by omega)]; omega
  · obtain rfl : j = bs.length := by omega
    rw [List.take_length] at hn
    exact ⟨rfl, n, rfl, hn⟩
theorem shl4 (a : UInt8) : IntKind.wrap .u8 ((a.toNat : Int) * 16) = ((a <<< 4).toNat : Int) := by
  have : ∀ n : Fin 256, IntKind.wrap .u8 (((UInt8.ofFin n).toNat : Int) * 16) = ((UInt8.ofFin n <<< 4).toNat : Int) := by decide +kernel
  exact this a.toFin
theorem fresh_blk (w : World) (cs : List UInt8) (A : Array Value) (hA : A.toList = cs.map bV) (hl : cs.length ≤ maxLen) : Fresh w (w.alloc (.cells A 5)) tU8 1 (some ⟨w.heap.size, 0, none⟩) cs.length cs.length (cs.map bV) := by
  have hs : A.size = cs.length := by rw [← Array.length_toList, hA, List.length_map]
  refine ⟨⟨by simp, .inr ⟨_, A, rfl, Blk.new w 5 A, Nat.le_refl _, hl, by omega, ?_⟩⟩, Mod.alloc _ _, fun k hk => by obtain ⟨d, hd, rfl⟩ := hk; cases hd; exact Nat.le_refl _⟩
  rw [hA, List.take_of_length_le (by rw [List.length_map]; omega)]
theorem Fresh.from_ {w w0 w1 : World} {e : TypeId} {sz : Nat} {o : Option Addr} {l c : Nat} {xs : List Value} (h : Fresh w0 w1 e sz o l c xs) (M : Vcg.Mod NoB w w0) : Fresh w w1 e sz o l c xs :=
  ⟨h.own, M.trans h.mod (fun _ _ h => h), fun k hk => Nat.le_trans M.size (h.new k hk)⟩
theorem Pack_calls {w : World} {o : Option Addr} {k : Nat} {bs : List UInt8} (hr : RdB w o bs) (hl : bs.length ≤ 2 ^ 30) (leaf : Bool) :
    Calls Try.prog trie_Pack.n #[.slice o bs.length k, .bool leaf] w (fun e w' => ∃ o' k', e = .returned (.tuple #[.slice o' (pack bs leaf).1.length k', .int .i64 (pack bs leaf).2]) ∧ Fresh w w' tU8 1 o' (pack bs leaf).1.length k' ((pack bs leaf).1.map bV)) := by
  refine calls_gen fun R hR => trie_Pack.vc _ _ _ _ _ _ ?_
  unfold trie_Pack.Vc
  have bad : packBad bs → R (.returned (.tuple #[.slice none 0 0, .int .i64 140])) w := fun h => by
    refine hR _ _ ⟨none, 0, ?_, ?_⟩
    · unfold pack; rw [if_pos h]; rfl
    · unfold pack; rw [if_pos h]; exact Fresh.nil (Mod.refl w) _ _
  refine ⟨fun h => bad (.inl (by omega)), fun h128 => ?_⟩
  refine (maxOf_calls hr hl).mono ?_
  rintro _ w1 ⟨rfl, n, rfl, hn⟩
  refine ⟨_, rfl, fun h => bad (.inr (hn.1 h)), fun h16 => ?_⟩
  have hgood : ¬ packBad bs := by
    rintro (h | h)
    · omega
    · exact h16 (hn.2 h)
  have hpk : pack bs leaf = (pairs (headed bs leaf), 0) := by unfold pack; rw [if_neg hgood]
  rw [hpk] at hR
  refine ⟨fun m w' => m = ((flagOf leaf).toNat : Int) ∧ w' = w1, ⟨fun h => ⟨by rw [h]; rfl, rfl⟩, fun h => ⟨by rw [h]; rfl, rfl⟩⟩, ?_⟩
  rintro _ _ w7 ⟨rfl, rfl⟩
  rintro d8 w9 ⟨rfl, rfl⟩
  have hho : (headOf bs leaf).length ≤ 2 := by unfold headOf; split <;> simp
  refine ⟨fun o' l' k' w' => ∃ k0, k' = k0 ∧ l' = (headOf bs leaf).length ∧ Fresh w7 w' tU8 1 o' l' k' ((headOf bs leaf).map bV), ⟨fun hodd => ?_, fun hev => ?_⟩, ?_⟩
  · rintro d11 w12 ⟨rfl, rfl⟩
    have ho : bs.length % 2 = 1 := by
      have : Int.tmod ((bs.length : Nat) : Int) 2 = ((bs.length % 2 : Nat) : Int) := rfl
      omega
    have e : headOf bs leaf = [flagOf leaf + 1] := by unfold headOf; rw [if_pos ho]
    rw [e]
    have hw : IntKind.wrap .u8 (((flagOf leaf).toNat : Int) + 1) = ((flagOf leaf + 1).toNat : Int) := by cases leaf <;> decide
    rw [hw]
    exact ⟨_, rfl, rfl, Fresh.from_ (fresh_blk _ [flagOf leaf + 1] _ rfl (by simp [maxLen])) (Mod.alloc _ _)⟩
  · have ho : ¬ bs.length % 2 = 1 := by
      have : Int.tmod ((bs.length : Nat) : Int) 2 = ((bs.length % 2 : Nat) : Int) := rfl
      omega
    have e : headOf bs leaf = [flagOf leaf, 0] := by unfold headOf; rw [if_neg ho]
    rw [e]
    exact ⟨_, rfl, rfl, fresh_blk _ [flagOf leaf, 0] _ rfl (by simp [maxLen])⟩
  · rintro o13 _ _ _ w14 ⟨c13, rfl, rfl, F14⟩
    obtain ⟨o16, k16, w16, hr16, F16⟩ := push_bytes (ty := tSlU8) (k2 := k) F14 (hr.mod' F14.mod) (by omega)
    rw [← headed_eq] at F16
    have hlh : (headOf bs leaf).length + bs.length = (headed bs leaf).length := by rw [headed_eq, List.length_append]
    rw [hlh] at hr16 F16
    refine ⟨_, w16, hr16, _, _, _, rfl, ?_⟩
    obtain ⟨N, hN⟩ := headed_even bs leaf
    have hrh := fresh_bytes F16
    generalize headed bs leaf = H at *
    refine ⟨fun o' l' k' i w' => ∃ j : Nat, i = ((2 * j : Nat) : Int) ∧ j ≤ N ∧ l' = (pairs (H.take (2 * j))).length ∧ Fresh w16 w' tU8 1 o' l' k' ((pairs (H.take (2 * j))).map bV), fun _ _ _ i _ => ((H.length : Int) - i).toNat,
      ⟨0, rfl, Nat.zero_le _, rfl, Fresh.nil (Mod.refl w16) _ _⟩, ?_⟩
    rintro o' _ k' _ _ w23 ⟨j, rfl, hj, rfl, F⟩
    refine ⟨fun hlt => ?_, fun hge => ?_⟩
    · rintro _ rfl
      have h1 : 2 * j < H.length := by omega
      have h2 : 2 * j + 1 < H.length := by omega
      have F24 := F.mod' (Mod.drew (S := NoB) w23)
      obtain ⟨b, f, rfl, hb, hc1⟩ := rdb_get hrh h1
      obtain ⟨b', f', hb', _, hc2⟩ := rdb_get hrh h2
      cases hb'
      have e1 : IntKind.wrap .i64 (((2 * j : Nat) : Int) + 1) = ((2 * j + 1 : Nat) : Int) := by rw [wrap_i64_small (by omega) (by omega)]; omega
      have e2 : IntKind.wrap .i64 (((2 * j : Nat) : Int) + 2) = ((2 * (j + 1) : Nat) : Int) := by rw [wrap_i64_small (by omega) (by omega)]; omega
      rw [e1, e2]
      refine ⟨_, rfl, by omega, _, by rw [add_at, Int.toNat_natCast]; exact (cell_mod F24.mod hb (fun h => h)).trans hc1, _, rfl, by omega, _, by rw [add_at, Int.toNat_natCast]; exact (cell_mod F24.mod hb (fun h => h)).trans hc2, ?_⟩
      rw [shl4, bitsI_or_u8]
      rintro d29 w30 ⟨rfl, rfl⟩
      have htk : H.take (2 * (j + 1)) = H.take (2 * j) ++ [H[2 * j], H[2 * j + 1]] := by
        rw [show 2 * (j + 1) = 2 * j + 1 + 1 by omega, List.take_add_one, List.take_add_one, List.getElem?_eq_getElem h1, List.getElem?_eq_getElem h2, List.append_assoc]; rfl
      have htl : (H.take (2 * j)).length = 2 * j := by rw [List.length_take]; omega
      have hps := pairs_snoc j (H.take (2 * j)) H[2 * j] H[2 * j + 1] htl
      have hpl := pairs_len j (H.take (2 * j)) htl
      have one : RdB (w23.drew.alloc (.cells #[.int .u8 ((H[2 * j] <<< 4 ||| H[2 * j + 1]).toNat : Int)] 5)) (some ⟨w23.drew.heap.size, 0, none⟩) [H[2 * j] <<< 4 ||| H[2 * j + 1]] :=
        RdB.of_blk (Blk.new w23.drew 5 #[bV (H[2 * j] <<< 4 ||| H[2 * j + 1])]) (fun i hi => by
          obtain rfl : i = 0 := by simpa using hi
          rfl)
      obtain ⟨o31, k31, w31, hr31, F31⟩ := push_bytes (ty := tSlU8) (k2 := 1) (F24.mod' (Mod.alloc _ _)) one (by simp; omega)
      refine ⟨_, w31, hr31, _, _, _, rfl, ⟨j + 1, rfl, by omega, ?_, ?_⟩, by dsimp only; omega⟩
      · rw [htk, hps, List.length_append]
      · rw [htk, hps]; exact F31
    · obtain rfl : j = N := by omega
      rw [List.take_of_length_le (by omega)] at F ⊢
      exact hR _ _ ⟨_, _, rfl, Fresh.from_ F F16.mod⟩
end Go.Proofs.Ytfghidehlnfdiaa
end
section
namespace Go.Trie
def digitsF : Nat → Nat → By
  | 0, _ => []
  | f + 1, n => if n = 0 then [] else digitsF f (n / 256) ++ [UInt8.ofNat n]
def digits (n : Nat) : By := digitsF 8 n
def head (n base : Nat) : By := if n ≤ 55 then [UInt8.ofNat (base + n)] else UInt8.ofNat (base + 55 + (digits n).length) :: digits n
def own : By → Bool
  | [a] => decide (a < 128)
  | _ => false
mutual
def enc : It → By
  | .s b => if own b then b else head b.length 128 ++ b
  | .l xs => head (encs xs).length 192 ++ encs xs
def encs : List It → By
  | [] => []
  | x :: r => enc x ++ encs r
end
theorem digitsF_le : ∀ (f n : Nat), (digitsF f n).length ≤ f
  | 0, _ => by simp [digitsF]
  | f + 1, n => by
    have := digitsF_le f (n / 256)
    simp only [digitsF]
    split
    · simp
    · rw [List.length_append]; simp; omega
theorem digits_le (n : Nat) : (digits n).length ≤ 8 := digitsF_le 8 n
end Go.Trie
namespace Go.Proofs.Ytfghidehlnfdiaa
open Go Go.Vcg Go.Trie
theorem und_u8 : Try.prog.underlying 5 = some (.int .u8) := by kernel_rfl
theorem und_str : Try.prog.underlying 9 = some .string := by kernel_rfl
theorem Equal_calls {w : World} {o1 o2 : Option Addr} {k1 k2 : Nat} {a b : List UInt8} (h1 : RdB w o1 a) (h2 : RdB w o2 b) :
    Calls Try.prog bytes_Equal.n #[.slice o1 a.length k1, .slice o2 b.length k2] w (fun e w' => e = .returned (.bool (decide (a = b))) ∧ w' = w) := by
  refine bytes_Equal.vc _ _ _ _ _ _ _ _ ?_
  unfold bytes_Equal.Vc
  refine ⟨_, run_toStr und_slU8 und_u8 und_str h1, _, rfl, _, run_toStr und_slU8 und_u8 und_str h2, _, rfl, ?_, rfl⟩
  rw [strB_strOf]
theorem HasPrefix_calls {w : World} {o1 o2 : Option Addr} {k1 k2 : Nat} {a b : List UInt8} (h1 : RdB w o1 a) (hk : a.length ≤ k1) (h2 : RdB w o2 b) :
    Calls Try.prog bytes_HasPrefix.n #[.slice o1 a.length k1, .slice o2 b.length k2] w (fun e w' => e = .returned (.bool (b.isPrefixOf a)) ∧ w' = w) := by
  refine bytes_HasPrefix.vc _ _ _ _ _ _ _ _ ?_
  unfold bytes_HasPrefix.Vc
  refine ⟨fun hge => ⟨by omega, ?_⟩, fun hlt => ⟨?_, rfl⟩⟩
  · rw [Int.toNat_natCast]
    have hl : (a.take b.length).length = b.length := by rw [List.length_take]; omega
    have hc := Equal_calls (k1 := k1) (k2 := k2) (h1.take b.length) h2
    rw [hl] at hc
    refine hc.mono ?_
    rintro _ w' ⟨rfl, rfl⟩
    refine ⟨_, rfl, ?_, rfl⟩
    congr 2
    rw [Bool.eq_iff_iff, decide_eq_true_eq, List.isPrefixOf_iff_prefix, List.prefix_iff_eq_take]
    exact ⟨fun h => h.symm, fun h => h.symm⟩
  · congr 2
    symm
    rw [Bool.eq_false_iff]
    intro h
    have := (List.isPrefixOf_iff_prefix.1 h).length_le
    omega
theorem own_calls {w : World} {o : Option Addr} {k : Nat} {b : List UInt8} (h : RdB w o b) :
    Calls Try.prog rlp_own.n #[.slice o b.length k] w (fun e w' => e = .returned (.bool (own b)) ∧ w' = w) := by
  refine rlp_own.vc _ _ _ _ _ ?_
  unfold rlp_own.Vc
  refine ⟨fun h1 => ?_, fun h1 => ⟨?_, rfl⟩⟩
  · obtain ⟨a, rfl⟩ : ∃ a, b = [a] := List.length_eq_one_iff.1 (by omega)
    obtain ⟨B, f, rfl, hB, hc⟩ := rdb_get h (i := 0) (by simp)
    have h2 : a < 128 ↔ a.toNat < 128 := by
      have : ∀ n : Fin 256, (UInt8.ofFin n < 128 ↔ (UInt8.ofFin n).toNat < 128) := by decide +kernel
      exact this a.toFin
    have h3 : decide ((a.toNat : Int) < 128) = own [a] := by
      show _ = decide (a < 128)
      rw [Bool.eq_iff_iff, decide_eq_true_eq, decide_eq_true_eq, h2]
      omega
    rw [← h3]
    exact ⟨_, rfl, by omega, _, by rw [add_at]; exact hc, rfl, rfl⟩
  · have : own b = false := by
      unfold own
      split
      · simp at h1
      · rfl
    rw [this]
theorem one_byte (w : World) (a : UInt8) {n : Int} (hn : n = (a.toNat : Int)) : Fresh w (w.alloc (.cells #[.int .u8 n] 5)) tU8 1 (some ⟨w.heap.size, 0, none⟩) 1 1 ([a].map bV) := by
  subst hn
  exact fresh_blk w [a] #[bV a] rfl (by simp [maxLen])
theorem wrap_u8_nat (n : Nat) : IntKind.wrap .u8 (n : Int) = ((UInt8.ofNat n).toNat : Int) := by
  rw [UInt8.toNat_ofNat']
  show (n : Int) % 256 = _
  omega
theorem digits_calls {w : World} (N : Nat) (hN : N < 2 ^ 63) :
    Calls Try.prog rlp_digits.n #[.int .u64 (N : Int)] w (fun e w' => ∃ o k, e = .returned (.slice o (digits N).length k) ∧ Fresh w w' tU8 1 o (digits N).length k ((digits N).map bV)) := by
  refine rlp_digits.vc _ _ _ ?_
  unfold rlp_digits.Vc
  refine ⟨fun n o l k w' => ∃ (f m : Nat) (row : By), n = (m : Int) ∧ m < 256 ^ f ∧ f ≤ 8 ∧ digits N = digitsF f m ++ row ∧ l = row.length ∧ Fresh w w' tU8 1 o l k (row.map bV), fun n _ _ _ _ => n.toNat,
    ⟨8, N, [], rfl, by omega, Nat.le_refl _, by rw [List.append_nil]; rfl, rfl, Fresh.nil (Mod.refl w) _ _⟩, ?_⟩
  rintro _ o _ k _ w1 ⟨f, m, row, rfl, hm, hf, hd, rfl, F⟩
  have hlen := digits_le N
  rw [hd, List.length_append] at hlen
  refine ⟨fun hpos => ?_, fun hz => ?_⟩
  · rintro d w2 ⟨rfl, rfl⟩
    cases f with
    | zero => simp at hm; omega
    | succ g =>
      have hM := Mod.alloc (S := NoB) w1 (.cells #[.int .u8 (IntKind.wrap .u8 (m : Int))] 5)
      have F1 := one_byte w1 (UInt8.ofNat m) (n := IntKind.wrap .u8 (m : Int)) (wrap_u8_nat m)
      obtain ⟨o3, k3, w3, hr3, F3⟩ := push_bytes (ty := tSlU8) (k2 := k) F1 ((fresh_bytes F).mod' hM) (by omega)
      have hstep : digitsF (g + 1) m = digitsF g (m / 256) ++ [UInt8.ofNat m] := by
        simp only [digitsF]; rw [if_neg (by omega)]
      have hfd : Int.fdiv (m : Int) 256 = ((m / 256 : Nat) : Int) := by
        rw [Int.fdiv_eq_ediv_of_nonneg _ (by omega)]; omega
      rw [hfd]
      refine ⟨_, w3, hr3, _, _, _, rfl, ⟨g, m / 256, UInt8.ofNat m :: row, rfl, ?_, by omega, ?_, ?_, ?_⟩, ?_⟩
      · rw [Nat.pow_succ] at hm
        exact Nat.div_lt_of_lt_mul (by rw [Nat.mul_comm]; exact hm)
      · rw [hd, hstep, List.append_assoc]; rfl
      · simp; omega
      · exact Fresh.from_ F3 F.mod
      · dsimp only; omega
  · have hm0 : m = 0 := by omega
    subst hm0
    have h0 : digitsF f 0 = [] := by cases f <;> simp [digitsF]
    rw [h0, List.nil_append] at hd
    rw [hd]
    exact ⟨_, _, rfl, F⟩
theorem head_calls {w : World} (n base : Nat) (hn : n < 2 ^ 31) (hb : base ≤ 192) :
    Calls Try.prog rlp_head.n #[.int .i64 (n : Int), .int .i64 (base : Int)] w (fun e w' => ∃ o k, e = .returned (.slice o (Trie.head n base).length k) ∧ Fresh w w' tU8 1 o (Trie.head n base).length k ((Trie.head n base).map bV)) := by
  refine rlp_head.vc _ _ _ _ ?_
  unfold rlp_head.Vc
  refine ⟨fun hs => ?_, fun hs => ?_⟩
  · rintro d w2 ⟨rfl, rfl⟩
    have e : Trie.head n base = [UInt8.ofNat (base + n)] := by unfold Trie.head; rw [if_pos (by omega)]
    have ew : IntKind.wrap .i64 ((base : Int) + (n : Int)) = ((base + n : Nat) : Int) := by rw [wrap_i64_small (by omega) (by omega)]; omega
    rw [e, ew]
    exact ⟨_, _, rfl, one_byte w _ (wrap_u8_nat _)⟩
  · have e : Trie.head n base = UInt8.ofNat (base + 55 + (digits n).length) :: digits n := by unfold Trie.head; rw [if_neg (by omega)]
    have ew : IntKind.wrap .u64 (n : Int) = (n : Int) := by
      show (n : Int) % 18446744073709551616 = _
      omega
    rw [ew]
    refine (digits_calls n (by omega)).mono ?_
    rintro _ w2 ⟨o, k, rfl, F⟩
    have hdl := digits_le n
    refine ⟨_, _, _, rfl, ?_⟩
    rintro d w3 ⟨rfl, rfl⟩
    have ew2 : IntKind.wrap .i64 (IntKind.wrap .i64 ((base : Int) + 55) + (((digits n).length : Nat) : Int)) = ((base + 55 + (digits n).length : Nat) : Int) := by
      rw [wrap_i64_small (n := (base : Int) + 55) (by omega) (by omega), wrap_i64_small (by omega) (by omega)]; omega
    rw [ew2]
    obtain ⟨o4, k4, w4, hr4, F4⟩ := push_bytes (ty := tSlU8) (k2 := k) (one_byte w2 _ (wrap_u8_nat (base + 55 + (digits n).length))) ((fresh_bytes F).mod' (Mod.alloc _ _)) (by omega)
    refine ⟨_, w4, hr4, _, _, _, rfl, o4, k4, ?_, ?_⟩
    · rw [e, List.length_cons, Nat.add_comm]
    · rw [e, List.length_cons, Nat.add_comm]
      exact Fresh.from_ F4 F.mod
end Go.Proofs.Ytfghidehlnfdiaa
end
