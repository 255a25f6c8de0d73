/- Contracts: Little; the hash out of a sponge. -/
import Derived.Test.YtmnhdppcphficaaKC7
set_option linter.unusedVariables false
set_option linter.unusedSimpArgs false
namespace Go.Proofs.Ytmnhdppcphficaa
open Go Go.Vcg

theorem Little_calls {w : World} {o : Option Addr} {l c : Nat} {bs : List UInt8} {n1 n2 : Int} (x : BitVec 64) (k : Nat) (h1 : n1 = uI x) (h2 : n2 = (k : Int)) (hk : k ≤ 8) (hO : Own w tU8 1 o l c (bs.map bV)) (hl : l ≤ 2 ^ 40) :
    Calls Try.prog plain_Little.n #[.slice o l c, .int .u64 n1, .int .i64 n2] w (fun e w' => ∃ o' c', e = .returned (.slice o' (l + k) c') ∧ Own w' tU8 1 o' (l + k) c' ((bs ++ leL x k).map bV) ∧ Vcg.Mod (OB o) w w' ∧ ∀ i, OB o' i → OB o i ∨ w.heap.size ≤ i) := by
  subst h1 h2
  refine plain_Little.vc _ _ _ _ _ _ _ ?_
  unfold plain_Little.Vc
  refine ⟨fun o' l' c' n w' => ∃ i : Nat, n = i ∧ i ≤ k ∧ l' = l + i ∧ Own w' tU8 1 o' l' c' ((bs ++ leL x i).map bV) ∧ Vcg.Mod (OB o) w w' ∧ ∀ i, OB o' i → OB o i ∨ w.heap.size ≤ i,
    fun _ _ _ n _ => ((k : Int) - n).toNat, ⟨0, rfl, by omega, rfl, by simpa [leL] using hO, Mod.refl w, fun i h => .inl h⟩, ?_⟩
  rintro o' _ c' _ _ w1 ⟨i, rfl, hi, rfl, hO1, M1, hF⟩
  refine ⟨fun hlt => ?_, fun hge => ?_⟩
  · have e1 : IntKind.wrap .i64 (8 * (i : Int)) = ((8 * i : Nat) : Int) := by rw [wrap_i64_small (by omega) (by omega)]; omega
    rw [e1, shrI_u _ _ _ rfl, wrap_u8_word]
    refine ⟨by omega, ?_⟩
    rintro d7 w8 ⟨rfl, rfl⟩
    have hB := Blk.new w1 tU8 #[bV (leByte x i)]
    have hO2 := hO1.mod' (Mod.alloc w1 (.cells #[bV (leByte x i)] tU8))
    have hsrc := src_one (P := Try.prog) (tx := tSlU8) und_slU8 hB (sz := 1) rfl (by intro v hv; simp at hv; subst hv; rfl)
    obtain ⟨o2, c2, w2, h2, hO3, M2, hF2⟩ := append_u8 (ty := tSlU8) hO2 hsrc (by omega)
    refine ⟨_, w2, h2, _, _, _, rfl, ⟨i + 1, by rw [wrap_i64_small (by omega) (by omega)]; omega, by omega, rfl, ?_, ?_, ?_⟩, by dsimp only; rw [wrap_i64_small (by omega) (by omega)]; omega⟩
    · rw [leL_succ, ← List.append_assoc, List.map_append]
      exact hO3
    · exact (M1.step_alloc _).trans M2 (fun j hj h => (hF j h).elim id (fun h => by omega))
    · intro j hj
      rcases hF2 j hj with h | h
      · exact hF j h
      · right; rw [size_alloc] at h; have := M1.size; omega
  · obtain rfl : i = k := by omega
    exact ⟨o', c', rfl, hO1, M1, hF⟩

theorem or_u8 (a : UInt8) : bitsI .or .u8 (a.toNat : Int) 128 = ((a ||| 128 : UInt8).toNat : Int) := bitsI_or_u8 a 128
theorem hashA_one (h : List UInt8) : ∀ v ∈ (hashA h).toList, v.oneCell' = true := arrOf_one (fun _ => rfl)
theorem size_hashA (h : List UInt8) : (hashA h).size = 32 := size_arrOf _ _

/-- The hash's bytes are laid into the array that is handed back. -/
theorem out_tail {w w1 : World} {s : St} {Q N : Nat} {R : Ending → World → Prop} (M : Vcg.Mod NoB w w1) (hN : w.heap.size = N)
    (B0 : Blk w1 N tHash (Array.replicate 32 (.int .u8 0))) (BQ : Blk w1 Q tState (lanesA s)) (hQ : N < Q)
    (hR : ∀ w', Vcg.Mod NoB w w' → R (.returned (.agg (arrOf 32 (fun i => bV (outAt s i))))) w') :
    ∀ (d23 : Addr) (w24 : World), IsNew w1 tHash (Array.replicate 32 (.int .u8 0)) d23 w24 →
     ∃ (I25 : Int → World → Prop) (μ25 : Int → World → Nat), I25 0 w24 ∧
     (∀ (n26 : Int) (j27 : Nat → Value) (w27 : World), I25 n26 w27 →
       (((n26 < 4 →
         ∀ w28 : World, IsDrew w27 w28 →
         (0 ≤ (IntKind.wrap .i64 (8 * n26)) ∧ (IntKind.wrap .i64 (8 * n26)) ≤ ((32 : Nat) : Int)) ∧
         (0 ≤ n26 ∧ n26 < ((25 : Nat) : Int)) ∧
         ∃ n29 : Int, World.cell? w28 (Addr.add ⟨Q, 0, none⟩ (Int.toNat n26)) = some (.int .u64 n29) ∧
         Calls Try.prog plain_Little.n #[(.slice none 0 0), (.int .u64 n29), (.int .i64 8)] w28 (fun e30 w31 =>
           ∃ o32 : Option Addr, ∃ l33 : Nat, ∃ l34 : Nat, e30 = .returned (.slice o32 l33 l34) ∧
           ∃ (v35 : Value) (w36 : World), Sem.run Try.prog (builtinV .copy #[tSlU8, tSlU8] 3 #[(.slice (some (subD d23 32 (Int.toNat (IntKind.wrap .i64 (8 * n26))) 1)) (32 - (Int.toNat (IntKind.wrap .i64 (8 * n26)))) (32 - (Int.toNat (IntKind.wrap .i64 (8 * n26))))), (.slice o32 l33 l34)]) w31 = .ok v35 w36 ∧
           ∃ n37 : Int, v35 = (.int .i64 n37) ∧
           I25 (IntKind.wrap .i64 (n26 + 1)) w36 ∧ μ25 (IntKind.wrap .i64 (n26 + 1)) w36 < μ25 n26 w27))) ∧
        ((¬ n26 < 4 →
         ∃ L38 : Array Value, RowAt w27 d23 32 L38 ∧
         ∃ w39 : World, Sem.run Try.prog (Instr.storeAt tHash (.pointer (some ⟨N, 0, none⟩)) (.agg L38)) w27 = .ok () w39 ∧
         ∃ L40 : Array Value, RowAt w39 ⟨N, 0, none⟩ 32 L40 ∧
         R (.returned (.agg L40)) w39)))) := by
  rintro d23 w24 ⟨rfl, rfl⟩
  have hQl := BQ.lt
  have BT := Blk.new w1 tHash (Array.replicate 32 (.int .u8 0))
  replace B0 := B0.alloc (.cells (Array.replicate 32 (.int .u8 0)) tHash)
  replace BQ := BQ.alloc (.cells (Array.replicate 32 (.int .u8 0)) tHash)
  replace M := M.step_alloc (.cells (Array.replicate 32 (.int .u8 0)) tHash)
  generalize w1.alloc (.cells (Array.replicate 32 (.int .u8 0)) tHash) = w2 at *
  generalize w1.heap.size = T at *
  refine loopN 4 (fun i w' => Vcg.Mod NoB w w' ∧ Blk w' N tHash (Array.replicate 32 (.int .u8 0)) ∧ Blk w' Q tState (lanesA s) ∧ Blk w' T tHash (arrOf 32 (fun j => bV (if j < 8 * i then outAt s j else 0)))) rfl
    ⟨M, B0, BQ, by rw [replicate_arrOf] at BT; simp only [Nat.mul_zero, Nat.not_lt_zero, if_false]; exact BT⟩ ?_ ?_
  · clear M B0 BQ BT
    rintro i _ w3 hi ⟨M, B0, BQ, BT⟩
    rintro _ rfl
    have e1 : IntKind.wrap .i64 (8 * (i : Int)) = ((8 * i : Nat) : Int) := by rw [wrap_i64_small (by omega) (by omega)]; omega
    rw [e1]
    refine ⟨by omega, by omega, _, BQ.drew.rd0 (get_lanesA _ (by omega)), (Little_calls (bs := []) (s i) 8 rfl rfl (by omega) (Own.nil _ _ _) (by omega)).mono ?_⟩
    rintro _ w4 ⟨o4, c4, rfl, hO4, M4, hF4⟩
    have M4' : Vcg.Mod NoB w3.drew w4 := M4.mono (fun k _ h => OB_none k h)
    have BT4 := BT.drew.mod' M4'
    obtain ⟨w5, h5, BT5, M5⟩ := copy_blk (P := Try.prog) (tx := tSlU8) (ty := 3) (o := 8 * i) (dLen := 32 - 8 * i) (dCap := 32 - 8 * i) (c := c4) (n := 8) und_slU8 info_u8_size BT4 hO4.bytes
      (by rw [List.nil_append, length_leL]; exact (Nat.min_eq_left (by omega)).symm) (by rw [size_arrOf]; omega)
    rw [List.nil_append, length_leL] at h5
    rw [Int.toNat_natCast (8 * i), subD, if_neg (by omega), add_at, Nat.mul_one, Nat.zero_add (8 * i)]
    refine ⟨_, _, _, rfl, _, w5, h5, _, rfl, UpTo.next (by rw [wrap_i64_small (by omega) (by omega)]; omega) hi ⟨((M.step_drew).none_trans M4').trans M5 (fun j hj h => by simp only [hN] at hj; omega), (B0.drew.mod' M4').mod M5 (by omega), (BQ.drew.mod' M4').mod M5 (by omega), ?_⟩⟩
    rw [List.nil_append, List.take_of_length_le (by rw [length_leL]; omega), setsAt_arrOf 32 (8 * i) _ (fun j => bV (leByte (s i) j)) 8 _ (by rw [List.length_map, length_leL]) (fun j hj => by
      rw [map_bV_get (by rw [length_leL]; exact hj)]
      simp [leL, List.getD_eq_getElem?_getD, hj]) (by omega)] at BT5
    refine (show _ = arrOf 32 (fun j => bV (if j < 8 * (i + 1) then outAt s j else 0)) from arrOf_congr (fun j hj => ?_)) ▸ BT5
    by_cases h1 : 8 * i ≤ j ∧ j < 8 * i + 8
    · rw [if_pos h1, if_pos (by omega), outAt, leByte, show j / 8 = i by omega, show j % 8 = j - 8 * i by omega]
    · rw [if_neg h1]
      by_cases h2 : j < 8 * i
      · rw [if_pos h2, if_pos (by omega)]
      · rw [if_neg h2, if_neg (by omega)]
  · clear M B0 BQ BT
    rintro _ w3 ⟨M, B0, BQ, BT⟩
    have e : arrOf 32 (fun j => bV (if j < 8 * 4 then outAt s j else 0)) = arrOf 32 (fun i => bV (outAt s i)) := arrOf_congr (fun i hi => by rw [if_pos (by omega)])
    rw [e] at BT
    exact ⟨_, BT.rowAll (size_arrOf _ _), _, B0.storeAll (L := arrOf 32 (fun i => bV (outAt s i))) (by rw [size_arrOf]; kernel_rfl) (by rw [size_arrOf, Array.size_replicate]) (arrOf_one (fun _ => rfl)), _, (B0.row_same _).rowAll (size_arrOf _ _), hR _ (M.step_row (fun h => by omega))⟩

theorem SpSum_calls {w : World} {b : Nat} {o : Option Addr} {m : List UInt8} (hS : SpongeAt w b o m) :
    Calls Try.prog keccak_Sponge_Sum.n #[.pointer (some ⟨b, 0, none⟩)] w (fun e w' => e = .returned (.agg (hashA (sumOf m))) ∧ Vcg.Mod NoB w w') := by
  obtain ⟨l, c, hB, hO, hn⟩ := hS
  refine keccak_Sponge_Sum.vc _ _ _ ?_
  unfold keccak_Sponge_Sum.Vc
  simp only [add_at, Nat.zero_add]
  rintro d1 w2 ⟨rfl, rfl⟩ d3 w4 ⟨rfl, rfl⟩ _ rfl
  have hbl := hB.lt
  have B1 := ((Blk.new w tHash (Array.replicate 32 (.int .u8 0))).alloc (.cells (Array.replicate 136 (.int .u8 0)) tLast)).drew
  have B3 := (Blk.new (w.alloc (.cells (Array.replicate 32 (.int .u8 0)) tHash)) tLast (Array.replicate 136 (.int .u8 0))).drew
  have M := ((Mod.alloc (S := NoB) w (.cells (Array.replicate 32 (.int .u8 0)) tHash)).step_alloc (.cells (Array.replicate 136 (.int .u8 0)) tLast)).step_drew
  have hB1 := hB.mod' M
  have hO1 := hO.mod' M
  simp only [size_alloc] at B3 ⊢
  generalize ((w.alloc (.cells (Array.replicate 32 (.int .u8 0)) tHash)).alloc (.cells (Array.replicate 136 (.int .u8 0)) tLast)).drew = w5 at *
  generalize hNe : w.heap.size = N at *
  have hrl : (restOf m).length = l := by have := hO.len; simpa using this
  have hlt := restOf_lt m
  obtain ⟨w6, h6, B6, M6⟩ := copy_blk (P := Try.prog) (tx := tSlU8) (ty := 3) (o := 0) (dLen := 136) (dCap := 136) (c := c) (n := (restOf m).length) und_slU8 info_u8_size B3 hO1.bytes
    (Nat.min_eq_left (by omega)).symm (by rw [Array.size_replicate]; omega)
  rw [List.take_of_length_le (Nat.le_refl _), replicate_arrOf, setsAt_arrOf 136 0 _ (fun j => bV ((restOf m).getD j 0)) (restOf m).length _ (by rw [List.length_map]) (fun j hj => map_bV_get hj) (by omega)] at B6
  rw [hrl] at h6 B6
  refine ⟨_, _, _, rest_of_sponge hB1, _, w6, h6, _, rfl, by omega, B6.canSet0 (by rw [size_arrOf]; omega) rfl, fun w7 h7 => ?_⟩
  have h7' := h7.at
  subst h7'
  clear h7
  simp only [add_at, Nat.zero_add]
  have B7 := B6.set l (bV 1)
  rw [set_arrOf] at B7
  have M7 := M6.trans (Mod.setCell w6 ⟨N + 1, l, none⟩ (.int .u8 1)) (fun i _ h => h)
  have e7 : (arrOf 136 fun j => if j = l then bV 1 else if 0 ≤ j ∧ j < 0 + l then bV ((restOf m).getD (j - 0) 0) else .int .u8 0) = arrOf 136 (fun j => bV (if j < l then (restOf m).getD j 0 else if j = l then 1 else 0)) :=
    arrOf_congr (fun j hj => by
      by_cases h1 : j = l
      · rw [if_pos h1, if_neg (by omega), if_pos h1]
      · rw [if_neg h1]
        by_cases h2 : j < l
        · rw [if_pos (by omega), if_pos h2, Nat.sub_zero]
        · rw [if_neg (by omega), if_neg h2, if_neg h1]; rfl)
  rw [e7] at B7
  refine ⟨_, B7.rd1 (get_arrOf_lt (by omega)), B7.canSet (by rw [size_arrOf]; omega) rfl, ?_⟩
  rintro _ rfl
  rw [or_u8]
  have B8 := B7.set 135 (bV ((if 135 < l then (restOf m).getD 135 0 else if 135 = l then 1 else 0) ||| 128))
  rw [set_arrOf] at B8
  have e8 : (arrOf 136 fun j => if j = 135 then bV ((if 135 < l then (restOf m).getD 135 0 else if 135 = l then 1 else 0) ||| 128) else bV (if j < l then (restOf m).getD j 0 else if j = l then 1 else 0)) = arrOf 136 (fun j => bV (padAt (restOf m) j)) :=
    arrOf_congr (fun j hj => by
      unfold padAt
      rw [hrl]
      by_cases h1 : j = 135
      · subst h1; rw [if_pos rfl, if_pos rfl]
      · rw [if_neg h1, if_neg h1]; congr 2; simp)
  rw [e8] at B8
  change Blk ((w6.setCell ⟨N + 1, l, none⟩ (.int .u8 1)).setCell ⟨N + 1, 135, none⟩ (bV ((if 135 < l then (restOf m).getD 135 0 else if 135 = l then 1 else 0) ||| 128))) _ _ _ at B8
  have M8 := M7.trans (Mod.setCell _ ⟨N + 1, 135, none⟩ (bV ((if 135 < l then (restOf m).getD 135 0 else if 135 = l then 1 else 0) ||| 128))) (fun i _ h => h)
  have hq : N < w5.heap.size := B1.lt
  have hq3 : N + 1 < w5.heap.size := B3.lt
  have B18 := B1.mod M8 (by omega)
  have hB8 := hB1.mod M8 (by omega)
  have Mw8 := M.trans M8 (fun i hi h => by simp only [hNe] at hi; omega)
  have hs8 := M8.size
  generalize ((w6.setCell ⟨N + 1, l, none⟩ (.int .u8 1)).setCell ⟨N + 1, 135, none⟩ (bV ((if 135 < l then (restOf m).getD 135 0 else if 135 = l then 1 else 0) ||| 128))) = w8 at *
  have hlast : ∀ w', Blk w' (N + 1) tLast (arrOf 136 (fun j => bV (padAt (restOf m) j))) → RdB w' (some ⟨N + 1, 0, none⟩) (padB (restOf m)) := fun w' h =>
    RdB.of_blk h (fun i hi => by rw [length_padB] at hi; rw [Nat.zero_add, get_arrOf_lt hi, getD_padB _ hi])
  have hfin : ∀ w', Vcg.Mod NoB w w' → (fun e w' => e = Ending.returned (.agg (hashA (sumOf m))) ∧ Vcg.Mod NoB w w') (.returned (.agg (arrOf 32 (fun i => bV (outAt (lastS m) i))))) w' := fun w' h => by
    refine ⟨?_, h⟩
    have : hashA (sumOf m) = arrOf 32 (fun i => bV (outAt (lastS m) i)) := arrOf_congr (fun i hi => by rw [getD_sumOf m hi])
    rw [this]
  rintro _ rfl
  refine ⟨_, lanes_of_sponge hB8.drew, ?_, ?_⟩
  · refine (absorb_calls (stOf m) b 0 (plan_of_sponge hB8.drew) (padB (restOf m)) (length_padB _) rfl (Nat.le_refl _) (hlast _ B8.drew)).mono ?_
    rintro _ w9 ⟨rfl, M9⟩
    refine ⟨_, rfl, ?_⟩
    rintro d20 w21 ⟨rfl, rfl⟩
    have BQ := Blk.new w9 tState (Array.replicate 25 (.int .u64 0))
    have hs9 := M9.size
    have hs9' := (B18.drew.mod' M9).lt
    refine ⟨_, BQ.storeAll (L := lanesA (lastS m)) (by rw [size_lanesA]; kernel_rfl) (by rw [size_lanesA, Array.size_replicate]) (lanesA_one _), ?_⟩
    exact out_tail (s := lastS m) (R := fun e w' => e = Ending.returned (.agg (hashA (sumOf m))) ∧ Vcg.Mod NoB w w') (((Mw8.step_drew).none_trans M9).step_alloc _ |>.step_row (fun h => by omega)) hNe (((B18.drew.mod' M9).alloc _).row_ne (by omega)) (BQ.row_same _) (by omega) hfin
  · rintro d41 w42 ⟨rfl, rfl⟩
    have BQ := Blk.new w8.drew tState (Array.replicate 25 (.int .u64 0))
    have hB9 := hB8.drew.alloc (.cells (Array.replicate 25 (.int .u64 0)) tState)
    refine ⟨lanes_of_sponge hB9, (absorb_calls (stOf m) b 0 (plan_of_sponge hB9) (padB (restOf m)) (length_padB _) rfl (Nat.le_refl _) (hlast _ (B8.drew.alloc _))).mono ?_⟩
    rintro _ w9 ⟨rfl, M9⟩
    have hs9' := (B18.drew).lt
    refine ⟨_, rfl, _, (BQ.mod' M9).storeAll (L := lanesA (lastS m)) (by rw [size_lanesA]; kernel_rfl) (by rw [size_lanesA, Array.size_replicate]) (lanesA_one _), ?_⟩
    have hsz : w8.drew.heap.size = w8.heap.size := rfl
    exact out_tail (s := lastS m) (R := fun e w' => e = Ending.returned (.agg (hashA (sumOf m))) ∧ Vcg.Mod NoB w w') ((((Mw8.step_drew).step_alloc _).none_trans M9).step_row (fun h => by omega)) hNe (((B18.drew.alloc _).mod' M9).row_ne (by omega)) ((BQ.mod' M9).row_same _) (by omega) hfin

end Go.Proofs.Ytmnhdppcphficaa
