/- Contract: the document's permutation. -/
import Derived.Test.YtmnhdppcphficaaKC3
set_option linter.unusedVariables false
set_option linter.unusedSimpArgs false
namespace Go.Proofs.Ytmnhdppcphficaa
open Go Go.Vcg

theorem par_eq (s : St) (x : Nat) : par s x = s x ^^^ s (x + 5) ^^^ s (x + 10) ^^^ s (x + 15) ^^^ s (x + 20) := by
  simp [par, parK]

theorem refPermute_calls (w : World) (s : St) :
    Calls Try.prog moraineref3_Permute.n #[.agg (lanesA s)] w (fun e w' => e = .returned (.agg (lanesA (keccakF s))) ∧ Vcg.Mod NoB w w') := by
  refine moraineref3_Permute.vc _ _ _ ?_
  unfold moraineref3_Permute.Vc
  rintro d1 w2 ⟨rfl, rfl⟩ d3 w4 ⟨rfl, rfl⟩ d5 w6 ⟨rfl, rfl⟩
  have B1 := ((Blk.new w 40 (lanesA s)).alloc (.cells (Array.replicate 25 (.int .u64 0)) 40)).alloc (.cells (Array.replicate 25 (.int .i64 0)) 45)
  have B3 := (Blk.new (w.alloc (.cells (lanesA s) 40)) 40 (Array.replicate 25 (.int .u64 0))).alloc (.cells (Array.replicate 25 (.int .i64 0)) 45)
  have B5 := Blk.new ((w.alloc (.cells (lanesA s) 40)).alloc (.cells (Array.replicate 25 (.int .u64 0)) 40)) 45 (Array.replicate 25 (.int .i64 0))
  have M := ((Mod.alloc (S := NoB) w (.cells (lanesA s) 40)).step_alloc (.cells (Array.replicate 25 (.int .u64 0)) 40)).step_alloc (.cells (Array.replicate 25 (.int .i64 0)) 45)
  simp only [size_alloc] at B3 B5 ⊢
  generalize ((w.alloc (.cells (lanesA s) 40)).alloc (.cells (Array.replicate 25 (.int .u64 0)) 40)).alloc (.cells (Array.replicate 25 (.int .i64 0)) 45) = w6 at *
  generalize hNe : w.heap.size = N at *
  refine ⟨_, B5.storeAll (L := Array.replicate 25 (.int .i64 0)) (by rw [Array.size_replicate]; kernel_rfl) (by rw [Array.size_replicate]) (by rw [replicate_arrOf]; exact arrOf_one (fun _ => rfl)), ?_⟩
  replace B1 := B1.row_ne (g := N + 1 + 1) (c := Array.replicate 25 (.int .i64 0)) (by omega)
  replace B3 := B3.row_ne (g := N + 1 + 1) (c := Array.replicate 25 (.int .i64 0)) (by omega)
  replace B5 := B5.row_same (Array.replicate 25 (.int .i64 0))
  replace M := M.step_row (g := N + 1 + 1) (cs := Array.replicate 25 (.int .i64 0)) (fun h => by omega)
  generalize w6.setRow (N + 1 + 1) (Array.replicate 25 (.int .i64 0)) = w7 at *
  refine ⟨fun n5 n6 n7 w' => ∃ t : Nat, n7 = t ∧ t ≤ 24 ∧ n5 = ((xyOf t).1 : Nat) ∧ n6 = ((xyOf t).2 : Nat) ∧ Vcg.Mod NoB w w' ∧ Blk w' N 40 (lanesA s) ∧ Blk w' (N + 1) 40 (Array.replicate 25 (.int .u64 0)) ∧
    Blk w' (N + 1 + 1) 45 (arrOf 25 (fun i => .int .i64 (tarr t i : Int))), fun _ _ n _ => (24 - n).toNat, ⟨0, rfl, by omega, rfl, rfl, M, B1, B3, by rw [replicate_arrOf] at B5; exact B5⟩, ?_⟩
  clear M B1 B3 B5
  rintro _ _ _ _ w4 ⟨t, rfl, ht, rfl, rfl, M, B1, B3, B5⟩
  refine ⟨fun hlt => ?_, fun hge => ?_⟩
  · have hxy := xy_lt t (by omega)
    have ei : IntKind.wrap .i64 (((xyOf t).1 : Int) + IntKind.wrap .i64 (5 * ((xyOf t).2 : Int))) = (((xyOf t).1 + 5 * (xyOf t).2 : Nat) : Int) := by
      simp (disch := omega) only [wrap_i64_small]; omega
    rw [ei]
    refine ⟨by omega, B5.canSet0 (by simp; omega) rfl, fun w5 h5 => ?_⟩
    rw [h5.at]
    refine ⟨⟨t + 1, by rw [wrap_i64_small (by omega) (by omega)]; omega, by omega, rfl, ?_, M.step_set (fun h => by simp only [hNe] at h; omega), B1.set_ne (by simp; omega), B3.set_ne (by simp), ?_⟩, ?_⟩
    · simp only [xyOf]
      simp (disch := omega) only [tmod_nn, wrap_i64_small]; omega
    · have := B5.set ((xyOf t).1 + 5 * (xyOf t).2) (.int .i64 ((((t + 1) * (t + 2) / 2 % 64 : Nat)) : Int))
      rw [set_arrOf] at this
      rw [turn_num t (by omega)]
      refine (arrOf_congr (fun j hj => ?_)) ▸ this
      rw [tarr]
      dsimp only
      split <;> rfl
    · dsimp only
      rw [wrap_i64_small (n := (t : Int) + 1) (by omega) (by omega)]; omega
  obtain rfl : t = 24 := by omega
  have e : (arrOf 25 fun i => Value.int .i64 (tarr 24 i : Int)) = turnA := arrOf_congr (fun j hj => by rw [tarr_end j hj])
  rw [e] at B5
  clear e
  refine ⟨fun n15 n16 w' => ∃ r : Nat, n16 = r ∧ r ≤ 24 ∧ n15 = (regOf (7 * r) : Nat) ∧ Vcg.Mod NoB w w' ∧ Blk w' N 40 (lanesA (rnds r s)) ∧ Blk w' (N + 1) 40 (Array.replicate 25 (.int .u64 0)) ∧
    Blk w' (N + 1 + 1) 45 turnA, fun _ n _ => (24 - n).toNat, ⟨0, rfl, by omega, rfl, M, B1, B3, B5⟩, ?_⟩
  clear M B1 B3 B5
  rintro _ _ _ w1 ⟨r, rfl, hr, rfl, M, B1, B3, B5⟩
  refine ⟨fun hlt => ?_, fun hge => ?_⟩
  · rintro d18 w19 ⟨rfl, rfl⟩
    have hq : N + 1 + 1 < w1.heap.size := B5.lt
    have B7 := Blk.new w1 57 #[(.int .u64 0), (.int .u64 0), (.int .u64 0), (.int .u64 0), (.int .u64 0)]
    replace B1 := B1.alloc (.cells #[(.int .u64 0), (.int .u64 0), (.int .u64 0), (.int .u64 0), (.int .u64 0)] 57)
    replace B3 := B3.alloc (.cells #[(.int .u64 0), (.int .u64 0), (.int .u64 0), (.int .u64 0), (.int .u64 0)] 57)
    replace B5 := B5.alloc (.cells #[(.int .u64 0), (.int .u64 0), (.int .u64 0), (.int .u64 0), (.int .u64 0)] 57)
    replace M := M.step_alloc (.cells #[(.int .u64 0), (.int .u64 0), (.int .u64 0), (.int .u64 0), (.int .u64 0)] 57)
    generalize w1.alloc (.cells #[(.int .u64 0), (.int .u64 0), (.int .u64 0), (.int .u64 0), (.int .u64 0)] 57) = w2 at *
    generalize w1.heap.size = Q at *
    generalize hs' : rnds r s = s' at *
    have e5 : #[(.int .u64 0), (.int .u64 0), (.int .u64 0), (.int .u64 0), (.int .u64 0)] = arrOf 5 (fun i => uV (if i < 0 then par s' i else 0)) := by rfl
    rw [e5] at B7
    clear e5
    refine loopN 5 (fun x w' => Vcg.Mod NoB w w' ∧ Blk w' N 40 (lanesA s') ∧ Blk w' (N + 1) 40 (Array.replicate 25 (.int .u64 0)) ∧ Blk w' (N + 1 + 1) 45 turnA ∧
      Blk w' Q 57 (arrOf 5 (fun i => uV (if i < x then par s' i else 0)))) rfl ⟨M, B1, B3, B5, B7⟩ ?_ ?_
    · clear M B1 B3 B5 B7
      rintro x _ w3 hx ⟨M, B1, B3, B5, B7⟩
      rintro _ rfl
      have e5 : IntKind.wrap .i64 ((x : Int) + 5) = ((x + 5 : Nat) : Int) := by rw [wrap_i64_small (by omega) (by omega)]; omega
      have e10 : IntKind.wrap .i64 ((x : Int) + 10) = ((x + 10 : Nat) : Int) := by rw [wrap_i64_small (by omega) (by omega)]; omega
      have e15 : IntKind.wrap .i64 ((x : Int) + 15) = ((x + 15 : Nat) : Int) := by rw [wrap_i64_small (by omega) (by omega)]; omega
      have e20 : IntKind.wrap .i64 ((x : Int) + 20) = ((x + 20 : Nat) : Int) := by rw [wrap_i64_small (by omega) (by omega)]; omega
      rw [e5, e10, e15, e20]
      clear e5 e10 e15 e20
      refine ⟨by omega, _, B1.drew.rd0 (get_lanesA _ (by omega)), by omega, _, B1.drew.rd0 (get_lanesA _ (by omega)), by omega, _, B1.drew.rd0 (get_lanesA _ (by omega)), by omega, _, B1.drew.rd0 (get_lanesA _ (by omega)), by omega, _, B1.drew.rd0 (get_lanesA _ (by omega)), by omega, B7.drew.canSet0 (by simp; omega) rfl, fun w4 h4 => ?_⟩
      rw [h4.at, bitsI_xor, bitsI_xor, bitsI_xor, bitsI_xor, ← par_eq]
      refine UpTo.next (by rw [wrap_i64_small (by omega) (by omega)]; omega) hx ⟨(M.step_drew).step_set (fun h => by simp only [hNe] at h; omega), B1.drew.set_ne (by simp; omega), B3.drew.set_ne (by simp; omega), B5.drew.set_ne (by simp; omega), ?_⟩
      have := B7.drew.set x (uV (par s' x))
      rw [set_arrOf] at this
      refine (arrOf_congr (fun j hj => ?_)) ▸ this
      grind
    clear M B1 B3 B5 B7
    rintro _ w3 ⟨M, B1, B3, B5, B7⟩ d30 w31 ⟨rfl, rfl⟩
    have hq2 : Q < w3.heap.size := B7.lt
    have B8 := Blk.new w3 40 (Array.replicate 25 (.int .u64 0))
    replace B1 := B1.alloc (.cells (Array.replicate 25 (.int .u64 0)) 40)
    replace B3 := B3.alloc (.cells (Array.replicate 25 (.int .u64 0)) 40)
    replace B5 := B5.alloc (.cells (Array.replicate 25 (.int .u64 0)) 40)
    replace B7 := B7.alloc (.cells (Array.replicate 25 (.int .u64 0)) 40)
    replace M := M.step_alloc (.cells (Array.replicate 25 (.int .u64 0)) 40)
    have e7 : arrOf 5 (fun i => uV (if i < 5 then par s' i else 0)) = arrOf 5 (fun i => uV (par s' i)) := arrOf_congr (fun i hi => by rw [if_pos hi])
    rw [e7] at B7
    clear e7
    generalize w3.alloc (.cells (Array.replicate 25 (.int .u64 0)) 40) = w4 at *
    generalize w3.heap.size = T at *
    refine loopN 5 (fun x w' => Vcg.Mod NoB w w' ∧ Blk w' N 40 (lanesA s') ∧ Blk w' (N + 1) 40 (Array.replicate 25 (.int .u64 0)) ∧ Blk w' (N + 1 + 1) 45 turnA ∧
      Blk w' Q 57 (arrOf 5 (fun i => uV (par s' i))) ∧ Blk w' T 40 (arrOf 25 (fun j => uV (if (j % 5 + 3 * (j / 5)) % 5 < x then bbK s' j else 0)))) rfl
      ⟨M, B1, B3, B5, B7, by rw [replicate_arrOf] at B8; simp only [Nat.not_lt_zero, if_false]; exact B8⟩ ?_ ?_
    · clear M B1 B3 B5 B7 B8
      rintro x _ w5 hx ⟨M, B1, B3, B5, B7, B8⟩
      refine loopN 5 (fun k w' => Vcg.Mod NoB w w' ∧ Blk w' N 40 (lanesA s') ∧ Blk w' (N + 1) 40 (Array.replicate 25 (.int .u64 0)) ∧ Blk w' (N + 1 + 1) 45 turnA ∧
        Blk w' Q 57 (arrOf 5 (fun i => uV (par s' i))) ∧ Blk w' T 40 (arrOf 25 (fun j => uV (if (j % 5 + 3 * (j / 5)) % 5 < x ∨ (j % 5 + 3 * (j / 5)) % 5 = x ∧ j % 5 < k then bbK s' j else 0)))) rfl
        ⟨M, B1, B3, B5, B7, by simpa using B8⟩ ?_ ?_
      · clear M B1 B3 B5 B7 B8
        rintro k _ w5 hk ⟨M, B1, B3, B5, B7, B8⟩
        rintro _ rfl
        have c3 := cond2' x hx k hk
        have a1 : IntKind.wrap .i64 ((x : Int) + IntKind.wrap .i64 (5 * (k : Int))) = ((x + 5 * k : Nat) : Int) := by simp (disch := omega) only [wrap_i64_small]; omega
        have a2 : Int.tmod (IntKind.wrap .i64 ((x : Int) + 4)) 5 = (((x + 4) % 5 : Nat) : Int) := by simp (disch := omega) only [tmod_nn, wrap_i64_small]; omega
        have a3 : Int.tmod (IntKind.wrap .i64 ((x : Int) + 1)) 5 = (((x + 1) % 5 : Nat) : Int) := by simp (disch := omega) only [tmod_nn, wrap_i64_small]; omega
        have a4 : IntKind.wrap .i64 ((k : Int) + IntKind.wrap .i64 (5 * Int.tmod (IntKind.wrap .i64 (IntKind.wrap .i64 (2 * (x : Int)) + IntKind.wrap .i64 (3 * (k : Int)))) 5)) = ((k % 5 + 5 * ((2 * x + 3 * k) % 5) : Nat) : Int) := by
          simp (disch := omega) only [tmod_nn, wrap_i64_small]; omega
        rw [a1, a2, a3, a4]
        clear a1 a2 a3 a4
        have l1 : (x + 4) % 5 < 5 := Nat.mod_lt _ (by decide)
        have l2 : (x + 1) % 5 < 5 := Nat.mod_lt _ (by decide)
        refine ⟨by omega, _, B1.drew.rd0 (get_lanesA _ (by omega)), by omega, _, B7.drew.rd0 (get_arrOf_lt l1), by omega, _, B7.drew.rd0 (get_arrOf_lt l2), left_calls _ 1 rfl rfl (by omega) fun w6 M6 E6 => ⟨_, rfl, (B7.drew.mod' M6).rd0 (get_arrOf_lt l1), (B1.drew.mod' M6).rd0 (get_lanesA _ (by omega)), by omega, _, (B5.drew.mod' M6).rd0 (get_arrOf_lt (by omega)), ?_⟩⟩
        rw [bitsI_xor, bitsI_xor]
        refine left_calls _ (turnOf (x + 5 * k)) rfl rfl (turnOf_lt _) fun w7 M7 E7 => ⟨_, rfl, by omega, ((B8.drew.mod' M6).mod' M7).canSet0 (by simp; omega) rfl, fun w8 h8 => ?_⟩
        rw [h8.at]
        refine UpTo.next (by rw [wrap_i64_small (by omega) (by omega)]; omega) hk ⟨(((M.step_drew).none_trans M6).none_trans M7).step_set (fun h => by simp only [hNe] at h; omega), ((B1.drew.mod' M6).mod' M7).set_ne (by simp; omega), ((B3.drew.mod' M6).mod' M7).set_ne (by simp; omega), ((B5.drew.mod' M6).mod' M7).set_ne (by simp; omega), ((B7.drew.mod' M6).mod' M7).set_ne (by simp; omega), ?_⟩
        have := ((B8.drew.mod' M6).mod' M7).set (k % 5 + 5 * ((2 * x + 3 * k) % 5)) (uV ((s' (x + 5 * k) ^^^ par s' ((x + 4) % 5) ^^^ (par s' ((x + 1) % 5)).rotateLeft 1).rotateLeft (turnOf (x + 5 * k))))
        rw [set_arrOf] at this
        refine (arrOf_congr (fun j hj => ?_)) ▸ this
        have e1 : bbK s' (k % 5 + 5 * ((2 * x + 3 * k) % 5)) = (s' (x + 5 * k) ^^^ par s' ((x + 4) % 5) ^^^ (par s' ((x + 1) % 5)).rotateLeft 1).rotateLeft (turnOf (x + 5 * k)) := by
          rw [bbK, c3.2.1, c3.2.2, bbXY, ddK, BitVec.xor_assoc]
        have c4 := cond2 x hx k hk j hj
        rw [← e1]
        by_cases hj' : j = k % 5 + 5 * ((2 * x + 3 * k) % 5)
        · rw [if_pos hj', if_pos (c4.2 (.inl hj')), hj']
        · rw [if_neg hj']
          congr 2
          simp only [c4, hj', false_or]
      · rintro _ w6 ⟨M, B1, B3, B5, B7, B8⟩
        refine UpTo.next (by rw [wrap_i64_small (by omega) (by omega)]; omega) hx ⟨M, B1, B3, B5, B7, ?_⟩
        refine (arrOf_congr (fun j hj => ?_)) ▸ B8
        congr 2
        have : j % 5 < 5 := by omega
        simp only [this, and_true]
        have : (j % 5 + 3 * (j / 5)) % 5 < x + 1 ↔ (j % 5 + 3 * (j / 5)) % 5 < x ∨ (j % 5 + 3 * (j / 5)) % 5 = x := by omega
        simp only [this]
    clear M B1 B3 B5 B7 B8
    rintro _ w5 ⟨M, B1, B3, B5, _, B8⟩
    have e8 : arrOf 25 (fun j => uV (if (j % 5 + 3 * (j / 5)) % 5 < 5 then bbK s' j else 0)) = lanesA (bbK s') :=
      arrOf_congr (fun j hj => by rw [if_pos (by omega)])
    rw [e8] at B8
    clear e8
    refine loopN 5 (fun x w' => Vcg.Mod NoB w w' ∧ Blk w' N 40 (arrOf 25 (fun j => uV (if j % 5 < x then chiK (bbK s') j else s' j))) ∧ Blk w' (N + 1) 40 (Array.replicate 25 (.int .u64 0)) ∧ Blk w' (N + 1 + 1) 45 turnA ∧
      Blk w' T 40 (lanesA (bbK s'))) rfl
      ⟨M, by simp only [Nat.not_lt_zero, if_false]; exact B1, B3, B5, B8⟩ ?_ ?_
    · clear M B1 B3 B5 B8
      rintro x _ w6 hx ⟨M, B1, B3, B5, B8⟩
      refine loopN 5 (fun k w' => Vcg.Mod NoB w w' ∧ Blk w' N 40 (arrOf 25 (fun j => uV (if j % 5 < x ∨ j % 5 = x ∧ j / 5 < k then chiK (bbK s') j else s' j))) ∧ Blk w' (N + 1) 40 (Array.replicate 25 (.int .u64 0)) ∧ Blk w' (N + 1 + 1) 45 turnA ∧
        Blk w' T 40 (lanesA (bbK s'))) rfl ⟨M, by simpa using B1, B3, B5, B8⟩ ?_ ?_
      · clear M B1 B3 B5 B8
        rintro k _ w6 hk ⟨M, B1, B3, B5, B8⟩
        rintro _ rfl
        have a1 : IntKind.wrap .i64 ((x : Int) + IntKind.wrap .i64 (5 * (k : Int))) = ((x + 5 * k : Nat) : Int) := by simp (disch := omega) only [wrap_i64_small]; omega
        have a2 : IntKind.wrap .i64 (Int.tmod (IntKind.wrap .i64 ((x : Int) + 1)) 5 + IntKind.wrap .i64 (5 * (k : Int))) = (((x + 1) % 5 + 5 * k : Nat) : Int) := by
          simp (disch := omega) only [tmod_nn, wrap_i64_small]; omega
        have a3 : IntKind.wrap .i64 (Int.tmod (IntKind.wrap .i64 ((x : Int) + 2)) 5 + IntKind.wrap .i64 (5 * (k : Int))) = (((x + 2) % 5 + 5 * k : Nat) : Int) := by
          simp (disch := omega) only [tmod_nn, wrap_i64_small]; omega
        rw [a1, a2, a3]
        clear a1 a2 a3
        refine ⟨by omega, _, B8.drew.rd0 (get_lanesA _ (by omega)), by omega, _, B8.drew.rd0 (get_lanesA _ (by omega)), by omega, _, B8.drew.rd0 (get_lanesA _ (by omega)), by omega, B1.drew.canSet0 (by simp; omega) rfl, fun w7 h7 => ?_⟩
        rw [h7.at, bitsI_not, bitsI_and, bitsI_xor]
        refine UpTo.next (by rw [wrap_i64_small (by omega) (by omega)]; omega) hk ⟨(M.step_drew).step_set (fun h => by simp only [hNe] at h; omega), ?_, B3.drew.set_ne (by simp), B5.drew.set_ne (by simp; omega), B8.drew.set_ne (by simp; omega)⟩
        have := B1.drew.set (x + 5 * k) (uV (bbK s' (x + 5 * k) ^^^ (~~~ bbK s' ((x + 1) % 5 + 5 * k) &&& bbK s' ((x + 2) % 5 + 5 * k))))
        rw [set_arrOf] at this
        refine (arrOf_congr (fun j hj => ?_)) ▸ this
        have e1 : chiK (bbK s') (x + 5 * k) = bbK s' (x + 5 * k) ^^^ (~~~ bbK s' ((x + 1) % 5 + 5 * k) &&& bbK s' ((x + 2) % 5 + 5 * k)) := by
          rw [chiK, show (x + 5 * k) % 5 = x by omega, show (x + 5 * k) / 5 = k by omega]
        rw [← e1]
        by_cases hj' : j = x + 5 * k
        · rw [if_pos hj', if_pos (by omega), hj']
        · rw [if_neg hj']
          congr 2
          have : (j % 5 < x ∨ j % 5 = x ∧ j / 5 < k + 1) ↔ (j % 5 < x ∨ j % 5 = x ∧ j / 5 < k) := by omega
          simp only [this]
      · rintro _ w7 ⟨M, B1, B3, B5, B8⟩
        refine UpTo.next (by rw [wrap_i64_small (by omega) (by omega)]; omega) hx ⟨M, ?_, B3, B5, B8⟩
        refine (arrOf_congr (fun j hj => ?_)) ▸ B1
        congr 2
        have : j % 5 < x + 1 ↔ j % 5 < x ∨ j % 5 = x ∧ j / 5 < 5 := by omega
        simp only [this]
    clear M B1 B3 B5 B8
    rintro _ w6 ⟨M, B1, B3, B5, B8⟩
    have e9 : arrOf 25 (fun j => uV (if j % 5 < 5 then chiK (bbK s') j else s' j)) = arrOf 25 (fun j => uV (if j = 0 then chiK (bbK s') 0 ^^^ rcXor r 0 else chiK (bbK s') j)) :=
      arrOf_congr (fun j hj => by rw [if_pos (by omega)]; by_cases h0 : j = 0 <;> simp [h0, rcXor])
    rw [e9] at B1
    clear e9 B8
    refine ⟨fun n62 n63 w' => ∃ j : Nat, n63 = j ∧ j ≤ 7 ∧ n62 = (regOf (7 * r + j) : Nat) ∧ Vcg.Mod NoB w w' ∧ Blk w' N 40 (arrOf 25 (fun i => uV (if i = 0 then chiK (bbK s') 0 ^^^ rcXor r j else chiK (bbK s') i))) ∧ Blk w' (N + 1) 40 (Array.replicate 25 (.int .u64 0)) ∧
      Blk w' (N + 1 + 1) 45 turnA, fun _ n _ => (7 - n).toNat, ⟨0, rfl, by omega, rfl, M, B1, B3, B5⟩, ?_⟩
    clear M B1 B3 B5
    rintro _ _ _ w7 ⟨j, rfl, hj, rfl, M, B1, B3, B5⟩
    refine ⟨fun hlt' => ?_, fun hge' => ?_⟩
    · have hreg := reg_lt (7 * r + j) (by omega)
      have em : (7 - IntKind.wrap .i64 ((j : Int) + 1)).toNat < (7 - (j : Int)).toNat := by rw [wrap_i64_small (by omega) (by omega)]; omega
      have ew : IntKind.wrap .i64 (2 * (regOf (7 * r + j) : Int)) = ((regOf (7 * r + j) * 2 : Nat) : Int) := by rw [wrap_i64_small (by omega) (by omega)]; omega
      have ej : IntKind.wrap .i64 ((j : Int) + 1) = ((j + 1 : Nat) : Int) := by rw [wrap_i64_small (by omega) (by omega)]; omega
      have g1 : ((regOf (7 * r + j) * 2 : Nat) : Int) ≥ 256 → bitsI .xor .i64 (IntKind.wrap .i64 (((regOf (7 * r + j) * 2 : Nat) : Int) - 256)) 113 = (regOf (7 * r + (j + 1)) : Int) := by
        intro h
        rw [wrap_i64_small (by omega) (by omega)]
        have := reg_next (7 * r + j) (by omega) (by omega)
        refine Eq.trans ?_ this
        congr 1
        omega
      have g2 : ¬ ((regOf (7 * r + j) * 2 : Nat) : Int) ≥ 256 → ((regOf (7 * r + j) * 2 : Nat) : Int) = (regOf (7 * r + (j + 1)) : Int) := by
        intro h
        rw [← reg_next' _ (by omega)]; rfl
      rw [tmod_nn _ _ (by omega), ew, pow_sh j (by omega)]
      refine ⟨fun h1 => ?_, fun h1 => ?_⟩
      · rintro _ rfl
        refine ⟨_, B1.drew.rd1 (get_arrOf_lt (by omega)), by omega, by omega, B1.drew.canSet (by simp) rfl, ?_⟩
        rintro w8 rfl
        rw [if_pos rfl]
        have e1 : (1 : Int) = uI (1 : BitVec 64) := by decide
        have e2 : bitsI .xor .u64 (uI (chiK (bbK s') 0 ^^^ rcXor r j)) (shlI .u64 1 ((2 ^ j - 1 : Nat) : Int)) = uI (chiK (bbK s') 0 ^^^ rcXor r (j + 1)) := by
          rw [e1, shlI_u, bitsI_xor, rcXor, if_pos (by omega), BitVec.xor_assoc]
        rw [e2]
        have B1' := B1.drew.set 0 (uV (chiK (bbK s') 0 ^^^ rcXor r (j + 1)))
        rw [set_arrOf] at B1'
        have e3 : (arrOf 25 fun i => if i = 0 then uV (chiK (bbK s') 0 ^^^ rcXor r (j + 1)) else uV (if i = 0 then chiK (bbK s') 0 ^^^ rcXor r j else chiK (bbK s') i)) = arrOf 25 (fun i => uV (if i = 0 then chiK (bbK s') 0 ^^^ rcXor r (j + 1) else chiK (bbK s') i)) :=
          arrOf_congr (fun i hi => by by_cases h0 : i = 0 <;> simp [h0])
        rw [e3] at B1'
        have M' : Vcg.Mod NoB w (w7.drew.setCell ⟨N, 0, none⟩ (uV (chiK (bbK s') 0 ^^^ rcXor r (j + 1)))) := (M.step_drew).step_set (fun h => by simp only [hNe] at h; omega)
        exact ⟨fun h => ⟨⟨j + 1, ej, by omega, g1 h, M', B1', B3.drew.set_ne (by simp), B5.drew.set_ne (by simp; omega)⟩, em⟩, fun h => ⟨⟨j + 1, ej, by omega, g2 h, M', B1', B3.drew.set_ne (by simp), B5.drew.set_ne (by simp; omega)⟩, em⟩⟩
      · have e2 : rcXor r (j + 1) = rcXor r j := by
          rw [rcXor, if_neg (by omega)]; simp
        rw [← e2] at B1
        exact ⟨fun h => ⟨⟨j + 1, ej, by omega, g1 h, M, B1, B3, B5⟩, em⟩, fun h => ⟨⟨j + 1, ej, by omega, g2 h, M, B1, B3, B5⟩, em⟩⟩
    · obtain rfl : j = 7 := by omega
      refine ⟨⟨r + 1, by rw [wrap_i64_small (by omega) (by omega)]; omega, by omega, rfl, M, ?_, B3, B5⟩, by rw [wrap_i64_small (by omega) (by omega)]; dsimp only; omega⟩
      have e : arrOf 25 (fun i => uV (if i = 0 then chiK (bbK s') 0 ^^^ rcXor r 7 else chiK (bbK s') i)) = lanesA (rnds (r + 1) s) :=
        arrOf_congr (fun i hi => by rw [rcXor_end r (by omega), rnds, hs', rnd])
      exact e ▸ B1
  · obtain rfl : r = 24 := by omega
    exact ⟨_, B1.rowAll (size_lanesA _), _, B3.storeAll (L := lanesA (keccakF s)) (by rw [size_lanesA]; kernel_rfl) (by rw [size_lanesA, Array.size_replicate]) (lanesA_one _), _,
      (B3.row_same _).rowAll (size_lanesA _), rfl, M.step_row (fun h => by omega)⟩

end Go.Proofs.Ytmnhdppcphficaa
