/- Contracts of Keccak's small functions and of one round. -/
import Derived.Test.YtmnhdppcphficaaKV
import Derived.Test.YtmnhdppcphficaaXKec
set_option linter.unusedVariables false
set_option linter.unusedSimpArgs false
namespace Go.Proofs.Ytmnhdppcphficaa
open Go Go.Vcg

theorem at_calls {R : Ending → World → Prop} {w : World} {n0 n1 : Int} (x y : Nat) (h0 : n0 = (x : Int)) (h1 : n1 = (y : Int)) (hx : x < 1000) (hy : y < 1000)
    (h : R (.returned (.int .i64 ((x % 5 + 5 * (y % 5) : Nat) : Int))) w) : Calls Try.prog keccak_at.n #[.int .i64 n0, .int .i64 n1] w R := by
  subst h0 h1
  refine keccak_at.vc _ _ _ _ ?_
  unfold keccak_at.Vc
  have e : IntKind.wrap .i64 (Int.tmod (x : Int) 5 + IntKind.wrap .i64 (5 * Int.tmod (y : Int) 5)) = ((x % 5 + 5 * (y % 5) : Nat) : Int) := by
    simp (disch := omega) only [tmod_nn, wrap_i64_small]
    omega
  rw [e]
  exact h

theorem rotl_calls {R : Ending → World → Prop} {w : World} {n0 n1 : Int} (x : BitVec 64) (k : Nat) (h0 : n0 = uI x) (h1 : n1 = (k : Int)) (hk : k < 64)
    (h : R (.returned (uV (x.rotateLeft k))) w) : Calls Try.prog math_bits_RotateLeft64.n #[.int .u64 n0, .int .i64 n1] w R := by
  subst h0 h1
  refine math_bits_RotateLeft64.vc _ _ _ _ ?_
  unfold math_bits_RotateLeft64.Vc
  have e1 : bitsI .and .u64 (IntKind.wrap .u64 (k : Int)) 63 = (k : Int) := by
    have : ∀ k : Nat, k < 64 → bitsI .and .u64 (IntKind.wrap .u64 (k : Int)) 63 = (k : Int) := by decide +kernel
    exact this k hk
  have e2 : IntKind.wrap .u64 (64 - (k : Int)) = ((64 - k : Nat) : Int) := by
    rw [wrap_u64]; omega
  rw [e1, e2]
  refine ⟨by omega, by omega, ?_⟩
  rw [shlI_u, shrI_u _ _ _ rfl, bitsI_or]
  have e3 : x <<< k ||| x >>> (64 - k) = x.rotateLeft k := by
    rw [BitVec.rotateLeft_def]
    rw [Nat.mod_eq_of_lt hk]
  rw [e3]
  exact h

/-- The plan's cells lie at d. -/
structure PlanAt (w : World) (b o : Nat) : Prop where
  lt : b < w.heap.size
  rc : ∀ i, i < 24 → w.cell? ⟨b, o + i, none⟩ = some (uV (rcOf i))
  turn : ∀ i, i < 25 → w.cell? ⟨b, o + 24 + i, none⟩ = some (.int .i64 (turnOf i))

theorem cell_mod {S : Nat → Prop} {w w' : World} (m : Mod S w w') {b i : Nat} (hb : b < w.heap.size) (hs : ¬ S b) : w'.cell? ⟨b, i, none⟩ = w.cell? ⟨b, i, none⟩ :=
  World.cell?_of_block (m.block b hb hs)

theorem PlanAt.mod {S : Nat → Prop} {w w' : World} {b o : Nat} (h : PlanAt w b o) (m : Mod S w w') (hs : ¬ S b) : PlanAt w' b o :=
  ⟨Nat.lt_of_lt_of_le h.lt m.size, fun i hi => (cell_mod m h.lt hs).trans (h.rc i hi), fun i hi => (cell_mod m h.lt hs).trans (h.turn i hi)⟩

theorem word_one (v : BitVec 64) : (uV v).oneCell' = true := rfl

theorem cond2_all : ((List.range 5).all fun x => (List.range 5).all fun k => (List.range 25).all fun j =>
    (decide ((j % 5 + 3 * (j / 5)) % 5 < x) || (decide ((j % 5 + 3 * (j / 5)) % 5 = x) && decide (j % 5 < k + 1))) == (decide (j = k % 5 + 5 * ((2 * x + 3 * k) % 5)) || (decide ((j % 5 + 3 * (j / 5)) % 5 < x) || (decide ((j % 5 + 3 * (j / 5)) % 5 = x) && decide (j % 5 < k))))) = true := by decide +kernel
theorem cond2 (x : Nat) (hx : x < 5) (k : Nat) (hk : k < 5) (j : Nat) (hj : j < 25) :
    (((j % 5 + 3 * (j / 5)) % 5 < x ∨ (j % 5 + 3 * (j / 5)) % 5 = x ∧ j % 5 < k + 1) ↔ (j = k % 5 + 5 * ((2 * x + 3 * k) % 5) ∨ ((j % 5 + 3 * (j / 5)) % 5 < x ∨ (j % 5 + 3 * (j / 5)) % 5 = x ∧ j % 5 < k))) := by
  have h := cond2_all
  simp only [List.all_eq_true, List.mem_range] at h
  have h1 := h x hx k hk j hj
  simp only [beq_iff_eq] at h1
  rw [Bool.eq_iff_iff] at h1
  simpa only [Bool.or_eq_true, Bool.and_eq_true, decide_eq_true_eq] using h1
theorem cond2' : ∀ x : Nat, x < 5 → ∀ k : Nat, k < 5 → (k % 5 + 5 * ((2 * x + 3 * k) % 5)) < 25 ∧ ((k % 5 + 5 * ((2 * x + 3 * k) % 5)) % 5 + 3 * ((k % 5 + 5 * ((2 * x + 3 * k) % 5)) / 5)) % 5 = x ∧ (k % 5 + 5 * ((2 * x + 3 * k) % 5)) % 5 = k := by decide +kernel

theorem round_calls {w : World} (s : St) (b o : Nat) (n : Nat) (hn : n < 24) (hp : PlanAt w b o) :
    Calls Try.prog keccak_state_round.n #[.agg (lanesA s), .pointer (some ⟨b, o, none⟩), .int .i64 (n : Int)] w
      (fun e w' => e = .returned (.agg (lanesA (rnd n s))) ∧ Mod NoB w w') := by
  refine keccak_state_round.vc _ _ _ _ _ ?_
  unfold keccak_state_round.Vc
  rintro d3 w4 ⟨rfl, rfl⟩ d5 w6 ⟨rfl, rfl⟩ d7 w8 ⟨rfl, rfl⟩
  have B3 := ((Blk.new w 49 (lanesA s)).alloc (.cells (Array.replicate 25 (.int .u64 0)) 49)).alloc (.cells #[(.int .u64 0), (.int .u64 0), (.int .u64 0), (.int .u64 0), (.int .u64 0)] 57)
  have B5 := (Blk.new (w.alloc (.cells (lanesA s) 49)) 49 (Array.replicate 25 (.int .u64 0))).alloc (.cells #[(.int .u64 0), (.int .u64 0), (.int .u64 0), (.int .u64 0), (.int .u64 0)] 57)
  have B7 := Blk.new ((w.alloc (.cells (lanesA s) 49)).alloc (.cells (Array.replicate 25 (.int .u64 0)) 49)) 57 #[(.int .u64 0), (.int .u64 0), (.int .u64 0), (.int .u64 0), (.int .u64 0)]
  have M := ((Mod.alloc (S := NoB) w (.cells (lanesA s) 49)).step_alloc (.cells (Array.replicate 25 (.int .u64 0)) 49)).step_alloc (.cells #[(.int .u64 0), (.int .u64 0), (.int .u64 0), (.int .u64 0), (.int .u64 0)] 57)
  simp only [size_alloc] at B5 B7 ⊢
  generalize ((w.alloc (.cells (lanesA s) 49)).alloc (.cells (Array.replicate 25 (.int .u64 0)) 49)).alloc (.cells #[(.int .u64 0), (.int .u64 0), (.int .u64 0), (.int .u64 0), (.int .u64 0)] 57) = w8 at *
  have hN := hp.lt
  generalize hNe : w.heap.size = N at *
  have e5 : #[(.int .u64 0), (.int .u64 0), (.int .u64 0), (.int .u64 0), (.int .u64 0)] = arrOf 5 (fun i => uV (if i < 0 then par s i else 0)) := by rfl
  rw [e5] at B7
  clear e5
  -- the columns' parities
  refine loopN 5 (fun x w' => Vcg.Mod NoB w w' ∧ Blk w' N 49 (lanesA s) ∧ Blk w' (N + 1) 49 (Array.replicate 25 (.int .u64 0)) ∧
    Blk w' (N + 1 + 1) 57 (arrOf 5 (fun i => uV (if i < x then par s i else 0)))) rfl ⟨M, B3, B5, B7⟩ ?_ ?_
  · clear M B3 B5 B7
    rintro x _ w1 hx ⟨M, B3, B5, B7⟩
    refine loopN 5 (fun k w' => Vcg.Mod NoB w w' ∧ Blk w' N 49 (lanesA s) ∧ Blk w' (N + 1) 49 (Array.replicate 25 (.int .u64 0)) ∧
      Blk w' (N + 1 + 1) 57 (arrOf 5 (fun i => uV (if i < x then par s i else if i = x then parK s x k else 0)))) rfl ⟨M, B3, B5, ?_⟩ ?_ ?_
    · have : (fun i => uV (if i < x then par s i else if i = x then parK s x 0 else 0)) = (fun i => uV (if i < x then par s i else 0)) := by
        funext i; simp [parK]
      rw [this]; exact B7
    · clear M B3 B5 B7
      rintro k _ w2 hk ⟨M, B3, B5, B7⟩
      rintro _ rfl
      refine ⟨by omega, _, B7.drew.rd0 (get_arrOf_lt (by omega)), at_calls x k rfl rfl (by omega) (by omega) ⟨_, rfl, B7.drew.rd0 (get_arrOf_lt (by omega)), by omega, _, B3.drew.rd0 (get_lanesA s (by omega)), by omega, B7.drew.canSet0 (by simp; omega) rfl, fun w3 h3 => ?_⟩⟩
      rw [h3.at]
      refine UpTo.next (by rw [wrap_i64_small (by omega) (by omega)]; omega) hk ⟨(M.step_drew).step_set (fun h => by simp only [hNe] at h; omega), B3.drew.set_ne (by simp; omega), B5.drew.set_ne (by simp), ?_⟩
      have := B7.drew.set x (uV (parK s x (k + 1)))
      rw [set_arrOf] at this
      simp only [bitsI_xor, if_true, Nat.lt_irrefl, if_false]
      have e1 : parK s x (k + 1) = parK s x k ^^^ s (x % 5 + 5 * (k % 5)) := by
        rw [parK, Nat.mod_eq_of_lt hx, Nat.mod_eq_of_lt hk]
      rw [← e1]
      refine (arrOf_congr (fun j hj => ?_)) ▸ this
      grind
    · rintro _ w2 ⟨M, B3, B5, B7⟩
      refine UpTo.next (by rw [wrap_i64_small (by omega) (by omega)]; omega) hx ⟨M, B3, B5, ?_⟩
      refine (arrOf_congr (fun j hj => ?_)) ▸ B7
      have : par s x = parK s x 5 := rfl
      grind
  · clear M B3 B5 B7
    rintro _ w1 ⟨M, B3, B5, B7⟩ d22 w23 ⟨rfl, rfl⟩
    have hsz : N + 1 + 1 < w1.heap.size := B7.lt
    have B8 := Blk.new w1 49 (Array.replicate 25 (.int .u64 0))
    replace B3 := B3.alloc (.cells (Array.replicate 25 (.int .u64 0)) 49)
    replace B5 := B5.alloc (.cells (Array.replicate 25 (.int .u64 0)) 49)
    replace B7 := B7.alloc (.cells (Array.replicate 25 (.int .u64 0)) 49)
    replace M := M.step_alloc (.cells (Array.replicate 25 (.int .u64 0)) 49)
    generalize w1.alloc (.cells (Array.replicate 25 (.int .u64 0)) 49) = w2 at *
    generalize w1.heap.size = Q at *
    -- what is moved
    refine loopN 5 (fun x w' => Vcg.Mod NoB w w' ∧ Blk w' N 49 (lanesA s) ∧ Blk w' (N + 1) 49 (Array.replicate 25 (.int .u64 0)) ∧
      Blk w' (N + 1 + 1) 57 (arrOf 5 (fun i => uV (if i < 5 then par s i else 0))) ∧ Blk w' Q 49 (arrOf 25 (fun j => uV (if (j % 5 + 3 * (j / 5)) % 5 < x then bbK s j else 0)))) rfl
      ⟨M, B3, B5, B7, by rw [replicate_arrOf] at B8; simp only [Nat.not_lt_zero, if_false]; exact B8⟩ ?_ ?_
    · clear M B3 B5 B7 B8
      rintro x _ w2 hx ⟨M, B3, B5, B7, B8⟩
      rintro _ rfl
      have c1 : Int.tmod (IntKind.wrap .i64 ((IntKind.wrap .i64 ((x : Int) + 5)) - 1)) 5 = (((x + 4) % 5 : Nat) : Int) := by
        simp (disch := omega) only [tmod_nn, wrap_i64_small]; omega
      have c2 : Int.tmod (IntKind.wrap .i64 ((x : Int) + 1)) 5 = (((x + 1) % 5 : Nat) : Int) := by
        simp (disch := omega) only [tmod_nn, wrap_i64_small]; omega
      rw [c1, c2]
      clear c1 c2
      have l1 : (x + 4) % 5 < 5 := Nat.mod_lt _ (by decide)
      have l2 : (x + 1) % 5 < 5 := Nat.mod_lt _ (by decide)
      refine ⟨by omega, _, B7.drew.rd0 (get_arrOf_lt l1), by omega, _, B7.drew.rd0 (get_arrOf_lt l2), ?_⟩
      rw [if_pos l1, if_pos l2]
      refine rotl_calls _ 1 rfl rfl (by omega) ⟨_, rfl, by rw [B7.drew.rd0 (get_arrOf_lt l1), if_pos l1], ?_⟩
      rw [bitsI_xor]
      refine loopN 5 (fun k w' => Vcg.Mod NoB w w' ∧ Blk w' N 49 (lanesA s) ∧ Blk w' (N + 1) 49 (Array.replicate 25 (.int .u64 0)) ∧
        Blk w' (N + 1 + 1) 57 (arrOf 5 (fun i => uV (if i < 5 then par s i else 0))) ∧ Blk w' Q 49 (arrOf 25 (fun j => uV (if (j % 5 + 3 * (j / 5)) % 5 < x ∨ (j % 5 + 3 * (j / 5)) % 5 = x ∧ j % 5 < k then bbK s j else 0)))) rfl
        ⟨M.step_drew, B3, B5, B7, by simpa using B8.drew⟩ ?_ ?_
      · clear M B3 B5 B7 B8
        rintro k _ w3 hk ⟨M, B3, B5, B7, B8⟩
        rintro _ rfl
        have c3 := cond2' x hx k hk
        have hp' := hp.mod (M.step_drew) (fun h => h)
        refine at_calls k (2 * x + 3 * k) rfl (by simp (disch := omega) only [wrap_i64_small]; omega) (by omega) (by omega) ⟨_, rfl, ?_⟩
        refine at_calls x k rfl rfl (by omega) (by omega) ⟨_, rfl, by omega, _, B3.drew.rd0 (get_lanesA s (by omega)), ?_⟩
        refine at_calls x k rfl rfl (by omega) (by omega) ⟨_, rfl, B3.drew.rd0 (get_lanesA s (by omega)), by omega, _, by rw [add_at, add_at, Int.toNat_natCast]; exact hp'.turn _ (by omega), ?_⟩
        refine rotl_calls (s (x % 5 + 5 * (k % 5)) ^^^ (par s ((x + 4) % 5) ^^^ (par s ((x + 1) % 5)).rotateLeft 1)) (turnOf (x % 5 + 5 * (k % 5))) (by rw [bitsI_xor]) rfl (turnOf_lt _) ⟨_, rfl, by omega, B8.drew.canSet0 (by simp; omega) rfl, fun w4 h4 => ?_⟩
        rw [h4.at]
        refine UpTo.next (by rw [wrap_i64_small (by omega) (by omega)]; omega) hk ⟨(M.step_drew).step_set (fun h => by simp only [hNe] at h; omega), B3.drew.set_ne (by simp; omega), B5.drew.set_ne (by simp; omega), B7.drew.set_ne (by simp; omega), ?_⟩
        have := B8.drew.set (k % 5 + 5 * ((2 * x + 3 * k) % 5)) (uV ((s (x % 5 + 5 * (k % 5)) ^^^ (par s ((x + 4) % 5) ^^^ (par s ((x + 1) % 5)).rotateLeft 1)).rotateLeft (turnOf (x % 5 + 5 * (k % 5)))))
        rw [set_arrOf] at this
        refine (arrOf_congr (fun j hj => ?_)) ▸ this
        have e1 : bbK s (k % 5 + 5 * ((2 * x + 3 * k) % 5)) = (s (x % 5 + 5 * (k % 5)) ^^^ (par s ((x + 4) % 5) ^^^ (par s ((x + 1) % 5)).rotateLeft 1)).rotateLeft (turnOf (x % 5 + 5 * (k % 5))) := by
          rw [bbK, c3.2.1, c3.2.2, bbXY, Nat.mod_eq_of_lt hx, Nat.mod_eq_of_lt hk, ddK]
        have c4 := cond2 x hx k hk j hj
        rw [← e1]
        by_cases hj' : j = k % 5 + 5 * ((2 * x + 3 * k) % 5)
        · rw [if_pos hj', if_pos (c4.2 (.inl hj')), hj']
        · rw [if_neg hj']
          congr 2
          simp only [c4, hj', false_or]
      · rintro _ w3 ⟨M, B3, B5, B7, B8⟩
        refine UpTo.next (by rw [wrap_i64_small (by omega) (by omega)]; omega) hx ⟨M, B3, B5, B7, ?_⟩
        refine (arrOf_congr (fun j hj => ?_)) ▸ B8
        congr 2
        have : j % 5 < 5 := by omega
        simp only [this, and_true]
        have : (j % 5 + 3 * (j / 5)) % 5 < x + 1 ↔ (j % 5 + 3 * (j / 5)) % 5 < x ∨ (j % 5 + 3 * (j / 5)) % 5 = x := by omega
        simp only [this]
    · clear M B3 B5 B7 B8
      rintro _ w1 ⟨M, B3, B5, B7, B8⟩ d52 w53 ⟨rfl, rfl⟩
      have hsz : Q < w1.heap.size := B8.lt
      have hsz5 : N + 1 < w1.heap.size := B5.lt
      have B9 := Blk.new w1 49 (Array.replicate 25 (.int .u64 0))
      replace B5 := B5.alloc (.cells (Array.replicate 25 (.int .u64 0)) 49)
      replace B8 := B8.alloc (.cells (Array.replicate 25 (.int .u64 0)) 49)
      replace M := M.step_alloc (.cells (Array.replicate 25 (.int .u64 0)) 49)
      clear B3 B7
      have e8 : arrOf 25 (fun j => uV (if (j % 5 + 3 * (j / 5)) % 5 < 5 then bbK s j else 0)) = lanesA (bbK s) :=
        arrOf_congr (fun j hj => by rw [if_pos (by omega)])
      rw [e8] at B8
      generalize w1.alloc (.cells (Array.replicate 25 (.int .u64 0)) 49) = w2 at *
      generalize w1.heap.size = T at *
      refine loopN 5 (fun x w' => Vcg.Mod NoB w w' ∧ Blk w' (N + 1) 49 (Array.replicate 25 (.int .u64 0)) ∧ Blk w' Q 49 (lanesA (bbK s)) ∧
        Blk w' T 49 (arrOf 25 (fun j => uV (if j % 5 < x then chiK (bbK s) j else 0)))) rfl
        ⟨M, B5, B8, by rw [replicate_arrOf] at B9; simp only [Nat.not_lt_zero, if_false]; exact B9⟩ ?_ ?_
      · clear M B5 B8 B9
        rintro x _ w2 hx ⟨M, B5, B8, B9⟩
        refine loopN 5 (fun k w' => Vcg.Mod NoB w w' ∧ Blk w' (N + 1) 49 (Array.replicate 25 (.int .u64 0)) ∧ Blk w' Q 49 (lanesA (bbK s)) ∧
          Blk w' T 49 (arrOf 25 (fun j => uV (if j % 5 < x ∨ j % 5 = x ∧ j / 5 < k then chiK (bbK s) j else 0)))) rfl
          ⟨M, B5, B8, by simpa using B9⟩ ?_ ?_
        · clear M B5 B8 B9
          rintro k _ w3 hk ⟨M, B5, B8, B9⟩
          rintro _ rfl
          refine at_calls x k rfl rfl (by omega) (by omega) ⟨_, rfl, ?_⟩
          refine at_calls x k rfl rfl (by omega) (by omega) ⟨_, rfl, by omega, _, B8.drew.rd0 (get_lanesA _ (by omega)), ?_⟩
          refine at_calls (x + 1) k (by rw [wrap_i64_small (by omega) (by omega)]; omega) rfl (by omega) (by omega) ⟨_, rfl, B8.drew.rd0 (get_lanesA _ (by omega)), by omega, _, B8.drew.rd0 (get_lanesA _ (by omega)), ?_⟩
          refine at_calls (x + 2) k (by rw [wrap_i64_small (by omega) (by omega)]; omega) rfl (by omega) (by omega) ⟨_, rfl, B8.drew.rd0 (get_lanesA _ (by omega)), B8.drew.rd0 (get_lanesA _ (by omega)), by omega, _, B8.drew.rd0 (get_lanesA _ (by omega)), by omega, B9.drew.canSet0 (by simp; omega) rfl, fun w4 h4 => ?_⟩
          rw [h4.at]
          refine UpTo.next (by rw [wrap_i64_small (by omega) (by omega)]; omega) hk ⟨(M.step_drew).step_set (fun h => by simp only [hNe] at h; omega), B5.drew.set_ne (by simp; omega), B8.drew.set_ne (by simp; omega), ?_⟩
          rw [bitsI_not, bitsI_and, bitsI_xor]
          have := B9.drew.set (x % 5 + 5 * (k % 5)) (uV (bbK s (x % 5 + 5 * (k % 5)) ^^^ (~~~ bbK s ((x + 1) % 5 + 5 * (k % 5)) &&& bbK s ((x + 2) % 5 + 5 * (k % 5)))))
          rw [set_arrOf] at this
          refine (arrOf_congr (fun j hj => ?_)) ▸ this
          have e1 : chiK (bbK s) (x % 5 + 5 * (k % 5)) = bbK s (x % 5 + 5 * (k % 5)) ^^^ (~~~ bbK s ((x + 1) % 5 + 5 * (k % 5)) &&& bbK s ((x + 2) % 5 + 5 * (k % 5))) := by
            rw [chiK, show (x % 5 + 5 * (k % 5)) % 5 = x by omega, show (x % 5 + 5 * (k % 5)) / 5 = k by omega, show k % 5 = k by omega]
          rw [← e1]
          by_cases hj' : j = x % 5 + 5 * (k % 5)
          · rw [if_pos hj', if_pos (by omega), hj']
          · rw [if_neg hj']
            congr 2
            have : (j % 5 < x ∨ j % 5 = x ∧ j / 5 < k + 1) ↔ (j % 5 < x ∨ j % 5 = x ∧ j / 5 < k) := by omega
            simp only [this]
        · rintro _ w3 ⟨M, B5, B8, B9⟩
          refine UpTo.next (by rw [wrap_i64_small (by omega) (by omega)]; omega) hx ⟨M, B5, B8, ?_⟩
          refine (arrOf_congr (fun j hj => ?_)) ▸ B9
          congr 2
          have : j % 5 < x + 1 ↔ j % 5 < x ∨ j % 5 = x ∧ j / 5 < 5 := by omega
          simp only [this]
      · clear M B5 B8 B9
        rintro _ w3 ⟨M, B5, B8, B9⟩ _ rfl
        have hp' := hp.mod (M.step_drew) (fun h => h)
        refine ⟨_, B9.drew.rd1 (get_arrOf_lt (by omega)), by omega, _, by rw [add_at, Int.toNat_natCast]; exact hp'.rc _ hn, B9.drew.canSet (by simp) rfl, ?_⟩
        rintro w4 rfl
        have B9' := B9.drew.set 0 (uV (rnd n s 0))
        rw [set_arrOf] at B9'
        rw [if_pos (by omega), bitsI_xor]
        have e9 : (arrOf 25 fun j => if j = 0 then uV (rnd n s 0) else uV (if j % 5 < 5 then chiK (bbK s) j else 0)) = lanesA (rnd n s) :=
          arrOf_congr (fun j hj => by
            by_cases h0 : j = 0
            · rw [if_pos h0, h0]
            · rw [if_neg h0, if_pos (by omega), rnd, if_neg h0])
        rw [e9] at B9'
        have B5' : Blk (w3.drew.setCell ⟨T, 0, none⟩ (uV (rnd n s 0))) (N + 1) 49 (Array.replicate 25 (.int .u64 0)) := B5.drew.set_ne (by simp; omega)
        have M' : Vcg.Mod NoB w (w3.drew.setCell ⟨T, 0, none⟩ (uV (rnd n s 0))) := (M.step_drew).step_set (fun h => by simp only [hNe] at h; omega)
        have e10 : chiK (bbK s) 0 ^^^ rcOf n = rnd n s 0 := by simp [rnd]
        rw [e10]
        refine ⟨_, B9'.rowAll (size_lanesA _), _, B5'.storeAll (L := lanesA (rnd n s)) (by rw [size_lanesA]; kernel_rfl) (by rw [size_lanesA, Array.size_replicate]) (lanesA_one _), _, (B5'.row_same _).rowAll (size_lanesA _), rfl, M'.step_row (fun h => by omega)⟩

end Go.Proofs.Ytmnhdppcphficaa
