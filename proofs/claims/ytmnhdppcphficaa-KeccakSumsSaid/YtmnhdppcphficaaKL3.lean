/- The law's walk: two sponges don't touch one another. -/
import Derived.Test.YtmnhdppcphficaaKL1
import Derived.Test.YtmnhdppcphficaaKD1
set_option linter.unusedVariables false
set_option linter.unusedSimpArgs false
namespace Go.Proofs.Ytmnhdppcphficaa
open Go Go.Vcg

theorem und_hash : Try.prog.underlying tHash = some (.array 32 tU8) := by kernel_rfl
theorem und_u8 : Try.prog.underlying tU8 = some (.int .u8) := by kernel_rfl
theorem guard_hash : Try.prog.eqGuardType Try.prog.depth tHash = false := by kernel_rfl
theorem hash_eq {w : World} (x y : Operand) (h : List UInt8) : Sem.run Try.prog (semBin .eql tHash x y (.agg (hashA h)) (.agg (hashA h))) w = .ok (.bool true) w := by
  have := semEq_arr (P := Try.prog) (w := w) und_hash und_u8 info_u8_size guard_hash x y (fun i => ((h.getD i 0).toNat : Int)) (fun i => ((h.getD i 0).toNat : Int))
  rwa [decide_eq_true (fun i _ => rfl)] at this
theorem hash_ne {w : World} (x y : Operand) (h : List UInt8) : Sem.run Try.prog (semBin .neq tHash x y (.agg (hashA h)) (.agg (hashA h))) w = .ok (.bool false) w := by
  have := semNe_arr (P := Try.prog) (w := w) und_hash und_u8 info_u8_size guard_hash x y (fun i => ((h.getD i 0).toNat : Int)) (fun i => ((h.getD i 0).toNat : Int))
  rwa [decide_eq_true (fun i _ => rfl)] at this

/-- What the first i of the lists give to sponge j. -/
def half (ls : List (List UInt8)) (j : Nat) : Nat → List UInt8
  | 0 => []
  | i + 1 => if i % 2 = j then half ls j i ++ ls.getD i [] else half ls j i

abbrev tTwoP : TypeId := 35
abbrev tTwoS : TypeId := 36
abbrev tTwoH : TypeId := 37

structure TwoInv (w0 : World) (X Y : Nat) (ls : List (List UInt8)) (lab : Nat → Nat) (b : Nat → Nat) (p q : Nat → Option Addr) (lq cq : Nat → Nat) (i : Nat) (w : World) : Prop where
  M : Vcg.Mod NoB w0 w
  BX : Blk w X tTwoP (arrOf 2 (fun j => .pointer (some ⟨b j, 0, none⟩)))
  BY : Blk w Y tTwoS (arrOf 2 (fun j => .slice (q j) (lq j) (cq j)))
  sp : ∀ j, j < 2 → SpongeAt w (b j) (p j) (half ls j i)
  ow : ∀ j, j < 2 → Own w tU8 1 (q j) (lq j) (cq j) ((half ls j i).map bV)
  lX : lab X = 4
  lY : lab Y = 5
  hX : w0.heap.size ≤ X
  hY : w0.heap.size ≤ Y
  lF : ∀ j, j < 2 → ∀ k, SpB (b j) (p j) k → lab k = j ∧ w0.heap.size ≤ k
  lG : ∀ j, j < 2 → ∀ k, OB (q j) k → lab k = 2 + j ∧ w0.heap.size ≤ k
  len : ∀ j, j < 2 → (half ls j i).length ≤ 200 * i

theorem Own.bytes_len {w : World} {e : TypeId} {o : Option Addr} {l c : Nat} {bs : List UInt8} (h : Own w e 1 o l c (bs.map bV)) : bs.length = l := by
  have := h.len; simpa using this

/-- Sponge j is written to, and its message grows. -/
theorem TwoInv.step {w0 w : World} {X Y : Nat} {ls : List (List UInt8)} {lab b : Nat → Nat} {p q : Nat → Option Addr} {lq cq : Nat → Nat} {i : Nat} (I : TwoInv w0 X Y ls lab b p q lq cq i w)
    {w1 w2 w3 : World} {j : Nat} (hj : j < 2) (hij : i % 2 = j) (bs : List UInt8) (hbs : bs = ls.getD i []) (hlen : bs.length ≤ 200) {o' q' : Option Addr} {l' c' : Nat}
    (M1 : Vcg.Mod NoB w w1)
    (M2 : Vcg.Mod (SpB (b j) (p j)) w1 w2) (hS : SpongeAt w2 (b j) o' (half ls j i ++ bs)) (hF : ∀ k, OB o' k → OB (p j) k ∨ w1.heap.size ≤ k)
    (M3 : Vcg.Mod (OB (q j)) w2 w3) (hO : Own w3 tU8 1 q' l' c' ((half ls j i ++ bs).map bV)) (hG : ∀ k, OB q' k → OB (q j) k ∨ w2.heap.size ≤ k) :
    ∃ lab' p' q2 lq' cq', TwoInv w0 X Y ls lab' b p' q2 lq' cq' (i + 1) (w3.setCell ⟨Y, j, none⟩ (.slice q' l' c')) := by
  have hs1 := M1.size
  have hs2 := M2.size
  have hs3 := M3.size
  have hXl := I.BX.lt
  have hYl := I.BY.lt
  have hs0 := I.M.size
  have ne : ∀ {x y : Nat}, lab x ≠ lab y → x ≠ y := fun h e => h (by rw [e])
  have hXF : ∀ t, t < 2 → ¬ SpB (b t) (p t) X := fun t ht h => by have := (I.lF t ht X h).1; have := I.lX; omega
  have hXG : ∀ t, t < 2 → ¬ OB (q t) X := fun t ht h => by have := (I.lG t ht X h).1; have := I.lX; omega
  have hYF : ∀ t, t < 2 → ¬ SpB (b t) (p t) Y := fun t ht h => by have := (I.lF t ht Y h).1; have := I.lY; omega
  have hYG : ∀ t, t < 2 → ¬ OB (q t) Y := fun t ht h => by have := (I.lG t ht Y h).1; have := I.lY; omega
  have hXY : X ≠ Y := ne (by rw [I.lX, I.lY]; decide)
  have hFlt : ∀ t, t < 2 → ∀ k, SpB (b t) (p t) k → k < w.heap.size := fun t ht k hk => (I.sp t ht).lt hk
  have hGlt : ∀ t, t < 2 → ∀ k, OB (q t) k → k < w.heap.size := fun t ht k hk => (I.ow t ht).lt hk
  have hFG : ∀ t s, t < 2 → s < 2 → ∀ k, SpB (b t) (p t) k → ¬ OB (q s) k := fun t s ht hs k h h2 => by have := (I.lF t ht k h).1; have := (I.lG s hs k h2).1; omega
  have hFF : ∀ t s, t < 2 → s < 2 → t ≠ s → ∀ k, SpB (b t) (p t) k → ¬ SpB (b s) (p s) k := fun t s ht hs hts k h h2 => by have := (I.lF t ht k h).1; have := (I.lF s hs k h2).1; omega
  have hGG : ∀ t s, t < 2 → s < 2 → t ≠ s → ∀ k, OB (q t) k → ¬ OB (q s) k := fun t s ht hs hts k h h2 => by have := (I.lG t ht k h).1; have := (I.lG s hs k h2).1; omega
  have MS : Vcg.Mod (fun k => k = Y) w3 (w3.setCell ⟨Y, j, none⟩ (.slice q' l' c')) := Mod.setCell w3 ⟨Y, j, none⟩ (.slice q' l' c')
  -- the new sponge's blocks, and the new slice's: not Y
  have hS' : ∀ k, SpB (b j) o' k → SpB (b j) (p j) k ∨ w1.heap.size ≤ k := fun k hk => hk.elim (fun h => .inl (.inl h)) (fun h => (hF k h).elim (fun h => .inl (.inr h)) .inr)
  have hS'Y : ¬ SpB (b j) o' Y := fun h => (hS' Y h).elim (hYF j hj) (fun h => by omega)
  have hq'Y : ¬ OB q' Y := fun h => (hG Y h).elim (hYG j hj) (fun h => by omega)
  have hS'lt : ∀ k, SpB (b j) o' k → k < w2.heap.size := fun k hk => hS.lt hk
  refine ⟨fun k => if k < w1.heap.size then lab k else if k < w2.heap.size then j else 2 + j, fun t => if t = j then o' else p t, fun t => if t = j then q' else q t, fun t => if t = j then l' else lq t, fun t => if t = j then c' else cq t, ?_⟩
  refine ⟨?_, ?_, ?_, ?_, ?_, ?_, ?_, I.hX, I.hY, ?_, ?_, ?_⟩
  · refine ((((I.M.none_trans M1).trans M2 (fun k hk h => ?_)).trans M3 (fun k hk h => ?_))).step_set (fun h => ?_)
    · have := (I.lF j hj k h).2; omega
    · have := (I.lG j hj k h).2; omega
    · have := I.hY; simp only at h; omega
  · exact (((I.BX.mod' M1).mod M2 (hXF j hj)).mod M3 (hXG j hj)).mod MS hXY
  · have h1 := (((I.BY.mod' M1).mod M2 (hYF j hj)).mod M3 (hYG j hj)).set j (.slice q' l' c')
    rw [set_arrOf] at h1
    refine (show _ = arrOf 2 (fun t => Value.slice (if t = j then q' else q t) (if t = j then l' else lq t) (if t = j then c' else cq t)) from arrOf_congr (fun t ht => ?_)) ▸ h1
    by_cases h : t = j <;> simp [h]
  · intro t ht
    by_cases h : t = j
    · subst h
      simp only [if_true]
      rw [half, if_pos hij, ← hbs]
      refine (hS.mod M3 (fun k hk => ?_)).mod MS (fun k hk he => hS'Y (he ▸ hk))
      intro hG'
      rcases hS' k hk with h | h
      · exact hFG t t ht ht k h hG'
      · have := hGlt t ht k hG'; omega
    · simp only [h, if_false]
      rw [half, if_neg (by omega)]
      refine ((((I.sp t ht).mod M1 (fun k _ h => h)).mod M2 (fun k hk => hFF t j ht hj h k hk)).mod M3 (fun k hk => hFG t j ht hj k hk)).mod MS (fun k hk he => hYF t ht (he ▸ hk))
  · intro t ht
    by_cases h : t = j
    · subst h
      simp only [if_true]
      rw [half, if_pos hij, ← hbs]
      exact hO.mod MS (fun k hk he => hq'Y (he ▸ hk))
    · simp only [h, if_false]
      rw [half, if_neg (by omega)]
      refine ((((I.ow t ht).mod M1 (fun k _ h => h)).mod M2 (fun k hk h2 => hFG j t hj ht k h2 hk)).mod M3 (fun k hk => hGG t j ht hj h k hk)).mod MS (fun k hk he => hYG t ht (he ▸ hk))
  · rw [if_pos (by omega)]; exact I.lX
  · rw [if_pos (by omega)]; exact I.lY
  · intro t ht k hk
    by_cases h : t = j
    · subst h
      simp only [if_true] at hk
      rcases hS' k hk with h | h
      · have := hFlt t ht k h
        rw [if_pos (by omega)]
        exact I.lF t ht k h
      · have := hS'lt k hk
        rw [if_neg (by omega), if_pos this]
        exact ⟨rfl, by omega⟩
    · simp only [h, if_false] at hk
      have := hFlt t ht k hk
      rw [if_pos (by omega)]
      exact I.lF t ht k hk
  · intro t ht k hk
    by_cases h : t = j
    · subst h
      simp only [if_true] at hk
      rcases hG k hk with h | h
      · have := hGlt t ht k h
        rw [if_pos (by omega)]
        exact I.lG t ht k h
      · rw [if_neg (by omega), if_neg (by omega)]
        exact ⟨rfl, by omega⟩
    · simp only [h, if_false] at hk
      have := hGlt t ht k hk
      rw [if_pos (by omega)]
      exact I.lG t ht k hk
  · intro t ht
    have := I.len t ht
    rw [half]
    split
    · rw [List.length_append, ← hbs]; omega
    · omega

theorem Two_calls (w : World) {o0 : Option Addr} {l0 c0 : Nat} (ls : List (List UInt8)) (hl : l0 = ls.length) (hr : RdBB w o0 ls) (hmax : ls.length < 2 ^ 63) (hm2 : ∀ b ∈ ls, b.length < 2 ^ 63) :
    Calls Try.prog morainelaw3_KeccakTwo.n #[.slice o0 l0 c0] w (fun e w' => e = .returned (.bool true) ∧ Vcg.Mod NoB w w') := by
  subst hl
  refine morainelaw3_KeccakTwo.vc _ _ _ _ _ ?_
  unfold morainelaw3_KeccakTwo.Vc
  refine (known_calls _).mono ?_
  rintro _ w2 ⟨rfl, M2⟩
  refine ⟨true, rfl, (fun h => by cases h), fun _ => ⟨fun _ => ⟨rfl, M2⟩, fun h12 => ?_⟩⟩
  refine (New_calls _).mono ?_
  rintro _ w5 ⟨b0, rfl, S0, M5, hb0⟩
  refine ⟨_, rfl, (New_calls _).mono ?_⟩
  rintro _ w8 ⟨b1, rfl, S1, M8, hb1⟩
  refine ⟨_, rfl, ?_⟩
  have s2 := M2.size
  have s5 := M5.size
  have s8 := M8.size
  have hb0l := S0.lt (.inl rfl)
  have hb1l := S1.lt (.inl rfl)
  rintro d10 w11 ⟨rfl, rfl⟩
  have BX := Blk.new w8 tTwoP #[(.pointer none), (.pointer none)]
  refine ⟨BX.canSet (by decide) rfl, ?_⟩
  rintro _ rfl
  have BX1 := BX.set 0 (.pointer (some ⟨b0, 0, none⟩))
  have M11 := (((M2.none_trans M5).none_trans M8).step_alloc (.cells #[(.pointer none), (.pointer none)] tTwoP)).step_set (a := ⟨w8.heap.size, 0, none⟩) (v := .pointer (some ⟨b0, 0, none⟩)) (fun h => by simp only at h; omega)
  have N11 := (Mod.alloc (S := NoB) w8 (.cells #[(.pointer none), (.pointer none)] tTwoP)).step_set (a := ⟨w8.heap.size, 0, none⟩) (v := .pointer (some ⟨b0, 0, none⟩)) (fun h => by simp only at h; omega)
  refine ⟨by rw [add_at]; exact BX1.canSet (by simp) rfl, ?_⟩
  rintro _ rfl
  rw [add_at]
  have BX2 := BX1.set 1 (.pointer (some ⟨b1, 0, none⟩))
  have M12 := M11.step_set (a := ⟨w8.heap.size, 0 + 1, none⟩) (v := .pointer (some ⟨b1, 0, none⟩)) (fun h => by simp only at h; omega)
  have N12 := N11.step_set (a := ⟨w8.heap.size, 0 + 1, none⟩) (v := .pointer (some ⟨b1, 0, none⟩)) (fun h => by simp only at h; omega)
  rintro d14 w15 ⟨rfl, rfl⟩
  generalize hw13 : ((w8.alloc (.cells #[(.pointer none), (.pointer none)] tTwoP)).setCell ⟨w8.heap.size, 0, none⟩ (.pointer (some ⟨b0, 0, none⟩))).setCell ⟨w8.heap.size, 0 + 1, none⟩ (.pointer (some ⟨b1, 0, none⟩)) = w13 at *
  have BX3 : Blk w13 w8.heap.size tTwoP (arrOf 2 (fun j => .pointer (some ⟨if j = 0 then b0 else b1, 0, none⟩))) := BX2
  have hs13 := BX3.lt
  have BX4 := BX3.alloc (.cells #[(.slice none 0 0), (.slice none 0 0)] tTwoS)
  have BY : Blk _ w13.heap.size tTwoS (arrOf 2 (fun j => .slice none 0 0)) := Blk.new w13 tTwoS #[(.slice none 0 0), (.slice none 0 0)]
  have M15 := M12.step_alloc (.cells #[(.slice none 0 0), (.slice none 0 0)] tTwoS)
  have N15 := N12.step_alloc (.cells #[(.slice none 0 0), (.slice none 0 0)] tTwoS)
  generalize w13.alloc (.cells #[(.slice none 0 0), (.slice none 0 0)] tTwoS) = w15 at *
  generalize w8.heap.size = X at *
  generalize w13.heap.size = Y at *
  have I0 : TwoInv w X Y ls (fun k => if k = b0 then 0 else if k = b1 then 1 else if k = X then 4 else 5) (fun j => if j = 0 then b0 else b1) (fun _ => none) (fun _ => none) (fun _ => 0) (fun _ => 0) 0 w15 := by
    refine ⟨M15, BX4, BY, fun j hj => ?_, fun j hj => Own.nil _ _ _, ?_, ?_, by omega, by omega, fun j hj k hk => ?_, fun j hj k hk => (OB_none k hk).elim, fun j hj => by simp [half]⟩
    · by_cases h : j = 0
      · subst h; exact (S0.mod M8 (fun k _ h => h)).mod N15 (fun k _ h => h)
      · simp only [h, if_false]; exact S1.mod N15 (fun k _ h => h)
    · rw [if_neg (by omega), if_neg (by omega), if_pos rfl]
    · rw [if_neg (by omega), if_neg (by omega), if_neg (by omega)]
    · rcases hk with rfl | hk
      · by_cases h : j = 0
        · subst h; simp; omega
        · obtain rfl : j = 1 := by omega
          simp only [h, if_false]
          rw [if_neg (by omega)]
          simp; omega
      · exact (OB_none k hk).elim
  refine loopN ls.length (fun i w' => ∃ lab b p q lq cq, TwoInv w X Y ls lab b p q lq cq i w') rfl ⟨_, _, _, _, _, _, I0⟩ ?_ ?_
  · clear I0 M15 N15 BX4 BY
    rintro i _ w18 hi ⟨lab, b, p, q, lq, cq, I⟩
    obtain ⟨bb, f, oi, ci, ho0, hbl, hc, hri⟩ := (hr.mod' I.M) i hi
    subst ho0
    have hc' : ∀ w' : World, (∀ x, w'.cell? ⟨bb, x, none⟩ = w18.cell? ⟨bb, x, none⟩) → w'.cell? (Addr.add ⟨bb, f, none⟩ (Int.toNat (i : Int))) = some (.slice oi (ls.getD i []).length ci) := fun w' h => by
      rw [add_at, Int.toNat_natCast, h]; exact hc
    refine ⟨_, rfl, by omega, _, _, _, hc' _ (fun _ => rfl), fun _ => ⟨rfl, I.M⟩, fun h200 => ?_⟩
    rintro _ rfl
    have ej : Int.tmod (i : Int) 2 = ((i % 2 : Nat) : Int) := by rw [tmod_nn _ _ (by omega)]; omega
    rw [ej]
    have hj : i % 2 < 2 := Nat.mod_lt _ (by decide)
    generalize hbs : ls.getD i [] = bs at *
    refine ⟨by omega, _, I.BX.drew.rd0 (get_arrOf_lt hj), _, rfl, by omega, _, _, _, hc' _ (fun _ => rfl), ?_⟩
    obtain ⟨o1, c1, w1, h1, hO1, M1, hF1⟩ := append_u8 (ty := tSlU8) (Own.nil w18.drew tU8 1) (src_bytes (c := ci) und_slU8 (hri.mod' (Mod.drew w18))) (by omega)
    rw [List.nil_append, Nat.zero_add] at *
    have M1' : Vcg.Mod NoB w18 w1 := (Mod.drew w18).trans (M1.mono (fun k _ h => OB_none k h)) (fun k _ h => h)
    refine ⟨_, w1, h1, _, _, _, rfl, (I.BX.mod' M1').rd0 (get_arrOf_lt hj), ?_⟩
    refine (Write_calls ((I.sp _ hj).mod M1' (fun k _ h => h)) hO1.bytes rfl (by omega)).mono ?_
    rintro _ w2' ⟨rfl, o2, hS2, M2', hF2⟩
    refine ⟨rfl, ?_⟩
    rintro _ rfl
    have hXF : ∀ k, w18.heap.size ≤ k ∨ lab k ≠ i % 2 → ¬ SpB (b (i % 2)) (p (i % 2)) k := fun k hk h => by
      rcases hk with h2 | h2
      · have := (I.sp _ hj).lt h; omega
      · exact h2 (I.lF _ hj k h).1
    have hbb : ¬ SpB (b (i % 2)) (p (i % 2)) bb := fun h => by
      have h1 := (I.lF _ hj bb h).2
      obtain ⟨b', f', o', c', e1, e2, e3, _⟩ := hr i hi
      cases e1
      omega
    have hYw : ¬ SpB (b (i % 2)) (p (i % 2)) Y := hXF Y (.inr (by rw [I.lY]; omega))
    have BY2 := ((I.BY.mod' M1').mod M2' hYw).drew
    have hcell2 : ∀ x, (w2'.drew).cell? ⟨bb, x, none⟩ = w18.cell? ⟨bb, x, none⟩ := fun x => by
      have e1 : w1.cell? ⟨bb, x, none⟩ = w18.cell? ⟨bb, x, none⟩ := cell_mod M1' hbl (fun h => h)
      have e2 : w2'.cell? ⟨bb, x, none⟩ = w1.cell? ⟨bb, x, none⟩ := cell_mod M2' (Nat.lt_of_lt_of_le hbl M1'.size) hbb
      exact e2.trans e1
    have hOq := (((I.ow _ hj).mod' M1').mod M2' (fun k hk => hXF k (.inr (by rw [(I.lG _ hj k hk).1]; omega)))).mod' (Mod.drew w2')
    have hri2 : RdB w2'.drew oi bs := by
      have hr0 := hr i hi
      obtain ⟨b', f', o', c', e1, e2, e3, e4⟩ := hr0
      rw [hbs] at e3 e4
      cases e1
      have e5 : w18.cell? ⟨bb, f + i, none⟩ = w.cell? ⟨bb, f + i, none⟩ := cell_mod I.M e2 (fun h => h)
      rw [e3] at e5
      rw [hc] at e5
      cases e5
      have e6 := e4
      intro hne
      obtain ⟨bq, fq, hq1, hq2, hq3⟩ := e4 hne
      refine ⟨bq, fq, hq1, Nat.lt_of_lt_of_le (Nat.lt_of_lt_of_le (Nat.lt_of_lt_of_le hq2 I.M.size) M1'.size) M2'.size, fun x hx => ?_⟩
      rw [← hq3 x hx]
      have g1 : w18.cell? ⟨bq, fq + x, none⟩ = w.cell? ⟨bq, fq + x, none⟩ := cell_mod I.M hq2 (fun h => h)
      have g2 : w1.cell? ⟨bq, fq + x, none⟩ = w18.cell? ⟨bq, fq + x, none⟩ := cell_mod M1' (Nat.lt_of_lt_of_le hq2 I.M.size) (fun h => h)
      have g3 : w2'.cell? ⟨bq, fq + x, none⟩ = w1.cell? ⟨bq, fq + x, none⟩ := cell_mod M2' (Nat.lt_of_lt_of_le (Nat.lt_of_lt_of_le hq2 I.M.size) M1'.size) (fun h => by have := (I.lF _ hj bq h).2; omega)
      exact (g3.trans g2).trans g1
    have hlen := I.len _ hj
    have hq := Own.bytes_len (I.ow _ hj)
    obtain ⟨o3, c3, w3, h3, hO3, M3, hG3⟩ := append_u8 (ty := tSlU8) hOq (src_bytes (c := ci) und_slU8 hri2) (by omega)
    rw [← List.map_append] at hO3
    have hYG : ¬ OB (q (i % 2)) Y := fun h => by have := (I.lG _ hj Y h).1; have := I.lY; omega
    refine ⟨by omega, _, _, _, BY2.rd0 (get_arrOf_lt hj), _, rfl, by omega, _, _, _, hc' _ hcell2, _, w3, h3, _, _, _, rfl, by omega, (BY2.mod M3 hYG).canSet0 (by rw [size_arrOf]; exact hj) rfl, fun w4 h4 => ?_⟩
    rw [h4.at]
    have M2d : Vcg.Mod (SpB (b (i % 2)) (p (i % 2))) w1 w2'.drew := M2'.step_drew
    exact UpTo.next (by rw [wrap_i64_small (by omega) (by omega)]; omega) hi (by
      obtain ⟨lab', p', q2, lq', cq', I'⟩ := I.step hj rfl bs hbs.symm (by omega) M1' M2d (hS2.mod (Mod.drew w2') (fun k _ (h : False) => h)) hF2 M3 hO3 hG3
      exact ⟨lab', b, p', q2, lq', cq', I'⟩)
  · clear I0 M15 N15 BX4 BY
    rintro _ w18 ⟨lab, b, p, q, lq, cq, I⟩
    generalize ls.length = L at *
    rintro d50 w51 ⟨rfl, rfl⟩
    have BH := Blk.new w18 tTwoH (Array.replicate 64 (.int .u8 0))
    have MH := Mod.alloc (S := NoB) w18 (.cells (Array.replicate 64 (.int .u8 0)) tTwoH)
    generalize w18.alloc (.cells (Array.replicate 64 (.int .u8 0)) tTwoH) = w51 at *
    generalize hT : w18.heap.size = T at *
    refine loopN 2 (fun n w' => Vcg.Mod NoB w18 w' ∧ Blk w' T tTwoH (arrOf 64 (fun x => bV (if x / 32 < n then (sumOf (half ls (x / 32) L)).getD (x % 32) 0 else 0)))) rfl
      ⟨MH, by rw [replicate_arrOf] at BH; simp only [Nat.not_lt_zero, if_false]; exact BH⟩ ?_ ?_
    · clear MH BH
      rintro n _ w3 hn ⟨M3, B3⟩
      have hO := (I.ow n hn).mod' M3
      refine ⟨by omega, _, _, _, (I.BY.mod' M3).rd0 (get_arrOf_lt hn), ?_⟩
      have hq := Own.bytes_len hO
      have hlen := I.len n hn
      refine (refSum_calls (half ls n L) hq.symm (by omega) hO.bytes).mono ?_
      rintro _ w4 ⟨rfl, M4⟩
      refine ⟨_, rfl, by omega, ?_⟩
      rw [Int.toNat_natCast, add_at, Nat.zero_add]
      have B4 := B3.mod' M4
      have hi : (Try.prog.info? tHash).map (·.size) = some 32 := by kernel_rfl
      obtain ⟨inf, hi1, hi2⟩ := Option.map_eq_some_iff.1 hi
      have hst := B4.storeAt (L := hashA (sumOf (half ls n L))) (o := n * 32) hi1 (by rw [size_hashA]; exact hi2) (by rw [size_hashA, size_arrOf]; omega) (hashA_one _)
      have e : ((arrOf 64 (fun x => bV (if x / 32 < n then (sumOf (half ls (x / 32) L)).getD (x % 32) 0 else 0))).toList.take (n * 32) ++ (hashA (sumOf (half ls n L))).toList ++ (arrOf 64 (fun x => bV (if x / 32 < n then (sumOf (half ls (x / 32) L)).getD (x % 32) 0 else 0))).toList.drop (n * 32 + (hashA (sumOf (half ls n L))).size)).toArray =
          arrOf 64 (fun x => bV (if x / 32 < n + 1 then (sumOf (half ls (x / 32) L)).getD (x % 32) 0 else 0)) := by
        rw [size_hashA]
        refine (splice_arrOf 64 (n * 32) 32 _ _ (by omega)).trans (arrOf_congr (fun x hx => ?_))
        by_cases h1 : x < n * 32
        · rw [if_pos h1, if_pos (by omega), if_pos (by omega)]
        · rw [if_neg h1]
          by_cases h2 : x < n * 32 + 32
          · rw [if_pos h2, if_pos (by omega), show x / 32 = n by omega, show x - n * 32 = x % 32 by omega]
          · rw [if_neg h2, if_neg (by omega), if_neg (by omega)]
      rw [e] at hst
      exact ⟨_, hst, UpTo.next (by rw [wrap_i64_small (by omega) (by omega)]; omega) hn ⟨(M3.none_trans M4).step_row (fun h => by omega), B4.row_same _⟩⟩
    · clear MH BH
      rintro _ w3 ⟨M3, B3⟩
      rintro _ rfl
      have M3d := M3.step_drew
      have row : ∀ w', Vcg.Mod NoB w3.drew w' → ∀ j, j < 2 → RowAt w' ⟨T, 32 * j, none⟩ 32 (hashA (sumOf (half ls j L))) := fun w' M' j hj =>
        (B3.drew.mod' M').rowAt (size_hashA _) (fun i hi => by
          rw [get_arrOf_lt (by omega), hashA, get_arrOf_lt hi]
          rw [if_pos (by omega), show (32 * j + i) / 32 = j by omega, show (32 * j + i) % 32 = i by omega])
      have ptr : ∀ w', Vcg.Mod NoB w3.drew w' → ∀ j, j < 2 → w'.cell? ⟨X, j, none⟩ = some (.pointer (some ⟨b j, 0, none⟩)) := fun w' M' j hj =>
        ((I.BX.mod' M3d).mod' M').rd1 (get_arrOf_lt hj)
      have spg : ∀ w', Vcg.Mod NoB w3.drew w' → ∀ j, j < 2 → SpongeAt w' (b j) (p j) (half ls j L) := fun w' M' j hj =>
        (I.sp j hj).mod (M3d.none_trans M') (fun k _ h => h)
      have R0 := Mod.refl (S := NoB) w3.drew
      simp only [add_at, Nat.zero_add]
      refine ⟨_, ptr _ R0 0 (by decide), _, row _ R0 0 (by decide), (SpSum_calls (spg _ R0 0 (by decide))).mono ?_⟩
      rintro _ w4 ⟨rfl, M4⟩
      refine ⟨_, rfl, row _ M4 0 (by decide), _, hash_eq _ _ _, _, rfl, fun _ => ?_, fun h => by cases h⟩
      refine ⟨_, ptr _ M4 1 (by decide), _, row _ M4 1 (by decide), (SpSum_calls (spg _ M4 1 (by decide))).mono ?_⟩
      rintro _ w5 ⟨rfl, M5⟩
      have M5' := M4.none_trans M5
      refine ⟨_, rfl, row _ M5' 1 (by decide), _, hash_eq _ _ _, _, rfl, fun _ => ?_, fun h => by cases h⟩
      refine ⟨_, ptr _ M5' 0 (by decide), _, row _ M5' 0 (by decide), (SpSum_calls (spg _ M5' 0 (by decide))).mono ?_⟩
      rintro _ w6 ⟨rfl, M6⟩
      have M6' := M5'.none_trans M6
      exact ⟨_, rfl, row _ M6' 0 (by decide), _, hash_eq _ _ _, _, rfl, rfl, I.M.none_trans (M3d.none_trans M6')⟩

end Go.Proofs.Ytmnhdppcphficaa
