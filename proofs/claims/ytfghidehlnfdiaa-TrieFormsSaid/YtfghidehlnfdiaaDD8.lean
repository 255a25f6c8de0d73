/- Contracts: the reference's decoder (moraineref4). -/
/- Contracts: moraineref4.First, Decode. -/
/- Contracts: moraineref4.Of. What an item is: plain Lean. -/
/- The verification conditions of some functions, printed by a program of ours (wip/PrintVc.lean). -/
/- What item is a node: plain Lean; and the nodes that the trie makes of items. -/
import Derived.Test.YtfghidehlnfdiaaTVG
import Derived.Test.YtfghidehlnfdiaaProg
import Derived.KernelRfl
section
set_option linter.unusedVariables false
set_option linter.unusedSimpArgs false
namespace Go.Proofs.Ytfghidehlnfdiaa
open Go Go.Vcg Go.Trie
/-- Bytes from a place to another one. -/
def sg (B : By) (i j : Nat) : By := (B.drop i).take (j - i)
theorem sg_len {B : By} {i j : Nat} (h : j ≤ B.length) : (sg B i j).length = j - i := by unfold sg; rw [List.length_take, List.length_drop]; omega
theorem sg_get {B : By} {i j t : Nat} (h : i + t < j) : (sg B i j).getD t 0 = B.getD (i + t) 0 := by
  unfold sg
  simp only [List.getD_eq_getElem?_getD]
  rw [List.getElem?_take_of_lt (by omega), List.getElem?_drop]
theorem sg_sub {B : By} {i j a q : Nat} (h : i + a + q ≤ j) : ((sg B i j).drop a).take q = sg B (i + a) (i + a + q) := by
  unfold sg
  rw [List.drop_take, List.drop_drop, List.take_take]
  congr 1
  omega
theorem sg_drop {B : By} {i j a : Nat} : (sg B i j).drop a = sg B (i + a) j := by
  unfold sg
  rw [List.drop_take, List.drop_drop]
  congr 1
  omega
theorem sg_nil (B : By) (i : Nat) : sg B i i = [] := by simp [sg]
theorem sg_one {B : By} {i : Nat} (h : i < B.length) : sg B i (i + 1) = [B.getD i 0] := by
  unfold sg
  rw [Nat.add_sub_cancel_left, List.drop_eq_getElem_cons h, List.take_succ_cons, List.take_zero, List.getD_eq_getElem?_getD, List.getElem?_eq_getElem h]
  rfl
section
variable {w : World} {D n : Nat} {S : Value}
theorem fault_calls (X : Blk w D 221 #[S, .int .i64 (n : Int), .int .i64 0]) (x : Int) :
    Calls Try.prog moraineref4_reader_fault.n #[.pointer (some ⟨D, 0, none⟩), .int .i64 x] w (fun e w' => e = .returned (.tuple #[.agg #[.bool false, .slice none 0 0, .slice none 0 0], .int .i64 0]) ∧ Vcg.Mod (· = D) w w' ∧ Blk w' D 221 #[S, .int .i64 (n : Int), .int .i64 x]) := by
  refine moraineref4_reader_fault.vc _ _ _ _ ?_
  unfold moraineref4_reader_fault.Vc
  have hD := X.lt
  rintro d1 w1 ⟨rfl, rfl⟩
  have M1 : Vcg.Mod NoB w _ := Mod.alloc w (.cells #[.bool false, .slice none 0 0, .slice none 0 0] 138)
  have Y1 := Blk.new w 138 #[.bool false, .slice none 0 0, .slice none 0 0]
  have X1 := X.mod' M1
  generalize hN : w.heap.size = N at *
  generalize w.alloc (.cells #[.bool false, .slice none 0 0, .slice none 0 0] 138) = w1 at *
  refine ⟨0, by rw [add_at]; exact X1.rd1 rfl, fun _ => ?_, fun h => (h rfl).elim⟩
  rw [add_at]
  refine ⟨X1.canSet (by simp) rfl, ?_⟩
  rintro _ rfl
  have X2 := X1.set 2 (.int .i64 x)
  have Y2 := Y1.set_ne (a := ⟨D, 0 + 2, none⟩) (v := .int .i64 x) (by simp; omega)
  have M2 : Vcg.Mod (· = D) w _ := (M1.mono (fun _ _ h => h.elim)).step_set (a := ⟨D, 0 + 2, none⟩) (v := .int .i64 x) (fun _ => rfl)
  exact ret_3 Y2 (fun w3 M3 => ⟨rfl, M2.trans M3 (fun i hi h => by omega), X2.mod M3 (by omega)⟩)
end
/-- What the reader has answered. -/
def RdIs (r : Except Int (It × Nat × Nat)) (S : Value) (i : Nat) (w : World) (D : Nat) (e : Ending) (w' : World) : Prop := match r with
  | .error x => x ≠ 0 ∧ e = .returned (.tuple #[.agg #[.bool false, .slice none 0 0, .slice none 0 0], .int .i64 0]) ∧ ∃ n' : Nat, Blk w' D 221 #[S, .int .i64 (n' : Int), .int .i64 x]
  | .ok (x, q, m) => Blk w' D 221 #[S, .int .i64 (m : Int), .int .i64 0] ∧ ∃ v1 v2 v3, e = .returned (.tuple #[.agg #[v1, v2, v3], .int .i64 ((i + q : Nat) : Int)]) ∧ ItC (fun b => b < w.heap.size) w' x v1 v2 v3
theorem its_nil_s (A : Nat → Prop) (w : World) : ItC A w (.s []) (.bool false) (.slice none 0 0) (.slice none 0 0) := by
  simp only [ItC]
  exact ⟨trivial, ⟨none, 0, rfl, RdB.nil _ _, fun h => (h rfl).elim⟩, trivial⟩
/-- A number that is told up to 2^31. -/
def CapIs (v : Int) (b : By) : Prop := 0 ≤ v ∧ v ≤ 1099511627776 ∧ (v = (be b : Int) ∨ (v > 2147483648 ∧ be b > 2147483648))
set_option maxHeartbeats 2000000 in
set_option maxRecDepth 10000 in
theorem item_calls : ∀ (f d n i j : Nat) (B : By) {w : World} {D k : Nat} {o : Option Addr}, 2 * (j - i) + 1 ≤ f → i ≤ j → j ≤ B.length → B.length ≤ 65536 → RdB w o B → B.length ≤ k → Blk w D 221 #[.slice o B.length k, .int .i64 (n : Int), .int .i64 0] → (B ≠ [] → Off (· = D) o) → n ≤ 4096 → d ≤ 20 →
    Calls Try.prog moraineref4_reader_item.n #[.pointer (some ⟨D, 0, none⟩), .int .i64 (i : Int), .int .i64 (j : Int), .int .i64 (d : Int)] w (fun e w' => Vcg.Mod (· = D) w w' ∧ RdIs (dcd f d n (sg B i j)) (.slice o B.length k) i w D e w')
  | 0, _, _, _, _, _, _, _, _, _, hf, _, _, _, _, _, _, _, _, _ => absurd hf (by omega)
  | f + 1, d, n, i, j, B, w, D, k, o, hf, hij, hjB, hlen, hr, hk, W, hoff, hn, hd20 => by
    refine calls_gen fun R hR => moraineref4_reader_item.vc _ _ _ _ _ _ ?_
    unfold moraineref4_reader_item.Vc
    have hD := W.lt
    rintro d3 w1 ⟨rfl, rfl⟩
    have M1 : Vcg.Mod NoB w _ := Mod.alloc w (.cells #[.bool false, .slice none 0 0, .slice none 0 0] 138)
    have X1 := Blk.new w 138 #[.bool false, .slice none 0 0, .slice none 0 0]
    have hs1 := size_alloc w (.cells #[.bool false, .slice none 0 0, .slice none 0 0] 138)
    have W1 := W.mod' M1
    have hr1 := hr.mod' M1
    generalize hN : w.heap.size = N at *
    generalize w.alloc (.cells #[.bool false, .slice none 0 0, .slice none 0 0] 138) = w1 at *
    have M1' : Vcg.Mod (· = D) w w1 := M1.mono (fun _ _ h => h.elim)
    generalize hS : Value.slice o B.length k = S at *
    have hbl : (sg B i j).length = j - i := sg_len hjB
    -- an error is told
    have bad : ∀ (w' : World) (n' : Nat) (a b c : Value) (x : Int), Vcg.Mod (· = D) w w' → Blk w' D 221 #[S, .int .i64 (n' : Int), .int .i64 0] → Blk w' N 138 #[a, b, c] → dcd (f + 1) d n (sg B i j) = .error x → x ≠ 0 →
        Calls Try.prog 138 #[.pointer (some ⟨D, 0, none⟩), .int .i64 x] w' (fun e w'' => e = .returned (.tuple #[.agg #[.bool false, .slice none 0 0, .slice none 0 0], .int .i64 0]) ∧ Blk w'' N 138 #[a, b, c] ∧
          ∀ w3, Vcg.Mod (· = N) w'' w3 → R (.returned (.tuple #[.agg #[.bool false, .slice none 0 0, .slice none 0 0], .int .i64 0])) w3) := by
      intro w' n' a b c x M X' Y hx h0
      refine (fault_calls X' x).mono ?_
      rintro _ w2 ⟨rfl, M2, X2⟩
      refine ⟨rfl, Y.mod M2 (by omega), fun w3 M3 => hR _ _ ⟨(M.trans M2 (fun i hi h => h)).trans M3 (fun i hi h => by omega), ?_⟩⟩
      rw [hx]
      exact ⟨h0, rfl, n', X2.mod M3 (by omega)⟩
    refine ⟨fun h0 => ?_, fun h0 => ?_⟩
    · have hb : sg B i j = [] := List.eq_nil_of_length_eq_zero (by omega)
      refine (bad w1 n _ _ _ 41 M1' W1 X1 (by rw [hb]; exact dcd_nil f d n) (by decide)).mono ?_
      rintro _ w2 ⟨rfl, X2, h2⟩
      exact ⟨_, _, _, _, _, _, _, _, rfl, ret_3 X2 h2⟩
    have hlt : i < j := by omega
    have hbne : sg B i j ≠ [] := fun h => by rw [h] at hbl; simp at hbl; omega
    have hBne : B ≠ [] := by rintro rfl; simp at hjB; omega
    refine ⟨fun hdeep => ?_, fun hdeep => ⟨_, by rw [add_at]; exact W1.rd1 rfl, fun hful => ?_, fun hful => ⟨_, by rw [add_at]; exact W1.rd1 rfl, ?_⟩⟩⟩
    · refine (bad w1 n _ _ _ 43 M1' W1 X1 (dcd_deep hbne (.inl (by omega))) (by decide)).mono ?_
      rintro _ w2 ⟨rfl, X2, h2⟩
      exact ⟨_, _, _, _, _, _, _, _, rfl, ret_3 X2 h2⟩
    · refine (bad w1 n _ _ _ 43 M1' W1 X1 (dcd_deep hbne (.inr (by omega))) (by decide)).mono ?_
      rintro _ w2 ⟨rfl, X2, h2⟩
      exact ⟨_, _, _, _, _, _, _, _, rfl, ret_3 X2 h2⟩
    have ewn : IntKind.wrap .i64 ((n : Int) + 1) = ((n + 1 : Nat) : Int) := by rw [wrap_i64_small (by omega) (by omega)]; omega
    rw [ewn, add_at]
    refine ⟨W1.canSet (by simp) rfl, ?_⟩
    rintro _ rfl
    have W2 := W1.set 1 (.int .i64 ((n + 1 : Nat) : Int))
    have X2 := X1.set_ne (a := ⟨D, 0 + 1, none⟩) (v := .int .i64 ((n + 1 : Nat) : Int)) (by simp; omega)
    have M2 : Vcg.Mod (· = D) w _ := M1'.step_set (a := ⟨D, 0 + 1, none⟩) (v := .int .i64 ((n + 1 : Nat) : Int)) (fun _ => rfl)
    have hr2 : RdB _ o B := hr1.mod (Mod.setCell w1 ⟨D, 0 + 1, none⟩ (.int .i64 ((n + 1 : Nat) : Int))) (hoff hBne)
    have hs2 : (w1.setCell ⟨D, 0 + 1, none⟩ (.int .i64 ((n + 1 : Nat) : Int))).heap.size = N + 1 := by rw [size_setCell]; exact hs1
    generalize w1.setCell ⟨D, 0 + 1, none⟩ (.int .i64 ((n + 1 : Nat) : Int)) = w2 at *
    clear X1 W1 hr1 M1 M1' hs1
    subst hS
    have hN2 : ∀ {w' : World}, Vcg.Mod (· = D) w w' → RdB w' o B := fun M => hr.mod M (hoff hBne)
    obtain ⟨b0, f0, rfl, hb0, hcells⟩ := hr2 hBne
    have hb0N : b0 < N := by
      obtain ⟨b1, f1, h1, h2, _⟩ := hr hBne
      cases h1
      omega
    have cell : ∀ {w' : World}, Vcg.Mod (· = D) w w' → ∀ t, t < B.length → w'.cell? ⟨b0, f0 + t, none⟩ = some (bV (B.getD t 0)) := fun M t ht => by
      obtain ⟨b1, f1, h1, h2, h3⟩ := hN2 M hBne
      cases h1
      exact h3 t ht
    have hdn : ¬ (d > 16 ∨ n = 4096) := by omega
    have hdec := dcd_go (f := f) hbne hdn
    have hg0 : (sg B i j).getD 0 0 = B.getD i 0 := by rw [sg_get (by omega), Nat.add_zero]
    generalize hcv : (B.getD i 0).toNat = c at *
    have hc255 : c ≤ 255 := by have := (B.getD i 0).toNat_lt; omega
    refine ⟨_, _, _, W2.rd1 rfl, _, rfl, ⟨by omega, by omega⟩, (c : Int), by rw [add_at, Int.toNat_natCast]; have := cell M2 i (by omega); simp only [bV, hcv] at this; exact this, ?_⟩
    have ec : IntKind.wrap .i64 (c : Int) = (c : Int) := wrap_i64_small (by omega) (by omega)
    have ei1 : IntKind.wrap .i64 ((i : Int) + 1) = ((i + 1 : Nat) : Int) := by rw [wrap_i64_small (by omega) (by omega)]; omega
    rw [ec, ei1]
    have hhd : hd (sg B i j) = (if c < 128 then .ok (false, 0, 1, true) else
      if c - (if c ≥ 192 then 192 else 128) ≤ 55 then .ok (decide (c ≥ 192), 1, c - (if c ≥ 192 then 192 else 128), false)
      else if j - i < 1 + (c - (if c ≥ 192 then 192 else 128) - 55) then .error 41
      else if (sg B i j).getD 1 0 = 0 ∨ be (((sg B i j).drop 1).take (c - (if c ≥ 192 then 192 else 128) - 55)) ≤ 55 ∨ be (((sg B i j).drop 1).take (c - (if c ≥ 192 then 192 else 128) - 55)) > 2147483648 then .error 40
      else .ok (decide (c ≥ 192), 1 + (c - (if c ≥ 192 then 192 else 128) - 55), be (((sg B i j).drop 1).take (c - (if c ≥ 192 then 192 else 128) - 55)), false)) := by
      unfold hd
      simp only [hg0, hcv, hbl]
    refine ⟨fun hc => ?_, fun hc => ?_⟩
    · rw [show hd (sg B i j) = .ok (false, 0, 1, true) by rw [hhd, if_pos (by omega)]] at hdec
      simp only at hdec
      rw [if_neg (by omega), if_pos trivial, if_neg (fun h => by exact absurd h.1 (by decide))] at hdec
      have e8 : IntKind.wrap .u8 (c : Int) = (c : Int) := by rw [wrap_u8]; omega
      rw [e8]
      rintro d4 w3 ⟨rfl, rfl⟩
      have M23 : Vcg.Mod NoB w2 _ := Mod.alloc w2 (.cells #[.int .u8 (c : Int)] 5)
      have Z := Blk.new w2 5 #[.int .u8 (c : Int)]
      refine ret_3 (X2.mod' M23) (fun w4 M4 => hR _ _ ⟨(M2.none_trans M23).trans M4 (fun i hi h => by omega), ?_⟩)
      rw [hdec]
      refine ⟨(W2.mod' M23).mod M4 (by omega), _, _, _, rfl, ?_⟩
      have e1 : ((sg B i j).drop 0).take 1 = [B.getD i 0] := by
        rw [sg_sub (by omega), Nat.add_zero]
        exact sg_one (by omega)
      rw [e1]
      simp only [ItC]
      refine ⟨trivial, ⟨_, _, rfl, RdB.of_blk (Z.mod M4 (by omega)) (fun t ht => ?_), fun _ dd hdd h => ?_⟩, trivial⟩
      · simp only [List.length_singleton] at ht
        obtain rfl : t = 0 := by omega
        simp only [Nat.zero_add, bV, List.getD_cons_zero, hcv]
        rfl
      · cases hdd
        have h' : w2.heap.size < w.heap.size := h
        omega
    generalize hbase : (if c ≥ 192 then 192 else 128) = base at *
    have hb1 : 128 ≤ base ∧ base ≤ c := by rw [← hbase]; split <;> omega
    have hkk8 : c - base - 55 ≤ 8 := by rw [← hbase]; split <;> omega
    rw [if_neg (by omega)] at hhd
    refine ⟨fun v w' => w' = w2 ∧ v = (base : Int), ⟨fun h => ⟨rfl, ?_⟩, fun h => ⟨rfl, ?_⟩⟩, ?_⟩
    · rw [← hbase, if_pos (by omega)]; rfl
    · rw [← hbase, if_neg (by omega)]; rfl
    rintro _ _ w2 ⟨rfl, rfl⟩
    have ecb : IntKind.wrap .i64 ((c : Int) - (base : Int)) = ((c - base : Nat) : Int) := by rw [wrap_i64_small (by omega) (by omega)]; omega
    rw [ecb]
    refine ⟨fun v t w' => w' = w2 ∧ ∃ a q : Nat, hd (sg B i j) = .ok (decide (c ≥ 192), a, q, false) ∧ v = (q : Int) ∧ t = ((i + a : Nat) : Int) ∧ 1 ≤ a ∧ a ≤ j - i, ⟨fun hgt => ?_, fun hle => ?_⟩, ?_⟩
    · have e55 : IntKind.wrap .i64 (((c - base : Nat) : Int) - 55) = ((c - base - 55 : Nat) : Int) := by rw [wrap_i64_small (by omega) (by omega)]; omega
      rw [e55]
      rw [if_neg (by omega)] at hhd
      generalize hkk : c - base - 55 = kk at *
      have efk : IntKind.wrap .i64 (((i + 1 : Nat) : Int) + (kk : Int)) = ((i + 1 + kk : Nat) : Int) := by rw [wrap_i64_small (by omega) (by omega)]; omega
      rw [efk]
      refine ⟨fun hsh => ?_, fun hsh => ?_⟩
      · rw [if_pos (by omega)] at hhd
        rw [hhd] at hdec
        refine (bad w2 (n + 1) _ _ _ 41 M2 W2 X2 hdec (by decide)).mono ?_
        rintro _ w3 ⟨rfl, X3, h3⟩
        exact ⟨_, _, _, _, _, _, _, _, rfl, ret_3 X3 h3⟩
      rw [if_neg (by omega)] at hhd
      refine ⟨fun v t w' => w' = w2 ∧ ∃ u : Nat, t = (u : Int) ∧ u ≤ kk ∧ CapIs v (((sg B i j).drop 1).take u), fun _ t _ => ((kk : Int) - t).toNat, ⟨rfl, 0, rfl, Nat.zero_le _, by decide, by decide, .inl (by simp [be])⟩, ?_⟩
      rintro v _ _ w2 ⟨rfl, u, rfl, hu, hv0, hv1, hv⟩
      have ew : IntKind.wrap .i64 ((u : Int) + 1) = ((u + 1 : Nat) : Int) := by rw [wrap_i64_small (by omega) (by omega)]; omega
      refine ⟨fun hlt => ?_, fun hge => ?_⟩
      · have huk : u < kk := by omega
        have hstep := be_step (sg B i j) (j := u) (by omega)
        have hgu : ((sg B i j).drop 1).getD u 0 = B.getD (i + 1 + u) 0 := by rw [sg_drop, sg_get (by omega)]
        rw [hgu] at hstep
        refine ⟨fun b w' => w' = w2 ∧ b = decide (v ≤ 2147483648), ⟨fun _ => ⟨rfl, rfl⟩, fun h8 => by omega⟩, ?_⟩
        rintro _ _ w2 ⟨rfl, rfl⟩
        rw [ew]
        have efu : IntKind.wrap .i64 (((i + 1 : Nat) : Int) + (u : Int)) = ((i + 1 + u : Nat) : Int) := by rw [wrap_i64_small (by omega) (by omega)]; omega
        rw [efu]
        refine ⟨fun hb => ?_, fun hb => ?_⟩
        · have hvle := of_decide_eq_true hb
          have hvbe : v = (be (((sg B i j).drop 1).take u) : Int) := by
            rcases hv with h | h
            · exact h
            · omega
          have c1 := cell M2 (i + 1 + u) (by omega)
          have hd256 := (B.getD (i + 1 + u) 0).toNat_lt
          refine ⟨_, _, _, W2.rd1 rfl, _, rfl, ⟨by omega, by omega⟩, ((B.getD (i + 1 + u) 0).toNat : Int), by rw [add_at, Int.toNat_natCast]; exact c1, ?_⟩
          have ev : IntKind.wrap .i64 ((IntKind.wrap .i64 (256 * v)) + (IntKind.wrap .i64 ((B.getD (i + 1 + u) 0).toNat : Int))) = ((be (((sg B i j).drop 1).take (u + 1)) : Nat) : Int) := by
            rw [wrap_i64_small (n := 256 * v) (by omega) (by omega), wrap_i64_small (n := ((B.getD (i + 1 + u) 0).toNat : Int)) (by omega) (by omega), wrap_i64_small (by omega) (by omega), hstep]
            omega
          rw [ev]
          exact ⟨⟨rfl, u + 1, rfl, huk, by omega, by omega, .inl rfl⟩, by dsimp only; omega⟩
        · have hvgt := of_decide_eq_false hb
          exact ⟨⟨rfl, u + 1, rfl, huk, hv0, hv1, .inr ⟨by omega, by omega⟩⟩, by dsimp only; omega⟩
      · obtain rfl : u = kk := by omega
        have c1 := cell M2 (i + 1) (by omega)
        have hg1 : (sg B i j).getD 1 0 = B.getD (i + 1) 0 := sg_get (by omega)
        rw [hg1] at hhd
        refine ⟨_, _, _, W2.rd1 rfl, _, rfl, ⟨by omega, by omega⟩, ((B.getD (i + 1) 0).toNat : Int), by rw [add_at, Int.toNat_natCast]; exact c1, fun hz => ?_, fun hz => ⟨fun h56 => ?_, fun h56 => ⟨fun hbig => ?_, fun hbig => ?_⟩⟩⟩
        · have hz0 : B.getD (i + 1) 0 = 0 := UInt8.toNat_inj.1 (by simpa using hz)
          rw [if_pos (.inl hz0)] at hhd
          rw [hhd] at hdec
          refine (bad w2 (n + 1) _ _ _ 40 M2 W2 X2 hdec (by decide)).mono ?_
          rintro _ w3 ⟨rfl, X3, h3⟩
          exact ⟨_, _, _, _, _, _, _, _, rfl, ret_3 X3 h3⟩
        · rw [if_pos (.inr (.inl (by omega)))] at hhd
          rw [hhd] at hdec
          refine (bad w2 (n + 1) _ _ _ 40 M2 W2 X2 hdec (by decide)).mono ?_
          rintro _ w3 ⟨rfl, X3, h3⟩
          exact ⟨_, _, _, _, _, _, _, _, rfl, ret_3 X3 h3⟩
        · rw [if_pos (.inr (.inr (by omega)))] at hhd
          rw [hhd] at hdec
          refine (bad w2 (n + 1) _ _ _ 40 M2 W2 X2 hdec (by decide)).mono ?_
          rintro _ w3 ⟨rfl, X3, h3⟩
          exact ⟨_, _, _, _, _, _, _, _, rfl, ret_3 X3 h3⟩
        · have hnz : ¬ B.getD (i + 1) 0 = 0 := fun h => hz (by rw [h]; rfl)
          rw [if_neg (fun h => h.elim hnz (fun h => h.elim (fun h => by omega) (fun h => by omega)))] at hhd
          exact ⟨rfl, 1 + u, _, hhd, by omega, by omega, by omega, by omega⟩
    · rw [if_pos (by omega)] at hhd
      exact ⟨rfl, 1, c - base, hhd, rfl, rfl, Nat.le_refl _, by omega⟩
    · clear hhd
      rintro _ _ _ w2 ⟨rfl, a, q, hh, rfl, rfl, ha1, haj⟩
      rw [hh] at hdec
      simp only at hdec
      have hq31 := hd_bound hh
      have ejf : IntKind.wrap .i64 ((j : Int) - ((i + a : Nat) : Int)) = ((j - (i + a) : Nat) : Int) := by rw [wrap_i64_small (by omega) (by omega)]; omega
      have eto : IntKind.wrap .i64 (((i + a : Nat) : Int) + (q : Int)) = ((i + a + q : Nat) : Int) := by rw [wrap_i64_small (by omega) (by omega)]; omega
      rw [ejf]
      refine ⟨fun hbig => ?_, fun hbig => ?_⟩
      · rw [if_pos (by omega)] at hdec
        refine (bad w2 (n + 1) _ _ _ 41 M2 W2 X2 hdec (by decide)).mono ?_
        rintro _ w3 ⟨rfl, X3, h3⟩
        exact ⟨_, _, _, _, _, _, _, _, rfl, ret_3 X3 h3⟩
      rw [if_neg (by omega)] at hdec
      have hq : i + a + q ≤ j := by omega
      rw [sg_sub hq] at hdec
      rw [eto]
      have hil : (sg B (i + a) (i + a + q)).length = q := by rw [sg_len (by omega)]; omega
      refine ⟨fun h128 => ?_, fun h128 => ?_⟩
      · have hc192 : ¬ c ≥ 192 := fun h => by rw [if_pos h] at hbase; omega
        rw [if_pos (decide_eq_false hc192)] at hdec
        refine ⟨fun w' => w' = w2 ∧ Trie.own (sg B (i + a) (i + a + q)) = false, ⟨fun h1 => ?_, fun h1 => ⟨rfl, ?_⟩⟩, ?_⟩
        · have c1 := cell M2 (i + a) (by omega)
          have e1 : sg B (i + a) (i + a + q) = [B.getD (i + a) 0] := by
            rw [show i + a + q = i + a + 1 by omega]
            exact sg_one (by omega)
          refine ⟨_, _, _, W2.rd1 rfl, _, rfl, ⟨by omega, by omega⟩, ((B.getD (i + a) 0).toNat : Int), by rw [add_at, Int.toNat_natCast]; exact c1, fun hlt => ?_, fun hlt => ⟨rfl, ?_⟩⟩
          · have ho : Trie.own (sg B (i + a) (i + a + q)) = true := by
              rw [e1]
              simp only [Trie.own, decide_eq_true_eq]
              rw [UInt8.lt_iff_toNat_lt]
              show _ < 128
              omega
            rw [if_pos ⟨trivial, ho⟩] at hdec
            refine (bad w2 (n + 1) _ _ _ 40 M2 W2 X2 hdec (by decide)).mono ?_
            rintro _ w3 ⟨rfl, X3, h3⟩
            exact ⟨_, _, _, _, _, _, _, _, rfl, ret_3 X3 h3⟩
          · rw [e1]
            simp only [Trie.own, decide_eq_false_iff_not]
            rw [UInt8.lt_iff_toNat_lt]
            show ¬ _ < 128
            omega
        · have hq1 : q ≠ 1 := by omega
          cases h : sg B (i + a) (i + a + q) with
          | nil => rfl
          | cons x r =>
            cases r with
            | nil => rw [h] at hil; simp at hil; omega
            | cons y r => rfl
        · rintro _ w2 ⟨rfl, hown⟩
          rw [if_neg (fun h => by rw [hown] at h; exact absurd h.2 (by decide))] at hdec
          have hsub := ((hN2 M2).sub (c := k) (lo := i + a) (n := q) hk)
          rw [show (B.drop (i + a)).take q = sg B (i + a) (i + a + q) by unfold sg; rw [Nat.add_sub_cancel_left]] at hsub
          obtain ⟨o5, k5, w5, hr5, F5⟩ := copy_bytes' (k2 := k - (i + a)) (ty := 22) (Mod.refl w2) hsub (by omega)
          rw [hil] at hr5 F5
          simp only [Int.toNat_natCast]
          refine ⟨_, _, _, W2.rd1 rfl, ⟨by omega, by omega⟩, ⟨by omega, by omega⟩, _, w5, by rw [show i + a + q - (i + a) = q by omega]; exact hr5, _, _, _, rfl, ret_3 (X2.mod' F5.mod) (fun w6 M6 => hR _ _ ⟨(M2.none_trans F5.mod).trans M6 (fun i hi h => by omega), ?_⟩)⟩
          rw [hdec]
          refine ⟨(W2.mod' F5.mod).mod M6 (by omega), _, _, _, by rw [Nat.add_assoc], ?_⟩
          simp only [ItC]
          have hN5 : ∀ b, OB o5 b → ¬ b = N := fun b hb h => by have := F5.new b hb; omega
          refine ⟨trivial, ⟨o5, k5, by rw [hil], (F5.own.mod M6 hN5).bytes, fun _ dd hdd h => ?_⟩, trivial⟩
          have := F5.new dd.block ⟨dd, hdd, rfl⟩
          have h' : dd.block < w.heap.size := h
          omega
      · have hc192 : c ≥ 192 := by
          rcases Nat.lt_or_ge c 192 with h | h
          · rw [if_neg (by omega)] at hbase; omega
          · exact h
        rw [if_neg (by rw [decide_eq_true hc192]; decide)] at hdec
        rintro dX w6 ⟨rfl, rfl⟩
        have Y6 := Blk.new w2 138 #[.bool false, .slice none 0 0, .slice none 0 0]
        have M26 : Vcg.Mod NoB w2 _ := Mod.alloc w2 (.cells #[.bool false, .slice none 0 0, .slice none 0 0] 138)
        have hs6 := size_alloc w2 (.cells #[.bool false, .slice none 0 0, .slice none 0 0] 138)
        generalize hY : w2.heap.size = Y at *
        generalize w2.alloc (.cells #[.bool false, .slice none 0 0, .slice none 0 0] 138) = w6 at *
        refine set3 Y6 rfl rfl rfl (fun w7 Y7 Q7 => ?_)
        have M27 : Vcg.Mod NoB w2 w7 := mod_of M26 Q7 (by omega)
        have X7 := X2.mod' M27
        have W7 := W2.mod' M27
        have M07 := M2.none_trans M27
        have hs7 := M27.size
        have hY7 := Y7.lt
        clear X2 W2 Y6 M26 Q7 cell hcells hr2
        let good : Int → World → Prop := fun v w' => ∃ (fr n' : Nat) (xs : List It) (f' : Nat) (ol : Option Addr) (kl : Nat), v = (fr : Int) ∧ i + a ≤ fr ∧ fr ≤ i + a + q ∧ Blk w' D 221 #[.slice (some ⟨b0, f0, none⟩) B.length k, .int .i64 (n' : Int), .int .i64 0] ∧ n' ≤ 4096 ∧
          Blk w' Y 138 #[.bool true, .slice none 0 0, .slice ol xs.length kl] ∧ (∃ a b c, Blk w' N 138 #[a, b, c]) ∧ ItOwn (fun b => b < w7.heap.size) w' xs ol xs.length kl ∧ (∀ b, OB ol b → w7.heap.size ≤ b) ∧ Vcg.Mod (· = D) w w' ∧ w7.heap.size ≤ w'.heap.size ∧
          dcds f (d + 1) (n + 1) (sg B (i + a) (i + a + q)) = pre xs (dcds f' (d + 1) n' (sg B fr (i + a + q))) ∧ 2 * (i + a + q - fr) + 2 ≤ f' ∧ f' ≤ f ∧ xs.length + (i + a + q - fr) ≤ q
        let over : World → Prop := fun w' => ∃ (x : Int) (n' : Nat), x ≠ 0 ∧ dcds f (d + 1) (n + 1) (sg B (i + a) (i + a + q)) = .error x ∧ Blk w' D 221 #[.slice (some ⟨b0, f0, none⟩) B.length k, .int .i64 (n' : Int), .int .i64 x] ∧ (∃ a b c, Blk w' N 138 #[a, b, c]) ∧ Vcg.Mod (· = D) w w'
        have hfq : 2 * q + 2 ≤ f := by omega
        refine ⟨fun w' => over w' ∨ good ((i + a + q : Nat) : Int) w', ⟨fun v w' => over w' ∨ good v w', fun v w' => match w'.cell? ⟨D, 2, none⟩ with | some (.int .i64 0) => (((i + a + q : Nat) : Int) - v).toNat + 1 | _ => 0, .inr ⟨i + a, n + 1, [], f, none, 0, rfl, Nat.le_refl _, by omega, W7, by omega, Y7, ⟨_, _, _, X7⟩, ItOwn.nil _ _, fun b hb => (OB_none b hb).elim, M07, Nat.le_refl _, (pre_nil _).symm, by omega, Nat.le_refl _, by simp⟩, ?_⟩, ?_⟩
        · rintro v _ w8 hst
          refine ⟨fun hlt => ?_, fun hge => ?_⟩
          · rcases hst with ⟨x, n', hx0, hde, W8, hX8, M08⟩ | ⟨fr, n', xs, f', ol, kl, rfl, hfr1, hfr2, W8, hn', Y8, ⟨xa, xb, xc, X8⟩, I8, hnew, M08, hs8, hde, hf', hff, hxl⟩
            · exact ⟨x, by rw [add_at]; exact W8.rd1 rfl, fun h => (hx0 h).elim, fun _ => .inl ⟨x, n', hx0, hde, W8, hX8, M08⟩⟩
            · refine ⟨0, by rw [add_at]; exact W8.rd1 rfl, fun _ => ?_, fun h => (h rfl).elim⟩
              obtain ⟨f2, rfl⟩ : ∃ f2, f' = f2 + 1 := ⟨f' - 1, by omega⟩
              have hrl : (sg B fr (i + a + q)).length = i + a + q - fr := sg_len (by omega)
              have hrne : sg B fr (i + a + q) ≠ [] := fun h => by rw [h] at hrl; simp at hrl; omega
              rw [dcds_go hrne] at hde
              have ed : IntKind.wrap .i64 ((d : Int) + 1) = ((d + 1 : Nat) : Int) := by rw [wrap_i64_small (by omega) (by omega)]; omega
              rw [ed]
              refine (item_calls f2 (d + 1) n' fr (i + a + q) B (by omega) (by omega) (by omega) hlen (hN2 M08) hk W8 hoff hn' (by omega)).mono ?_
              rintro e w9 ⟨M9, hdi⟩
              have hs9 := M9.size
              have hI9 := I8.lt
              have Y9 := Y8.mod M9 (by omega)
              have X9 := X8.mod M9 (by omega)
              have I9 := I8.modS M9 (fun b hb => by omega) (fun b hb h => by have := hnew b hb; omega)
              have M09 := M08.trans M9 (fun i hi h => h)
              have key : ∃ (y : It) (v1 v2 v3 : Value) (nx : Int) (m' : Nat) (x : Int), e = .returned (.tuple #[.agg #[v1, v2, v3], .int .i64 nx]) ∧ ItC (fun b => b < w8.heap.size) w9 y v1 v2 v3 ∧ Blk w9 D 221 #[.slice (some ⟨b0, f0, none⟩) B.length k, .int .i64 (m' : Int), .int .i64 x] ∧
                  ((x ≠ 0 ∧ dcds f (d + 1) (n + 1) (sg B (i + a) (i + a + q)) = .error x) ∨ (x = 0 ∧ m' ≤ 4096 ∧ ∃ q', 1 ≤ q' ∧ fr + q' ≤ i + a + q ∧ nx = ((fr + q' : Nat) : Int) ∧ dcds f (d + 1) (n + 1) (sg B (i + a) (i + a + q)) = pre (xs ++ [y]) (dcds f2 (d + 1) m' (sg B (fr + q') (i + a + q))))) := by
                cases hd1 : dcd f2 (d + 1) n' (sg B fr (i + a + q)) with
                | error x =>
                  rw [hd1] at hdi hde
                  obtain ⟨hx0, rfl, m', W9⟩ := hdi
                  exact ⟨.s [], _, _, _, _, m', x, rfl, its_nil_s _ _, W9, .inl ⟨hx0, hde⟩⟩
                | ok r =>
                  obtain ⟨y, q', m'⟩ := r
                  rw [hd1] at hdi hde
                  simp only at hde
                  obtain ⟨W9, v1, v2, v3, rfl, hy⟩ := hdi
                  obtain ⟨k1, k2, k3, k4, k5, k6⟩ := (dec_ok f2 (d + 1) n' (sg B fr (i + a + q))).1 _ _ _ hd1
                  refine ⟨y, v1, v2, v3, _, m', 0, rfl, hy, W9, .inr ⟨rfl, by omega, q', k1, by omega, rfl, ?_⟩⟩
                  rw [hde, sg_drop, ← pre_pre]
                  congr 1
              obtain ⟨y, v1, v2, v3, nx, m', x, rfl, hy, W9, hout⟩ := key
              have cW : w8.cell? ⟨D, 2, none⟩ = some (.int .i64 0) := W8.rd1 rfl
              clear hdi hde W8 Y8 X8 M08
              obtain ⟨bb, p1, q1, r1, p2, q2, r2, rfl, rfl, rfl⟩ := hy.vals
              refine ⟨_, _, _, _, _, _, _, _, rfl, ?_⟩
              rintro dA wA ⟨rfl, rfl⟩
              have HA := Blk.new w9 138 #[.bool false, .slice none 0 0, .slice none 0 0]
              have M9A : Vcg.Mod NoB w9 _ := Mod.alloc w9 (.cells #[.bool false, .slice none 0 0, .slice none 0 0] 138)
              have hsA := size_alloc w9 (.cells #[.bool false, .slice none 0 0, .slice none 0 0] 138)
              generalize hHA : w9.heap.size = HH at *
              generalize w9.alloc (.cells #[.bool false, .slice none 0 0, .slice none 0 0] 138) = wA at *
              refine set3 HA rfl rfl rfl (fun wB HB QB => ?_)
              have M9B : Vcg.Mod NoB w9 wB := mod_of M9A QB (by omega)
              have XB := X9.mod' M9B
              have YB := Y9.mod' M9B
              have WB := W9.mod' M9B
              have hyB := ItC.mod M9B _ hy
              have IB := I9.mod' M9B
              have MB := M09.none_trans M9B
              have hsB := M9B.size
              clear HA M9A QB X9 Y9 W9 I9 M09 hy
              refine ⟨_, _, _, by rw [add_at]; exact YB.rd1 rfl, get3 HB ?_⟩
              rintro dD wD ⟨rfl, rfl⟩
              have MD : Vcg.Mod NoB wB _ := Mod.alloc wB (.cells #[.bool bb, .slice p1 q1 r1, .slice p2 q2 r2] 138)
              have E := Blk.new wB 138 #[.bool bb, .slice p1 q1 r1, .slice p2 q2 r2]
              have XD := XB.mod' MD
              have YD := YB.mod' MD
              have WD := WB.mod' MD
              have hyD := ItC.mod MD _ hyB
              have ID := IB.mod' MD
              have M0D := MB.none_trans MD
              have hsD := MD.size
              clear XB YB WB HB hyB IB MB
              generalize wB.heap.size = HE at *
              generalize wB.alloc (.cells #[.bool bb, .slice p1 q1 r1, .slice p2 q2 r2] 138) = wD at *
              obtain ⟨o', k', wE, hrun, IE, QE, hOB⟩ := ID.push E (ItC.mono (fun b hb => by
                rcases hb with h | h
                · exact Nat.lt_of_lt_of_le h hs8
                · exact hI9 b h) _ hyD) (by omega)
              have nE : ∀ b, OB o' b → w7.heap.size ≤ b := fun b hb => by
                rcases hOB b hb with h | h
                · exact hnew b h
                · omega
              have XE := XD.mod QE (fun h => by have := hnew _ h; omega)
              have YE := YD.mod QE (fun h => by have := hnew _ h; omega)
              have WE := WD.mod QE (fun h => by have := hnew _ h; omega)
              have M0E := M0D.trans QE (fun i hi h => by have := hnew _ h; omega)
              have hsE := QE.size
              refine ⟨_, wE, hrun, _, _, _, rfl, ?_⟩
              rw [add_at]
              refine ⟨YE.canSet (by simp) rfl, ?_⟩
              rintro _ rfl
              have QF : Vcg.Mod (· = Y) wE _ := Mod.setCell wE ⟨Y, 0 + 2, none⟩ (.slice o' (xs.length + 1) k')
              have YF := YE.set 2 (.slice o' (xs.length + 1) k')
              have IF := IE.modS QF (fun b hb => by omega) (fun b hb h => by have := nE b hb; omega)
              have XF := XE.mod QF (by omega)
              have WF := WE.mod QF (by omega)
              have M0F := M0E.trans QF (fun i hi h => by omega)
              have hsF := QF.size
              have hl1 : xs.length + 1 = (xs ++ [y]).length := by rw [List.length_append, List.length_singleton]
              have cF : World.cell? _ ⟨D, 2, none⟩ = some (.int .i64 x) := WF.rd1 rfl
              rcases hout with ⟨hx0, hde⟩ | ⟨rfl, hm', q', hq1, hq2, rfl, hde⟩
              · refine ⟨.inl ⟨x, m', hx0, hde, WF, ⟨_, _, _, XF⟩, M0F⟩, ?_⟩
                dsimp only
                rw [cW, cF]
                simp only
                split
                · rename_i h
                  simp only [Option.some.injEq, Value.int.injEq, true_and] at h
                  exact (hx0 h).elim
                · omega
              · refine ⟨.inr ⟨fr + q', m', xs ++ [y], f2, o', k', rfl, by omega, hq2, WF, hm', by rw [← hl1]; exact YF, ⟨_, _, _, XF⟩, by rw [← hl1]; exact IF, nE, M0F, by omega, hde, by omega, by omega, by omega⟩, ?_⟩
                dsimp only
                rw [cW, cF]
                simp only
                omega
          · rcases hst with h | ⟨fr, n', xs, f', ol, kl, rfl, hfr1, hfr2, rest⟩
            · exact .inl h
            · obtain rfl : fr = i + a + q := by omega
              exact .inr ⟨i + a + q, n', xs, f', ol, kl, rfl, hfr1, hfr2, rest⟩
        · rintro _ w8 (⟨x, n', hx0, hde, W8, ⟨xa, xb, xc, X8⟩, M08⟩ | ⟨fr, n', xs, f', ol, kl, hfr, hfr1, hfr2, W8, hn', Y8, ⟨xa, xb, xc, X8⟩, I8, hnew, M08, hs8, hde, hf', hff, hxl⟩)
          · refine ⟨x, by rw [add_at]; exact W8.rd1 rfl, fun _ => ?_, fun h => (hx0 h).elim⟩
            rw [hde] at hdec
            refine ret_3 X8 (fun w9 M9 => hR _ _ ⟨M08.trans M9 (fun i hi h => by omega), ?_⟩)
            rw [hdec]
            exact ⟨hx0, rfl, n', W8.mod M9 (by omega)⟩
          · obtain rfl : fr = i + a + q := by omega
            refine ⟨0, by rw [add_at]; exact W8.rd1 rfl, fun h => (h rfl).elim, fun _ => ?_⟩
            obtain ⟨f2, rfl⟩ : ∃ f2, f' = f2 + 1 := ⟨f' - 1, by omega⟩
            rw [sg_nil, dcds_nil] at hde
            have hits := I8.its (fun b hb h => by
              have := hnew b h
              have hb' : b < w7.heap.size := hb
              omega)
            refine get3 Y8 (ret_3 X8 (fun w9 M9 => hR _ _ ⟨M08.trans M9 (fun i hi h => by omega), ?_⟩))
            rw [hdec, hde]
            simp only [pre, List.append_nil]
            refine ⟨W8.mod M9 (by omega), _, _, _, by rw [Nat.add_assoc], ?_⟩
            simp only [ItC]
            refine ⟨trivial, trivial, ol, kl, rfl, ItsC.mono (fun b hb => ?_) _ (ItsC.modA M9 (fun b hb => ?_) _ hits), I8.cap⟩
            · have hb' : b < w.heap.size := hb
              show b < w7.heap.size
              omega
            · show b < w7.heap.size
              omega
end Go.Proofs.Ytfghidehlnfdiaa
end

section
set_option linter.unusedVariables false
set_option linter.unusedSimpArgs false
namespace Go.Proofs.Ytfghidehlnfdiaa
open Go Go.Vcg Go.Trie
theorem sg_all (B : By) : sg B 0 B.length = B := by simp [sg]
theorem rFirst_calls {w : World} {o : Option Addr} {k : Nat} {bs : By} (hr : RdB w o bs) (hk : bs.length ≤ k) :
    Calls Try.prog moraineref4_First.n #[.slice o bs.length k] w (fun e w' => Vcg.Mod NoB w w' ∧ FirstIs bs w e w') := by
  refine calls_gen fun R hR => moraineref4_First.vc _ _ _ _ _ ?_
  unfold moraineref4_First.Vc
  rintro d1 w1 ⟨rfl, rfl⟩
  have M1 : Vcg.Mod NoB w _ := Mod.alloc w (.cells #[.bool false, .slice none 0 0, .slice none 0 0] 138)
  have X1 := Blk.new w 138 #[.bool false, .slice none 0 0, .slice none 0 0]
  have hs1 := size_alloc w (.cells #[.bool false, .slice none 0 0, .slice none 0 0] 138)
  have hr1 := hr.mod' M1
  generalize hN : w.heap.size = N at *
  generalize w.alloc (.cells #[.bool false, .slice none 0 0, .slice none 0 0] 138) = w1 at *
  refine ⟨fun hbig => ?_, fun hbig => ?_⟩
  · refine ret_3 X1 (fun w2 M2 => hR _ _ ⟨mod_of M1 M2 (by omega), ?_⟩)
    unfold FirstIs
    rw [if_pos (by omega)]
    exact ⟨_, _, _, _, _, _, _, _, rfl⟩
  · rintro d2 w2 ⟨rfl, rfl⟩
    have M12 : Vcg.Mod NoB w1 _ := Mod.alloc w1 (.cells #[.slice o bs.length k, .int .i64 0, .int .i64 0] 221)
    have W2 := Blk.new w1 221 #[.slice o bs.length k, .int .i64 ((0 : Nat) : Int), .int .i64 0]
    have X2 := X1.mod' M12
    have hr2 := hr1.mod' M12
    have M2 := M1.none_trans M12
    have hs2 := size_alloc w1 (.cells #[.slice o bs.length k, .int .i64 0, .int .i64 0] 221)
    have hoff : bs ≠ [] → Off (· = w1.heap.size) o := fun hne e he h => by
      obtain ⟨b, f, ho, hb, _⟩ := hr hne
      rw [ho] at he; cases he
      simp only at h
      omega
    have hc := item_calls (2 * bs.length + 1) 1 0 0 bs.length bs (k := k) (by omega) (Nat.zero_le _) (Nat.le_refl _) (by omega) hr2 hk W2 hoff (by omega) (by omega)
    rw [sg_all] at hc
    refine Calls.mono (R := fun e w' => Vcg.Mod (· = w1.heap.size) (w1.alloc (.cells #[.slice o bs.length k, .int .i64 0, .int .i64 0] 221)) w' ∧ RdIs (dcd (2 * bs.length + 1) 1 0 bs) (.slice o bs.length k) 0 (w1.alloc (.cells #[.slice o bs.length k, .int .i64 0, .int .i64 0] 221)) w1.heap.size e w') hc ?_
    rintro e w3 ⟨M3, hd⟩
    have M03 : Vcg.Mod NoB w w3 := mod_of M2 M3 (by omega)
    have X3 := X2.mod M3 (by omega)
    have hs3 := M3.size
    generalize hD : w1.heap.size = D at *
    have key : ∃ (y : It) (v1 v2 v3 : Value) (nx : Int) (m' : Nat) (x : Int), e = .returned (.tuple #[.agg #[v1, v2, v3], .int .i64 nx]) ∧ ItC (fun b => b < D) w3 y v1 v2 v3 ∧ Blk w3 D 221 #[.slice o bs.length k, .int .i64 (m' : Int), .int .i64 x] ∧
        ((x ≠ 0 ∧ dcd (2 * bs.length + 1) 1 0 bs = .error x) ∨ (x = 0 ∧ ∃ q, dcd (2 * bs.length + 1) 1 0 bs = .ok (y, q, m') ∧ nx = (q : Int))) := by
      cases hdc : dcd (2 * bs.length + 1) 1 0 bs with
      | error x =>
        rw [hdc] at hd
        obtain ⟨hx0, rfl, m', W3⟩ := hd
        exact ⟨.s [], _, _, _, _, m', x, rfl, its_nil_s _ _, W3, .inl ⟨hx0, rfl⟩⟩
      | ok r =>
        obtain ⟨y, q, m⟩ := r
        rw [hdc] at hd
        obtain ⟨W3, v1, v2, v3, rfl, hy⟩ := hd
        refine ⟨y, v1, v2, v3, _, m, 0, rfl, ItC.mono (fun b hb => ?_) _ hy, W3, .inr ⟨rfl, q, rfl, by rw [Nat.zero_add]⟩⟩
        show b < _
        rw [hs2]
        have hb' : b < D := hb
        omega
    obtain ⟨y, v1, v2, v3, nx, m', x, rfl, hy, W3, hout⟩ := key
    clear hd hc
    obtain ⟨bb, p1, q1, r1, p2, q2, r2, rfl, rfl, rfl⟩ := hy.vals
    refine ⟨_, _, _, _, _, _, _, _, rfl, ?_⟩
    rintro d4 w4 ⟨rfl, rfl⟩
    have H := Blk.new w3 138 #[.bool false, .slice none 0 0, .slice none 0 0]
    have M34 : Vcg.Mod NoB w3 _ := Mod.alloc w3 (.cells #[.bool false, .slice none 0 0, .slice none 0 0] 138)
    refine set3 H rfl rfl rfl (fun w5 H5 Q5 => ?_)
    have M35 : Vcg.Mod NoB w3 w5 := mod_of M34 Q5 (Nat.le_refl _)
    have X5 := X3.mod' M35
    have W5 := W3.mod' M35
    have hy5 := ItC.mod M35 _ hy
    have M05 := M03.none_trans M35
    have hs5 := M35.size
    clear H M34 Q5 X3 W3 hy M03 M35
    refine ⟨x, by rw [add_at]; exact W5.rd1 rfl, fun hx0 => ?_, fun hx0 => ?_⟩
    · rcases hout with ⟨_, hdc⟩ | ⟨h, _⟩
      · rintro _ rfl
        have M6 : Vcg.Mod NoB w5 w5.drew := Mod.drew w5
        have W6 := W5.mod' M6
        have X6 := X5.mod' M6
        have M06 := M05.none_trans M6
        generalize w5.drew = w6 at *
        refine ⟨x, by rw [add_at]; exact W6.rd1 rfl, set3 X6 rfl rfl rfl (fun w7 X7 Q7 => ⟨by rw [add_at]; exact (W6.mod Q7 (by omega)).rd1 rfl, get3 X7 (hR _ _ ⟨mod_of M06 Q7 (by omega), ?_⟩)⟩)⟩
        unfold FirstIs
        rw [if_neg (by omega), hdc]
        exact ⟨hx0, _, _, _, _, _, _, _, _, rfl⟩
      · exact (hx0 h).elim
    · rcases hout with ⟨h, _⟩ | ⟨_, q, hdc, rfl⟩
      · exact (h hx0).elim
      · refine get3 H5 (ret_3 X5 (fun w7 Q7 => hR _ _ ⟨mod_of M05 Q7 (by omega), ?_⟩))
        unfold FirstIs
        rw [if_neg (by omega), hdc]
        refine ⟨_, _, _, rfl, ItC.mono (fun b hb => ?_) _ (ItC.modA Q7 (fun b hb => ?_) _ hy5)⟩
        · have hb' : b < w.heap.size := hb
          show b < D
          omega
        · show b < D
          omega
theorem rDecode_calls {w : World} {o : Option Addr} {k : Nat} {bs : By} (hr : RdB w o bs) (hk : bs.length ≤ k) :
    Calls Try.prog moraineref4_Decode.n #[.slice o bs.length k] w (fun e w' => Vcg.Mod NoB w w' ∧ DecodeIs bs w e w') := by
  refine calls_gen fun R hR => moraineref4_Decode.vc _ _ _ _ _ ?_
  unfold moraineref4_Decode.Vc
  rintro d1 w1 ⟨rfl, rfl⟩
  have M1 : Vcg.Mod NoB w _ := Mod.alloc w (.cells #[.bool false, .slice none 0 0, .slice none 0 0] 138)
  have X1 := Blk.new w 138 #[.bool false, .slice none 0 0, .slice none 0 0]
  have hs1 := size_alloc w (.cells #[.bool false, .slice none 0 0, .slice none 0 0] 138)
  have hr1 := hr.mod' M1
  generalize hN : w.heap.size = N at *
  generalize w.alloc (.cells #[.bool false, .slice none 0 0, .slice none 0 0] 138) = w1 at *
  refine (rFirst_calls hr1 hk).mono ?_
  rintro e w2 ⟨M2, hf⟩
  have M02 := M1.none_trans M2
  have X2 := X1.mod' M2
  have hs2 := M2.size
  have bad : ∀ (w' : World) (x : Int), dcod bs = .error x → x ≠ 0 → Vcg.Mod NoB w w' → Blk w' N 138 #[.bool false, .slice none 0 0, .slice none 0 0] → ∀ w'' : World, Vcg.Mod (· = N) w' w'' → R (.returned (.tuple #[.agg #[.bool false, .slice none 0 0, .slice none 0 0], .int .i64 x])) w'' := by
    intro w' x hx h0 M X w'' M'
    refine hR _ _ ⟨mod_of M M' (by omega), ?_⟩
    unfold DecodeIs
    rw [hx]
    exact ⟨h0, _, _, _, _, _, _, _, rfl⟩
  have key : (∃ b p1 q1 r1 p2 q2 r2 n1 x, e = .returned (.tuple #[.agg #[.bool b, .slice p1 q1 r1, .slice p2 q2 r2], .int .i64 n1, .int .i64 x]) ∧ x ≠ 0 ∧ dcod bs = .error x) ∨
      (∃ y q m v1 v2 v3, ¬ bs.length > 65536 ∧ dcd (2 * bs.length + 1) 1 0 bs = .ok (y, q, m) ∧ e = .returned (.tuple #[.agg #[v1, v2, v3], .int .i64 (q : Int), .int .i64 0]) ∧ ItC (fun b => b < w1.heap.size) w2 y v1 v2 v3) := by
    unfold FirstIs at hf
    split at hf
    · rename_i hbig
      obtain ⟨b, p1, q1, r1, p2, q2, r2, n1, he⟩ := hf
      exact .inl ⟨_, _, _, _, _, _, _, _, _, he, by decide, by unfold dcod; rw [if_pos hbig]⟩
    · rename_i hbig
      split at hf
      · rename_i x hdc
        obtain ⟨hx, b, p1, q1, r1, p2, q2, r2, n1, he⟩ := hf
        exact .inl ⟨_, _, _, _, _, _, _, _, _, he, hx, by unfold dcod; rw [if_neg hbig, hdc]⟩
      · rename_i y q m hdc
        obtain ⟨v1, v2, v3, he, hy⟩ := hf
        exact .inr ⟨_, _, _, _, _, _, hbig, hdc, he, hy⟩
  rcases key with ⟨b, p1, q1, r1, p2, q2, r2, n1, x, rfl, hx, hdc⟩ | ⟨y, q, m, v1, v2, v3, hbig, hdc, rfl, hy⟩
  · refine ⟨_, _, _, _, _, _, _, _, _, rfl, ?_⟩
    rintro d3 w3 ⟨rfl, rfl⟩
    have H := Blk.new w2 138 #[.bool false, .slice none 0 0, .slice none 0 0]
    have M23 : Vcg.Mod NoB w2 _ := Mod.alloc w2 (.cells #[.bool false, .slice none 0 0, .slice none 0 0] 138)
    refine set3 H rfl rfl rfl (fun w4 H4 Q4 => ?_)
    have M24 : Vcg.Mod NoB w2 w4 := mod_of M23 Q4 (Nat.le_refl _)
    exact ⟨fun h => (hx h).elim, fun _ => ⟨fun _ => ret_3 (X2.mod' M24) (bad w4 x hdc hx (M02.none_trans M24) (X2.mod' M24)), fun h => (hx h).elim⟩⟩
  · obtain ⟨bb, p1, q1, r1, p2, q2, r2, rfl, rfl, rfl⟩ := hy.vals
    refine ⟨_, _, _, _, _, _, _, _, _, rfl, ?_⟩
    rintro d3 w3 ⟨rfl, rfl⟩
    have H := Blk.new w2 138 #[.bool false, .slice none 0 0, .slice none 0 0]
    have M23 : Vcg.Mod NoB w2 _ := Mod.alloc w2 (.cells #[.bool false, .slice none 0 0, .slice none 0 0] 138)
    refine set3 H rfl rfl rfl (fun w4 H4 Q4 => ?_)
    have M24 : Vcg.Mod NoB w2 w4 := mod_of M23 Q4 (Nat.le_refl _)
    have X4 := X2.mod' M24
    have hy4 := ItC.mod M24 _ hy
    refine ⟨fun _ => ⟨fun hlt => ?_, fun hlt => ⟨fun h => (h rfl).elim, fun _ => ?_⟩⟩, fun h => (h rfl).elim⟩
    · refine ret_3 X4 (bad w4 42 ?_ (by decide) (M02.none_trans M24) X4)
      unfold dcod
      rw [if_neg hbig, hdc]
      simp only
      rw [if_pos (by omega)]
    · refine get3 H4 (ret_3 X4 (fun w5 M5 => hR _ _ ⟨mod_of (M02.none_trans M24) M5 (by omega), ?_⟩))
      have hd : dcod bs = .ok y := by
        unfold dcod
        rw [if_neg hbig, hdc]
        simp only
        rw [if_neg (by omega)]
      unfold DecodeIs
      rw [hd]
      refine ⟨_, _, _, rfl, ItC.mono (fun b hb => ?_) _ (ItC.modA M5 (fun b hb => ?_) _ hy4)⟩
      · have : b < w.heap.size := hb
        show b < w1.heap.size
        omega
      · show b < w1.heap.size
        omega
end Go.Proofs.Ytfghidehlnfdiaa
end

section
set_option linter.unusedVariables false
set_option linter.unusedSimpArgs false
namespace Go.Proofs.Ytfghidehlnfdiaa
open Go Go.Vcg Go.Trie
theorem encs_take (xs : List It) {j : Nat} (hj : j < xs.length) : encs (xs.take (j + 1)) = encs (xs.take j) ++ enc xs[j] := by
  rw [List.take_succ_eq_append_getElem hj, encs_append]
  simp [encs]
theorem Of_calls' : ∀ (f : Nat) (x : It) {A : Nat → Prop} {w0 w : World} {b : Bool} {o1 : Option Addr} {l1 c1 : Nat} {o2 : Option Addr} {l2 c2 : Nat}, dep x ≤ f → ItC A w0 x (.bool b) (.slice o1 l1 c1) (.slice o2 l2 c2) → Vcg.Mod NoB w0 w → (enc x).length ≤ 65536 →
    Calls Try.prog moraineref4_Of.n #[.agg #[.bool b, .slice o1 l1 c1, .slice o2 l2 c2]] w (fun e w' => ∃ o' k', e = .returned (.slice o' (enc x).length k') ∧ Fresh w w' tU8 1 o' (enc x).length k' ((enc x).map bV))
  | 0, x, _, _, _, _, _, _, _, _, _, _, hd, _, _, _ => absurd (dep_pos x) (by omega)
  | f + 1, x, A, w0, w, b, o1, l1, c1, o2, l2, c2, hd, h, M, hl => by
    refine calls_gen fun R hR => moraineref4_Of.vc _ _ _ _ _ _ _ _ _ ?_
    unfold moraineref4_Of.Vc
    rintro d3 w1 ⟨rfl, rfl⟩
    have M1 : Vcg.Mod NoB w _ := Mod.alloc w (.cells #[.bool b, .slice o1 l1 c1, .slice o2 l2 c2] 138)
    have X1 := Blk.new w 138 #[.bool b, .slice o1 l1 c1, .slice o2 l2 c2]
    have hs1 := size_alloc w (.cells #[.bool b, .slice o1 l1 c1, .slice o2 l2 c2] 138)
    generalize hN : w.heap.size = N at *
    generalize w.alloc (.cells #[.bool b, .slice o1 l1 c1, .slice o2 l2 c2] 138) = w1 at *
    have M01 := M.none_trans M1
    have from1 : ∀ {w2 : World} {o : Option Addr} {l k : Nat} {vs : List Value}, Fresh w1 w2 tU8 1 o l k vs → Fresh w w2 tU8 1 o l k vs := fun F => ⟨F.own, M1.none_trans F.mod, fun k hk => by have := F.new k hk; omega⟩
    cases x with
    | s bs =>
      simp only [ItC] at h
      obtain ⟨h1, ⟨o, c, h2, h3, h4⟩, h5⟩ := h
      cases h1; cases h2; cases h5
      have hbl : bs.length < 2 ^ 30 := by
        have : bs.length ≤ (enc (.s bs)).length := by
          simp only [enc]
          split
          · exact Nat.le_refl _
          · rw [List.length_append]; omega
        omega
      refine ⟨_, X1.rd1 rfl, fun _ => ⟨_, _, _, by rw [add_at]; exact X1.rd1 rfl, ?_⟩, fun hb => (by cases hb)⟩
      refine (rBytes_calls (h3.mod' M01) hbl).mono ?_
      rintro _ w2 ⟨o', k', rfl, F⟩
      exact ⟨_, _, _, rfl, hR _ _ ⟨o', k', rfl, from1 F⟩⟩
    | l xs =>
      simp only [ItC] at h
      obtain ⟨h1, h2, o, c, h3, h4, _⟩ := h
      cases h1; cases h2; cases h3
      have hel : (encs xs).length ≤ 65536 := by
        simp only [enc, List.length_append] at hl
        omega
      refine ⟨_, X1.rd1 rfl, fun hb => (by cases hb), fun _ => ?_⟩
      refine ⟨fun o' l' k' i w' => ∃ j : Nat, i = (j : Int) ∧ j ≤ xs.length ∧ l' = (encs (xs.take j)).length ∧ Fresh w1 w' tU8 1 o' l' k' ((encs (xs.take j)).map bV), fun _ _ _ i _ => ((xs.length : Int) - i).toNat, ⟨0, rfl, Nat.zero_le _, rfl, Fresh.nil (Mod.refl w1) _ _⟩, ?_⟩
      rintro o4 _ k4 _ _ w4 ⟨j, rfl, hj, rfl, F4⟩
      have X4 := X1.mod' F4.mod
      have hlen := counts_len xs
      have hc := encs_len xs
      refine ⟨_, _, _, by rw [add_at]; exact X4.rd1 rfl, fun hlt => ⟨fun hle => ?_, fun hgt => ?_⟩, fun hge => ?_⟩
      · have hjl : j < xs.length := by omega
        have M04 := M01.none_trans F4.mod
        obtain ⟨g, f0, v1, v2, v3, ho, hg, e1, e2, e3, hi⟩ := (ItsC.mod M04 _ h4).get j hjl
        obtain ⟨bb, p1, q1, r1, p2, q2, r2, rfl, rfl, rfl⟩ := hi.vals
        rw [Nat.zero_add] at e1 e2 e3
        have hdj : dep xs[j] ≤ f := by
          have := dep_mem (List.getElem_mem hjl)
          simp only [dep] at hd
          omega
        have hej := encs_take xs hjl
        have hle2 := encs_take_le xs (j + 1)
        rw [hej, List.length_append] at hle2
        refine ⟨_, _, _, by rw [add_at]; exact X4.rd1 rfl, _, ho, ⟨by omega, by omega⟩, _, _, _, _, _, _, _, by rw [add_at, Int.toNat_natCast]; exact e1, by rw [add_at, add_at, Int.toNat_natCast]; exact e2, by rw [add_at, add_at, Int.toNat_natCast]; exact e3, ?_⟩
        refine (Of_calls' f xs[j] hdj hi (Mod.refl w4) (by omega)).mono ?_
        rintro _ w5 ⟨o5, k5, rfl, F5⟩
        obtain ⟨o6, k6, w6, hr6, F6⟩ := push_bytes (k2 := k5) (ty := 22) (F4.mod' F5.mod) F5.own.bytes (by omega)
        have ew : IntKind.wrap .i64 ((j : Int) + 1) = ((j + 1 : Nat) : Int) := by rw [wrap_i64_small (by omega) (by omega)]; omega
        rw [ew]
        rw [← hej] at F6
        refine ⟨_, _, _, rfl, _, w6, hr6, _, _, _, rfl, ⟨j + 1, rfl, hjl, ?_, ?_⟩, by dsimp only; omega⟩
        · rw [hej, List.length_append]
        · exact F6
      · have := encs_take_le xs j
        omega
      · obtain rfl : j = xs.length := by omega
        rw [List.take_length] at F4 ⊢
        refine (rList_calls F4.own.bytes (by omega)).mono ?_
        rintro _ w5 ⟨o5, k5, rfl, F5⟩
        refine ⟨_, _, _, rfl, hR _ _ ⟨o5, k5, ?_, ?_⟩⟩
        · simp only [enc]
        · simp only [enc]
          exact from1 ⟨F5.own, F4.mod.none_trans F5.mod, fun k hk => Nat.le_trans F4.mod.size (F5.new k hk)⟩
end Go.Proofs.Ytfghidehlnfdiaa
end

section
set_option linter.unusedVariables false
namespace Go.Proofs.Ytfghidehlnfdiaa
open Go Go.Vcg
abbrev trie_decoded.n : Nat := 88
def trie_decoded.Vc (o0 : Option Addr) (l0 : Nat) (c0 : Nat) (w : World) (R : Ending → World → Prop) : Prop :=
  Calls Try.prog 116 #[(.slice o0 l0 c0)] w (fun e1 w2 =>
    ∃ b3 : Bool, ∃ o4 : Option Addr, ∃ l5 : Nat, ∃ l6 : Nat, ∃ o7 : Option Addr, ∃ l8 : Nat, ∃ l9 : Nat, ∃ n10 : Int, e1 = .returned (.tuple #[(.agg #[(.bool b3), (.slice o4 l5 l6), (.slice o7 l8 l9)]), (.int .i64 n10)]) ∧
    ∀ (d11 : Addr) (w12 : World), IsNew w2 138 #[(.bool false), (.slice none 0 0), (.slice none 0 0)] d11 w12 →
    CanSet w12 d11 (.bool b3) ∧ ∀ w13 : World, IsSet w12 d11 (.bool b3) w13 →
    CanSet w13 (Addr.add d11 1) (.slice o4 l5 l6) ∧ ∀ w14 : World, IsSet w13 (Addr.add d11 1) (.slice o4 l5 l6) w14 →
    CanSet w14 (Addr.add d11 2) (.slice o7 l8 l9) ∧ ∀ w15 : World, IsSet w14 (Addr.add d11 2) (.slice o7 l8 l9) w15 →
    (((n10 ≠ 0 →
      R (.returned (.tuple #[.nilIface, (.int .i64 n10)])) w15)) ∧
     ((n10 = 0 →
      ∃ b16 : Bool, ∃ o17 : Option Addr, ∃ l18 : Nat, ∃ l19 : Nat, ∃ o20 : Option Addr, ∃ l21 : Nat, ∃ l22 : Nat, World.cell? w15 d11 = some (.bool b16) ∧
      World.cell? w15 (Addr.add d11 1) = some (.slice o17 l18 l19) ∧
      World.cell? w15 (Addr.add d11 2) = some (.slice o20 l21 l22) ∧
      Calls Try.prog 117 #[(.agg #[(.bool b16), (.slice o17 l18 l19), (.slice o20 l21 l22)])] w15 (fun e23 w24 =>
        ∃ v25 : Value, ∃ b26 : Bool, e23 = .returned (.tuple #[v25, (.bool b26)]) ∧
        (((b26 = false →
          R (.returned (.tuple #[.nilIface, (.int .i64 143)])) w24)) ∧
         ((b26 = true →
          R (.returned (.tuple #[v25, (.int .i64 0)])) w24))))))))
theorem trie_decoded.vc (o0 : Option Addr) (l0 : Nat) (c0 : Nat) (w : World) (R : Ending → World → Prop) (h : trie_decoded.Vc o0 l0 c0 w R) : Calls Try.prog 88 #[(.slice o0 l0 c0)] w R :=
  execF_sound (R := ⟨R, false⟩) (ann := []) (args := [.slice o0 l0 c0]) Try.func88 mixed (Eq.mp (by kernel_rfl : trie_decoded.Vc o0 l0 c0 w R = execF (pA Try.prog ⟨R, false⟩) Try.prog [] Try.f88 [.slice o0 l0 c0] w) h)

abbrev trie_noded.n : Nat := 117
def trie_noded.Vc (b0 : Bool) (o1 : Option Addr) (l1 : Nat) (c1 : Nat) (o2 : Option Addr) (l2 : Nat) (c2 : Nat) (w : World) (R : Ending → World → Prop) : Prop :=
  ∀ (d3 : Addr) (w4 : World), IsNew w 138 #[(.bool b0), (.slice o1 l1 c1), (.slice o2 l2 c2)] d3 w4 →
  ∃ b5 : Bool, World.cell? w4 d3 = some (.bool b5) ∧
  (((b5 = false →
    R (.returned (.tuple #[.nilIface, (.bool false)])) w4)) ∧
   ((b5 = true →
    ∃ o6 : Option Addr, ∃ l7 : Nat, ∃ l8 : Nat, World.cell? w4 (Addr.add d3 2) = some (.slice o6 l7 l8) ∧
    (((((l7 : Nat) : Int) = 2 →
      ∀ w9 : World, IsDrew w4 w9 →
      ∃ o10 : Option Addr, ∃ l11 : Nat, ∃ l12 : Nat, World.cell? w9 (Addr.add d3 2) = some (.slice o10 l11 l12) ∧
      ∃ d13 : Addr, o10 = some d13 ∧
      ((0 : Int) ≤ 0 ∧ 0 < ((l11 : Nat) : Int)) ∧
      ∃ b14 : Bool, ∃ o15 : Option Addr, ∃ l16 : Nat, ∃ l17 : Nat, ∃ o18 : Option Addr, ∃ l19 : Nat, ∃ l20 : Nat, World.cell? w9 (Addr.add d13 0) = some (.bool b14) ∧
      World.cell? w9 (Addr.add (Addr.add d13 0) 1) = some (.slice o15 l16 l17) ∧
      World.cell? w9 (Addr.add (Addr.add d13 0) 2) = some (.slice o18 l19 l20) ∧
      ∃ o21 : Option Addr, ∃ l22 : Nat, ∃ l23 : Nat, World.cell? w9 (Addr.add d3 2) = some (.slice o21 l22 l23) ∧
      ∃ d24 : Addr, o21 = some d24 ∧
      ((0 : Int) ≤ 1 ∧ 1 < ((l22 : Nat) : Int)) ∧
      ∃ b25 : Bool, ∃ o26 : Option Addr, ∃ l27 : Nat, ∃ l28 : Nat, ∃ o29 : Option Addr, ∃ l30 : Nat, ∃ l31 : Nat, World.cell? w9 (Addr.add d24 3) = some (.bool b25) ∧
      World.cell? w9 (Addr.add (Addr.add d24 3) 1) = some (.slice o26 l27 l28) ∧
      World.cell? w9 (Addr.add (Addr.add d24 3) 2) = some (.slice o29 l30 l31) ∧
      Calls Try.prog 132 #[(.agg #[(.bool b14), (.slice o15 l16 l17), (.slice o18 l19 l20)]), (.agg #[(.bool b25), (.slice o26 l27 l28), (.slice o29 l30 l31)])] w9 (fun e32 w33 =>
        ∃ v34 : Value, ∃ b35 : Bool, e32 = .returned (.tuple #[v34, (.bool b35)]) ∧
        R (.returned (.tuple #[v34, (.bool b35)])) w33))) ∧
     ((((l7 : Nat) : Int) ≠ 2 →
      ∃ o36 : Option Addr, ∃ l37 : Nat, ∃ l38 : Nat, World.cell? w4 (Addr.add d3 2) = some (.slice o36 l37 l38) ∧
      (((((l37 : Nat) : Int) = 17 →
        ∃ o39 : Option Addr, ∃ l40 : Nat, ∃ l41 : Nat, World.cell? w4 (Addr.add d3 2) = some (.slice o39 l40 l41) ∧
        Calls Try.prog 133 #[(.slice o39 l40 l41)] w4 (fun e42 w43 =>
          ∃ v44 : Value, ∃ b45 : Bool, e42 = .returned (.tuple #[v44, (.bool b45)]) ∧
          R (.returned (.tuple #[v44, (.bool b45)])) w43))) ∧
       ((((l37 : Nat) : Int) ≠ 17 →
        R (.returned (.tuple #[.nilIface, (.bool false)])) w4)))))))))
theorem trie_noded.vc (b0 : Bool) (o1 : Option Addr) (l1 : Nat) (c1 : Nat) (o2 : Option Addr) (l2 : Nat) (c2 : Nat) (w : World) (R : Ending → World → Prop) (h : trie_noded.Vc b0 o1 l1 c1 o2 l2 c2 w R) : Calls Try.prog 117 #[(.agg #[(.bool b0), (.slice o1 l1 c1), (.slice o2 l2 c2)])] w R :=
  execF_sound (R := ⟨R, false⟩) (ann := []) (args := [.agg [.bool (.var b0), .slice o1 l1 c1, .slice o2 l2 c2]]) Try.func117 mixed (Eq.mp (by kernel_rfl : trie_noded.Vc b0 o1 l1 c1 o2 l2 c2 w R = execF (pA Try.prog ⟨R, false⟩) Try.prog [] Try.f117 [.agg [.bool (.var b0), .slice o1 l1 c1, .slice o2 l2 c2]] w) h)

abbrev trie_short.n : Nat := 132
def trie_short.Vc (b0 : Bool) (o1 : Option Addr) (l1 : Nat) (c1 : Nat) (o2 : Option Addr) (l2 : Nat) (c2 : Nat) (b3 : Bool) (o4 : Option Addr) (l4 : Nat) (c4 : Nat) (o5 : Option Addr) (l5 : Nat) (c5 : Nat) (w : World) (R : Ending → World → Prop) : Prop :=
  ∀ (d6 : Addr) (w7 : World), IsNew w 138 #[(.bool b0), (.slice o1 l1 c1), (.slice o2 l2 c2)] d6 w7 →
  ∀ (d8 : Addr) (w9 : World), IsNew w7 138 #[(.bool b3), (.slice o4 l4 c4), (.slice o5 l5 c5)] d8 w9 →
  ∃ b10 : Bool, World.cell? w9 d6 = some (.bool b10) ∧
  (((b10 = true →
    R (.returned (.tuple #[.nilIface, (.bool false)])) w9)) ∧
   ((b10 = false →
    ∃ o11 : Option Addr, ∃ l12 : Nat, ∃ l13 : Nat, World.cell? w9 (Addr.add d6 1) = some (.slice o11 l12 l13) ∧
    Calls Try.prog 42 #[(.slice o11 l12 l13)] w9 (fun e14 w15 =>
      ∃ o16 : Option Addr, ∃ l17 : Nat, ∃ l18 : Nat, ∃ b19 : Bool, ∃ n20 : Int, e14 = .returned (.tuple #[(.slice o16 l17 l18), (.bool b19), (.int .i64 n20)]) ∧
      (((n20 ≠ 0 →
        R (.returned (.tuple #[.nilIface, (.bool false)])) w15)) ∧
       ((n20 = 0 →
        (((b19 = true →
          ∀ w21 : World, IsDrew w15 w21 →
          ∃ o22 : Option Addr, ∃ l23 : Nat, ∃ l24 : Nat, World.cell? w21 (Addr.add d8 1) = some (.slice o22 l23 l24) ∧
          ∃ b25 : Bool, World.cell? w21 d8 = some (.bool b25) ∧
          (((b25 = false →
            ∃ o26 : Option Addr, ∃ l27 : Nat, ∃ l28 : Nat, World.cell? w21 (Addr.add d8 1) = some (.slice o26 l27 l28) ∧
            ∀ (d29 : Addr) (w30 : World), IsNew w21 177 #[(.slice o16 l17 l18), (.slice o22 l23 l24)] d29 w30 →
            World.cell? w30 (Addr.add d8 1) = some (.slice o26 l27 l28) ∧
            World.cell? w30 d8 = some (.bool b25) ∧
            R (.returned (.tuple #[(.iface 171 (.pointer (some d29))), (.bool (decide (((l27 : Nat) : Int) > 0)))])) w30)) ∧
           ((b25 = true →
            ∀ (d31 : Addr) (w32 : World), IsNew w21 177 #[(.slice o16 l17 l18), (.slice o22 l23 l24)] d31 w32 →
            World.cell? w32 d8 = some (.bool b25) ∧
            R (.returned (.tuple #[(.iface 171 (.pointer (some d31))), (.bool false)])) w32))))) ∧
         ((b19 = false →
          (((((l17 : Nat) : Int) = 0 →
            R (.returned (.tuple #[.nilIface, (.bool false)])) w15)) ∧
           ((((l17 : Nat) : Int) ≠ 0 →
            ∃ b33 : Bool, ∃ o34 : Option Addr, ∃ l35 : Nat, ∃ l36 : Nat, ∃ o37 : Option Addr, ∃ l38 : Nat, ∃ l39 : Nat, World.cell? w15 d8 = some (.bool b33) ∧
            World.cell? w15 (Addr.add d8 1) = some (.slice o34 l35 l36) ∧
            World.cell? w15 (Addr.add d8 2) = some (.slice o37 l38 l39) ∧
            Calls Try.prog 140 #[(.agg #[(.bool b33), (.slice o34 l35 l36), (.slice o37 l38 l39)])] w15 (fun e40 w41 =>
              ∃ v42 : Value, ∃ b43 : Bool, e40 = .returned (.tuple #[v42, (.bool b43)]) ∧
              Value.oneCell' v42 = true ∧
              ∀ (d44 : Addr) (w45 : World), IsNew w41 154 #[(.slice o16 l17 l18), v42] d44 w45 →
              R (.returned (.tuple #[(.iface 152 (.pointer (some d44))), (.bool b43)])) w45))))))))))))))
theorem trie_short.vc (b0 : Bool) (o1 : Option Addr) (l1 : Nat) (c1 : Nat) (o2 : Option Addr) (l2 : Nat) (c2 : Nat) (b3 : Bool) (o4 : Option Addr) (l4 : Nat) (c4 : Nat) (o5 : Option Addr) (l5 : Nat) (c5 : Nat) (w : World) (R : Ending → World → Prop) (h : trie_short.Vc b0 o1 l1 c1 o2 l2 c2 b3 o4 l4 c4 o5 l5 c5 w R) : Calls Try.prog 132 #[(.agg #[(.bool b0), (.slice o1 l1 c1), (.slice o2 l2 c2)]), (.agg #[(.bool b3), (.slice o4 l4 c4), (.slice o5 l5 c5)])] w R :=
  execF_sound (R := ⟨R, false⟩) (ann := []) (args := [.agg [.bool (.var b0), .slice o1 l1 c1, .slice o2 l2 c2], .agg [.bool (.var b3), .slice o4 l4 c4, .slice o5 l5 c5]]) Try.func132 mixed (Eq.mp (by kernel_rfl : trie_short.Vc b0 o1 l1 c1 o2 l2 c2 b3 o4 l4 c4 o5 l5 c5 w R = execF (pA Try.prog ⟨R, false⟩) Try.prog [] Try.f132 [.agg [.bool (.var b0), .slice o1 l1 c1, .slice o2 l2 c2], .agg [.bool (.var b3), .slice o4 l4 c4, .slice o5 l5 c5]] w) h)

abbrev trie_branched.n : Nat := 133
def trie_branched.Vc (o0 : Option Addr) (l0 : Nat) (c0 : Nat) (w : World) (R : Ending → World → Prop) : Prop :=
  ∃ d1 : Addr, o0 = some d1 ∧
  ((0 : Int) ≤ 16 ∧ 16 < ((l0 : Nat) : Int)) ∧
  ∃ b2 : Bool, World.cell? w (Addr.add d1 48) = some (.bool b2) ∧
  (((b2 = true →
    R (.returned (.tuple #[.nilIface, (.bool false)])) w)) ∧
   ((b2 = false →
    ∃ d3 : Addr, o0 = some d3 ∧
    ((0 : Int) ≤ 16 ∧ 16 < ((l0 : Nat) : Int)) ∧
    ∃ o4 : Option Addr, ∃ l5 : Nat, ∃ l6 : Nat, World.cell? w (Addr.add (Addr.add d3 48) 1) = some (.slice o4 l5 l6) ∧
    ∀ (d7 : Addr) (w8 : World), IsNew w 158 (setsAt #[.nilIface, .nilIface, .nilIface, .nilIface, .nilIface, .nilIface, .nilIface, .nilIface, .nilIface, .nilIface, .nilIface, .nilIface, .nilIface, .nilIface, .nilIface, .nilIface, (.slice none 0 0)] 16 [(.slice o4 l5 l6)]) d7 w8 →
    ∃ (J9 : Int → World → Prop), (∃ o10 : Option Addr, ∃ l11 : Nat, ∃ l12 : Nat, World.cell? w8 (Addr.add d7 16) = some (.slice o10 l11 l12) ∧
     (((((l11 : Nat) : Int) > 0 →
       J9 1 w8)) ∧
      ((¬ ((l11 : Nat) : Int) > 0 →
       J9 0 w8)))) ∧
    (∀ (n13 : Int) (j14 : Nat → Value) (w14 : World), J9 n13 w14 →
      16 ≤ c0 ∧
      ∃ (I15 : Int → Int → World → Prop) (μ15 : Int → Int → World → Nat), I15 n13 0 w14 ∧
      (∀ (n16 : Int) (n17 : Int) (j18 : Nat → Value) (w18 : World), I15 n16 n17 w18 →
        (((n17 < ((16 : Nat) : Int) →
          ∃ d19 : Addr, o0 = some d19 ∧
          ((0 : Int) ≤ n17 ∧ n17 < ((16 : Nat) : Int)) ∧
          ∃ b20 : Bool, ∃ o21 : Option Addr, ∃ l22 : Nat, ∃ l23 : Nat, ∃ o24 : Option Addr, ∃ l25 : Nat, ∃ l26 : Nat, World.cell? w18 (Addr.add d19 ((Int.toNat n17) * 3)) = some (.bool b20) ∧
          World.cell? w18 (Addr.add (Addr.add d19 ((Int.toNat n17) * 3)) 1) = some (.slice o21 l22 l23) ∧
          World.cell? w18 (Addr.add (Addr.add d19 ((Int.toNat n17) * 3)) 2) = some (.slice o24 l25 l26) ∧
          ∀ (d27 : Addr) (w28 : World), IsNew w18 138 #[(.bool false), (.slice none 0 0), (.slice none 0 0)] d27 w28 →
          CanSet w28 d27 (.bool b20) ∧ ∀ w29 : World, IsSet w28 d27 (.bool b20) w29 →
          CanSet w29 (Addr.add d27 1) (.slice o21 l22 l23) ∧ ∀ w30 : World, IsSet w29 (Addr.add d27 1) (.slice o21 l22 l23) w30 →
          CanSet w30 (Addr.add d27 2) (.slice o24 l25 l26) ∧ ∀ w31 : World, IsSet w30 (Addr.add d27 2) (.slice o24 l25 l26) w31 →
          ∃ (J32 : World → Prop), (∃ b33 : Bool, World.cell? w31 d27 = some (.bool b33) ∧
           (((b33 = false →
             ∃ o34 : Option Addr, ∃ l35 : Nat, ∃ l36 : Nat, World.cell? w31 (Addr.add d27 1) = some (.slice o34 l35 l36) ∧
             (((((l35 : Nat) : Int) = 0 →
               I15 n16 (IntKind.wrap .i64 (n17 + 1)) w31 ∧ μ15 n16 (IntKind.wrap .i64 (n17 + 1)) w31 < μ15 n16 n17 w18)) ∧
              ((((l35 : Nat) : Int) ≠ 0 →
               J32  w31))))) ∧
            ((b33 = true →
             J32  w31)))) ∧
          (∀  (j37 : Nat → Value) (w37 : World), J32  w37 →
            ∃ b38 : Bool, ∃ o39 : Option Addr, ∃ l40 : Nat, ∃ l41 : Nat, ∃ o42 : Option Addr, ∃ l43 : Nat, ∃ l44 : Nat, World.cell? w37 d27 = some (.bool b38) ∧
            World.cell? w37 (Addr.add d27 1) = some (.slice o39 l40 l41) ∧
            World.cell? w37 (Addr.add d27 2) = some (.slice o42 l43 l44) ∧
            Calls Try.prog 140 #[(.agg #[(.bool b38), (.slice o39 l40 l41), (.slice o42 l43 l44)])] w37 (fun e45 w46 =>
              ∃ v47 : Value, ∃ b48 : Bool, e45 = .returned (.tuple #[v47, (.bool b48)]) ∧
              (((b48 = false →
                R (.returned (.tuple #[.nilIface, (.bool false)])) w46)) ∧
               ((b48 = true →
                ((0 : Int) ≤ n17 ∧ n17 < ((16 : Nat) : Int)) ∧
                CanSet w46 (Addr.add d7 (Int.toNat n17)) v47 ∧ ∀ w49 : World, IsSet w46 (Addr.add d7 (Int.toNat n17)) v47 w49 →
                I15 (IntKind.wrap .i64 (n16 + 1)) (IntKind.wrap .i64 (n17 + 1)) w49 ∧ μ15 (IntKind.wrap .i64 (n16 + 1)) (IntKind.wrap .i64 (n17 + 1)) w49 < μ15 n16 n17 w18))))))) ∧
         ((¬ n17 < ((16 : Nat) : Int) →
          R (.returned (.tuple #[(.iface 155 (.pointer (some d7))), (.bool (decide (n16 > 1)))])) w18))))))))
theorem trie_branched.vc (o0 : Option Addr) (l0 : Nat) (c0 : Nat) (w : World) (R : Ending → World → Prop) (h : trie_branched.Vc o0 l0 c0 w R) : Calls Try.prog 133 #[(.slice o0 l0 c0)] w R :=
  execF_sound (R := ⟨R, false⟩) (ann := [(1000007, [(5, .cell (.int .i64))]), (8, [(5, .cell (.int .i64)), (31, .cell (.int .i64))]), (1000011, [])]) (args := [.slice o0 l0 c0]) Try.func133 mixed (Eq.mp (by kernel_rfl : trie_branched.Vc o0 l0 c0 w R = execF (pA Try.prog ⟨R, false⟩) Try.prog [(1000007, [(5, .cell (.int .i64))]), (8, [(5, .cell (.int .i64)), (31, .cell (.int .i64))]), (1000011, [])] Try.f133 [.slice o0 l0 c0] w) h)

abbrev trie_referred.n : Nat := 140
def trie_referred.Vc (b0 : Bool) (o1 : Option Addr) (l1 : Nat) (c1 : Nat) (o2 : Option Addr) (l2 : Nat) (c2 : Nat) (w : World) (R : Ending → World → Prop) : Prop :=
  ∀ (d3 : Addr) (w4 : World), IsNew w 138 #[(.bool b0), (.slice o1 l1 c1), (.slice o2 l2 c2)] d3 w4 →
  ∃ b5 : Bool, World.cell? w4 d3 = some (.bool b5) ∧
  (((b5 = false →
    ∃ o6 : Option Addr, ∃ l7 : Nat, ∃ l8 : Nat, World.cell? w4 (Addr.add d3 1) = some (.slice o6 l7 l8) ∧
    (((((l7 : Nat) : Int) ≠ 32 →
      R (.returned (.tuple #[.nilIface, (.bool false)])) w4)) ∧
     ((((l7 : Nat) : Int) = 32 →
      ∃ o9 : Option Addr, ∃ l10 : Nat, ∃ l11 : Nat, World.cell? w4 (Addr.add d3 1) = some (.slice o9 l10 l11) ∧
      32 ≤ l10 ∧
      ∃ d12 : Addr, o9 = some d12 ∧
      ∃ L13 : Array Value, RowAt w4 d12 32 L13 ∧
      Array.size L13 = 32 ∧
      ∀ (d14 : Addr) (w15 : World), IsNew w4 151 (lputL (Array.replicate 32 (.int .u8 0)) 0 32 L13) d14 w15 →
      R (.returned (.tuple #[(.iface 149 (.pointer (some d14))), (.bool true)])) w15))))) ∧
   ((b5 = true →
    ∃ b16 : Bool, ∃ o17 : Option Addr, ∃ l18 : Nat, ∃ l19 : Nat, ∃ o20 : Option Addr, ∃ l21 : Nat, ∃ l22 : Nat, World.cell? w4 d3 = some (.bool b16) ∧
    World.cell? w4 (Addr.add d3 1) = some (.slice o17 l18 l19) ∧
    World.cell? w4 (Addr.add d3 2) = some (.slice o20 l21 l22) ∧
    Calls Try.prog 119 #[(.agg #[(.bool b16), (.slice o17 l18 l19), (.slice o20 l21 l22)])] w4 (fun e23 w24 =>
      ∃ o25 : Option Addr, ∃ l26 : Nat, ∃ l27 : Nat, ∃ n28 : Int, e23 = .returned (.tuple #[(.slice o25 l26 l27), (.int .i64 n28)]) ∧
      (((n28 ≠ 0 →
        R (.returned (.tuple #[.nilIface, (.bool false)])) w24)) ∧
       ((n28 = 0 →
        (((((l26 : Nat) : Int) ≥ 32 →
          R (.returned (.tuple #[.nilIface, (.bool false)])) w24)) ∧
         ((¬ ((l26 : Nat) : Int) ≥ 32 →
          ∃ b29 : Bool, ∃ o30 : Option Addr, ∃ l31 : Nat, ∃ l32 : Nat, ∃ o33 : Option Addr, ∃ l34 : Nat, ∃ l35 : Nat, World.cell? w24 d3 = some (.bool b29) ∧
          World.cell? w24 (Addr.add d3 1) = some (.slice o30 l31 l32) ∧
          World.cell? w24 (Addr.add d3 2) = some (.slice o33 l34 l35) ∧
          Calls Try.prog 117 #[(.agg #[(.bool b29), (.slice o30 l31 l32), (.slice o33 l34 l35)])] w24 (fun e36 w37 =>
            ∃ v38 : Value, ∃ b39 : Bool, e36 = .returned (.tuple #[v38, (.bool b39)]) ∧
            R (.returned (.tuple #[v38, (.bool b39)])) w37)))))))))))
theorem trie_referred.vc (b0 : Bool) (o1 : Option Addr) (l1 : Nat) (c1 : Nat) (o2 : Option Addr) (l2 : Nat) (c2 : Nat) (w : World) (R : Ending → World → Prop) (h : trie_referred.Vc b0 o1 l1 c1 o2 l2 c2 w R) : Calls Try.prog 140 #[(.agg #[(.bool b0), (.slice o1 l1 c1), (.slice o2 l2 c2)])] w R :=
  execF_sound (R := ⟨R, false⟩) (ann := []) (args := [.agg [.bool (.var b0), .slice o1 l1 c1, .slice o2 l2 c2]]) Try.func140 mixed (Eq.mp (by kernel_rfl : trie_referred.Vc b0 o1 l1 c1 o2 l2 c2 w R = execF (pA Try.prog ⟨R, false⟩) Try.prog [] Try.f140 [.agg [.bool (.var b0), .slice o1 l1 c1, .slice o2 l2 c2]] w) h)

abbrev trie_Check.n : Nat := 48
def trie_Check.Vc (o0 : Option Addr) (l0 : Nat) (c0 : Nat) (w : World) (R : Ending → World → Prop) : Prop :=
  Calls Try.prog 88 #[(.slice o0 l0 c0)] w (fun e1 w2 =>
    ∃ v3 : Value, ∃ n4 : Int, e1 = .returned (.tuple #[v3, (.int .i64 n4)]) ∧
    R (.returned (.int .i64 n4)) w2)
theorem trie_Check.vc (o0 : Option Addr) (l0 : Nat) (c0 : Nat) (w : World) (R : Ending → World → Prop) (h : trie_Check.Vc o0 l0 c0 w R) : Calls Try.prog 48 #[(.slice o0 l0 c0)] w R :=
  execF_sound (R := ⟨R, false⟩) (ann := []) (args := [.slice o0 l0 c0]) Try.func48 mixed (Eq.mp (by kernel_rfl : trie_Check.Vc o0 l0 c0 w R = execF (pA Try.prog ⟨R, false⟩) Try.prog [] Try.f48 [.slice o0 l0 c0] w) h)

abbrev trie_Children.n : Nat := 45
def trie_Children.Vc (o0 : Option Addr) (l0 : Nat) (c0 : Nat) (w : World) (R : Ending → World → Prop) : Prop :=
  Calls Try.prog 88 #[(.slice o0 l0 c0)] w (fun e1 w2 =>
    ∃ v3 : Value, ∃ n4 : Int, e1 = .returned (.tuple #[v3, (.int .i64 n4)]) ∧
    (((n4 ≠ 0 →
      R (.returned (.tuple #[(.slice none 0 0), (.int .i64 n4)])) w2)) ∧
     ((n4 = 0 →
      ∀ (d5 : Addr) (w6 : World), IsNew w2 75 #[(.slice none 0 0)] d5 w6 →
      ∀ (d7 : Addr) (w8 : World), IsNew w6 148 #[.nilFunc] d7 w8 →
      CanSet w8 d7 (.func (.func 89) #[] #[(.pointer (some d5)), (.pointer (some d7))]) ∧ ∀ w9 : World, IsSet w8 d7 (.func (.func 89) #[] #[(.pointer (some d5)), (.pointer (some d7))]) w9 →
      ∃ v10 : Value, World.cell? w9 d7 = some v10 ∧
      CallsV Try.prog v10 #[v3] w9 (fun e11 w12 =>
        e11 = .returned (.tuple #[]) ∧
        ∃ o13 : Option Addr, ∃ l14 : Nat, ∃ l15 : Nat, World.cell? w12 d5 = some (.slice o13 l14 l15) ∧
        R (.returned (.tuple #[(.slice o13 l14 l15), (.int .i64 0)])) w12)))))
theorem trie_Children.vc (o0 : Option Addr) (l0 : Nat) (c0 : Nat) (w : World) (R : Ending → World → Prop) (h : trie_Children.Vc o0 l0 c0 w R) : Calls Try.prog 45 #[(.slice o0 l0 c0)] w R :=
  execF_sound (R := ⟨R, false⟩) (ann := []) (args := [.slice o0 l0 c0]) Try.func45 mixed (Eq.mp (by kernel_rfl : trie_Children.Vc o0 l0 c0 w R = execF (pA Try.prog ⟨R, false⟩) Try.prog [] Try.f45 [.slice o0 l0 c0] w) h)

abbrev trie_Children_1.n : Nat := 89
def trie_Children_1.Vc (v0 : Value) (d1 : Addr) (d2 : Addr) (w : World) (R : Ending → World → Prop) : Prop :=
  ∃ v3 : Value, Sem.run Try.prog (Instr.typeAssert v0 145 149 true) w = .ok v3 w ∧
  ∃ o4 : Option Addr, ∃ b5 : Bool, v3 = (.tuple #[(.pointer o4), (.bool b5)]) ∧
  (((b5 = true →
    ∀ w6 : World, IsDrew w w6 →
    ∃ o7 : Option Addr, ∃ l8 : Nat, ∃ l9 : Nat, World.cell? w6 d1 = some (.slice o7 l8 l9) ∧
    ∃ d10 : Addr, o4 = some d10 ∧
    ∃ L11 : Array Value, RowAt w6 d10 32 L11 ∧
    Array.size L11 = 32 ∧
    ∀ (d12 : Addr) (w13 : World), IsNew w6 26 (lputL (Array.replicate 32 (.int .u8 0)) 0 32 L11) d12 w13 →
    World.cell? w13 d1 = some (.slice o7 l8 l9) ∧
    ∃ (v14 : Value) (w15 : World), Sem.run Try.prog (builtinV .append #[75, 75] 75 #[(.slice o7 l8 l9), (.slice (some d12) 1 1)]) w13 = .ok v14 w15 ∧
    ∃ o16 : Option Addr, ∃ l17 : Nat, ∃ l18 : Nat, v14 = (.slice o16 l17 l18) ∧
    CanSet w15 d1 (.slice o16 l17 l18) ∧ ∀ w19 : World, IsSet w15 d1 (.slice o16 l17 l18) w19 →
    R (.returned (.tuple #[])) w19)) ∧
   ((b5 = false →
    ∃ v20 : Value, Sem.run Try.prog (Instr.typeAssert v0 145 152 true) w = .ok v20 w ∧
    ∃ o21 : Option Addr, ∃ b22 : Bool, v20 = (.tuple #[(.pointer o21), (.bool b22)]) ∧
    (((b22 = true →
      ∀ w23 : World, IsDrew w w23 →
      ∃ v24 : Value, World.cell? w23 d2 = some v24 ∧
      ∃ d25 : Addr, o21 = some d25 ∧
      ∃ v26 : Value, World.cell? w23 (Addr.add d25 1) = some v26 ∧
      CallsV Try.prog v24 #[v26] w23 (fun e27 w28 =>
        e27 = .returned (.tuple #[]) ∧
        R (.returned (.tuple #[])) w28))) ∧
     ((b22 = false →
      ∃ v29 : Value, Sem.run Try.prog (Instr.typeAssert v0 145 155 true) w = .ok v29 w ∧
      ∃ o30 : Option Addr, ∃ b31 : Bool, v29 = (.tuple #[(.pointer o30), (.bool b31)]) ∧
      (((b31 = true →
        ∃ d32 : Addr, o30 = some d32 ∧
        ∃ L33 : Array Value, RowAt w d32 16 L33 ∧
        ∃ (I34 : Int → World → Prop) (μ34 : Int → World → Nat), I34 0 w ∧
        (∀ (n35 : Int) (j36 : Nat → Value) (w36 : World), I34 n35 w36 →
          (((n35 < 16 →
            ∃ v37 : Value, Sem.run Try.prog (Instr.index 156 (.agg L33) (.int .i64 n35)) w36 = .ok v37 w36 ∧
            ∃ v38 : Value, v37 = v38 ∧
            ∃ v39 : Value, World.cell? w36 d2 = some v39 ∧
            CallsV Try.prog v39 #[v38] w36 (fun e40 w41 =>
              e40 = .returned (.tuple #[]) ∧
              I34 (IntKind.wrap .i64 (n35 + 1)) w41 ∧ μ34 (IntKind.wrap .i64 (n35 + 1)) w41 < μ34 n35 w36))) ∧
           ((¬ n35 < 16 →
            R (.returned (.tuple #[])) w36)))))) ∧
       ((b31 = false →
        R (.returned (.tuple #[])) w)))))))))
theorem trie_Children_1.vc (v0 : Value) (d1 : Addr) (d2 : Addr) (w : World) (R : Ending → World → Prop) (h : trie_Children_1.Vc v0 d1 d2 w R) : Calls Try.prog 89 #[v0, (.pointer (some d1)), (.pointer (some d2))] w R :=
  execF_sound (R := ⟨R, false⟩) (ann := [(10, [(36, .cell (.int .i64))])]) (args := [.raw v0, .addr d1, .addr d2]) Try.func89 mixed (Eq.mp (by kernel_rfl : trie_Children_1.Vc v0 d1 d2 w R = execF (pA Try.prog ⟨R, false⟩) Try.prog [(10, [(36, .cell (.int .i64))])] Try.f89 [.raw v0, .addr d1, .addr d2] w) h)

end Go.Proofs.Ytfghidehlnfdiaa
end

section
set_option linter.unusedVariables false
set_option linter.unusedSimpArgs false
namespace Go.Trie
def isE : It → Bool
  | .s [] => true
  | _ => false
def valIs : It → Bool
  | .s (_ :: _) => true
  | _ => false
end Go.Trie
namespace Go.Proofs.Ytfghidehlnfdiaa
open Go Go.Vcg Go.Trie
def headIs : It → Option (By × Bool)
  | .s p => unpack p
  | .l _ => none
def nodeN : Nat → List It → Bool
  | 0, _ => false
  | f + 1, xs =>
    let ref : It → Bool := fun x => match x with
      | .s b => decide (b.length = 32)
      | .l ys => decide ((enc (.l ys)).length < 32) && nodeN f ys
    if xs.length = 2 then
      match headIs (xs.getD 0 (.s [])) with
      | none => false
      | some (_, true) => valIs (xs.getD 1 (.s []))
      | some (p, false) => decide (p ≠ []) && ref (xs.getD 1 (.s []))
    else if xs.length = 17 then
      match xs.getD 16 (.s []) with
      | .l _ => false
      | .s v => (xs.take 16).all (fun x => isE x || ref x) && decide (2 ≤ (if v = [] then 0 else 1) + ((xs.take 16).filter (fun x => !isE x)).length)
    else false
def refN (f : Nat) (x : It) : Bool := match x with
  | .s b => decide (b.length = 32)
  | .l ys => decide ((enc (.l ys)).length < 32) && nodeN f ys
def isN (f : Nat) (x : It) : Bool := match x with
  | .s _ => false
  | .l xs => nodeN f xs
theorem nodeN_two {f : Nat} {xs : List It} (h : xs.length = 2) : nodeN (f + 1) xs = (match headIs (xs.getD 0 (.s [])) with
      | none => false
      | some (_, true) => valIs (xs.getD 1 (.s []))
      | some (p, false) => decide (p ≠ []) && refN f (xs.getD 1 (.s []))) := by
  simp only [nodeN]; rw [if_pos h]; rfl
theorem nodeN_many {f : Nat} {xs : List It} (h : xs.length = 17) : nodeN (f + 1) xs = (match xs.getD 16 (.s []) with
      | .l _ => false
      | .s v => (xs.take 16).all (fun x => isE x || refN f x) && decide (2 ≤ (if v = [] then 0 else 1) + ((xs.take 16).filter (fun x => !isE x)).length)) := by
  simp only [nodeN]; rw [if_neg (by omega), if_pos h]; rfl
theorem nodeN_no {f : Nat} {xs : List It} (h : xs.length ≠ 2) (h' : xs.length ≠ 17) : nodeN (f + 1) xs = false := by
  simp only [nodeN]; rw [if_neg h, if_neg h']
/-- A node's value in memory; its blocks stand from N on. -/
def RV (N : Nat) : Nat → World → It → Value → Prop
  | _, w, .s b, v => (b = [] ∧ v = .nilIface) ∨ (b.length = 32 ∧ ∃ D, N ≤ D ∧ v = .iface 149 (.pointer (some ⟨D, 0, none⟩)) ∧ Blk w D 151 (hashA b))
  | 0, _, .l _, _ => False
  | f + 1, w, .l xs, v =>
    (xs.length = 2 ∧ (∃ p, headIs (xs.getD 0 (.s [])) = some (p, true)) ∧ ∃ d : Addr, v = .iface 171 (.pointer (some d))) ∨
    (xs.length = 2 ∧ (∃ p, headIs (xs.getD 0 (.s [])) = some (p, false)) ∧ ∃ D s vc, N ≤ D ∧ v = .iface 152 (.pointer (some ⟨D, 0, none⟩)) ∧ Blk w D 154 #[s, vc] ∧ RV N f w (xs.getD 1 (.s [])) vc) ∨
    (xs.length = 17 ∧ ∃ D vs ov lv kv, N ≤ D ∧ v = .iface 155 (.pointer (some ⟨D, 0, none⟩)) ∧ Blk w D 158 (brA vs ov lv kv) ∧ ∀ i : Fin 16, RV N f w (xs.getD i.val (.s [])) (vs i))
theorem RV.modS {S : Nat → Prop} {N N' : Nat} {w w' : World} (M : Vcg.Mod S w w') (hS : ∀ b, S b → b < N) (hN : N' ≤ N) : ∀ {f : Nat} {x : It} {v : Value}, RV N f w x v → RV N' f w' x v
  | f, .s b, v, h => by
    simp only [RV] at h ⊢
    rcases h with h | ⟨h1, D, h0, h2, h3⟩
    · exact .inl h
    · exact .inr ⟨h1, D, by omega, h2, h3.mod M (fun h => by have := hS _ h; omega)⟩
  | 0, .l _, _, h => by simp only [RV] at h
  | f + 1, .l xs, v, h => by
    simp only [RV] at h ⊢
    rcases h with h | ⟨h1, h2, D, s, vc, h0, h3, h4, h5⟩ | ⟨h1, D, vs, ov, lv, kv, h0, h2, h3, h4⟩
    · exact .inl h
    · exact .inr (.inl ⟨h1, h2, D, s, vc, by omega, h3, h4.mod M (fun h => by have := hS _ h; omega), RV.modS M hS hN h5⟩)
    · exact .inr (.inr ⟨h1, D, vs, ov, lv, kv, by omega, h2, h3.mod M (fun h => by have := hS _ h; omega), fun i => RV.modS M hS hN (h4 i)⟩)
theorem RV.mod' {N N' : Nat} {w w' : World} (M : Vcg.Mod NoB w w') (hN : N' ≤ N) {f : Nat} {x : It} {v : Value} (h : RV N f w x v) : RV N' f w' x v := RV.modS M (fun _ h => h.elim) hN h
/-- An item that may be encoded. -/
def Fine (x : It) : Prop := dep x ≤ 16 ∧ count x ≤ 4096 ∧ (enc x).length ≤ 65536
theorem Fine.mem {xs : List It} (h : Fine (.l xs)) {x : It} (hx : x ∈ xs) : Fine x := by
  obtain ⟨h1, h2, h3⟩ := h
  have hd := dep_mem hx
  have he := enc_mem hx
  have hc : count x ≤ counts xs := by
    clear h1 h2 h3 hd he
    induction xs with
    | nil => cases hx
    | cons y r ih =>
      simp only [counts]
      rcases List.mem_cons.1 hx with rfl | hx
      · omega
      · have := ih hx; omega
  have hl : 1 ≤ xs.length := List.length_pos_iff.2 (List.ne_nil_of_mem hx)
  simp only [dep] at h1
  simp only [count] at h2
  simp only [enc, List.length_append] at h3
  exact ⟨by omega, by omega, by omega⟩
/-- What noded does. -/
def NodedAt (f : Nat) : Prop := ∀ (x : It) {A : Nat → Prop} {w : World} {v1 v2 v3 : Value}, dep x ≤ f → Fine x → ItC A w x v1 v2 v3 →
  Calls Try.prog trie_noded.n #[.agg #[v1, v2, v3]] w (fun e w' => ∃ v, e = .returned (.tuple #[v, .bool (isN f x)]) ∧ Vcg.Mod NoB w w' ∧ v.oneCell' = true ∧ (isN f x = true → RV w.heap.size f w' x v))
/-- What referred does. -/
def ReferAt (f : Nat) : Prop := ∀ (x : It) {A : Nat → Prop} {w : World} {v1 v2 v3 : Value}, dep x ≤ f → Fine x → ItC A w x v1 v2 v3 →
  Calls Try.prog trie_referred.n #[.agg #[v1, v2, v3]] w (fun e w' => ∃ v, e = .returned (.tuple #[v, .bool (refN f x)]) ∧ Vcg.Mod NoB w w' ∧ v.oneCell' = true ∧ (refN f x = true → RV w.heap.size f w' x v))
theorem lput_all {Z L : Array Value} (hZ : Z.size = 32) (hL : L.size = 32) : lputL Z 0 32 L = L := by
  unfold lputL
  have ht : L.toList.take 32 = L.toList := List.take_of_length_le (by simp [hL])
  rw [ht]
  apply Array.ext_getElem?
  intro i
  rw [get_setsAt _ _ _ _ (by simp [hL, hZ])]
  by_cases hi : i < 32
  · rw [if_pos ⟨Nat.zero_le _, by simp [hL]; exact hi⟩, Nat.sub_zero, Array.getElem?_toList]
  · rw [if_neg (by simp [hL]; omega), Array.getElem?_eq_none (by omega), Array.getElem?_eq_none (by omega)]
theorem refer_of {f : Nat} (hN : NodedAt f) : ReferAt f := by
  intro x A w v1 v2 v3 hdp hf hx
  obtain ⟨b, o1, l1, c1, o2, l2, c2, rfl, rfl, rfl⟩ := hx.vals
  refine calls_gen fun R hR => trie_referred.vc _ _ _ _ _ _ _ _ _ ?_
  unfold trie_referred.Vc
  rintro d3 w1 ⟨rfl, rfl⟩
  have M1 : Vcg.Mod NoB w _ := Mod.alloc w (.cells #[.bool b, .slice o1 l1 c1, .slice o2 l2 c2] 138)
  have X1 := Blk.new w 138 #[.bool b, .slice o1 l1 c1, .slice o2 l2 c2]
  generalize w.alloc (.cells #[.bool b, .slice o1 l1 c1, .slice o2 l2 c2] 138) = w1 at *
  have hx1 := ItC.mod M1 _ hx
  cases x with
  | s bs =>
    have hx1' := hx1
    simp only [ItC] at hx1
    obtain ⟨h1, ⟨o, c, h2, h3, h4⟩, h5⟩ := hx1
    cases h1; cases h2; cases h5
    refine ⟨_, X1.rd1 rfl, fun _ => ⟨_, _, _, by rw [add_at]; exact X1.rd1 rfl, fun hn => ?_, fun hn => ⟨_, _, _, by rw [add_at]; exact X1.rd1 rfl, by omega, ?_⟩⟩, fun h => (by cases h)⟩
    · refine hR _ _ ⟨.nilIface, ?_, M1, rfl, fun h => ?_⟩
      · simp only [refN]; rw [decide_eq_false (by omega)]
      · simp only [refN, decide_eq_true_eq] at h; omega
    · obtain ⟨g, f0, rfl, hg, hc⟩ := h3 (by rintro rfl; simp at hn)
      refine ⟨_, rfl, hashA bs, ⟨size_hashA bs, fun i hi => ?_⟩, size_hashA bs, ?_⟩
      · rw [add_at, hc i (by omega)]
        simp only [hashA]
        exact (get_arrOf_lt (f := fun i => bV (bs.getD i 0)) hi).symm
      · rw [lput_all (by simp) (size_hashA bs)]
        rintro d4 w2 ⟨rfl, rfl⟩
        refine hR _ _ ⟨.iface 149 (.pointer (some ⟨w1.heap.size, 0, none⟩)), ?_, M1.step_alloc _, rfl, fun _ => ?_⟩
        · simp only [refN]; rw [decide_eq_true (by omega)]
        · simp only [RV]
          exact .inr ⟨by omega, _, M1.size, rfl, Blk.new w1 151 (hashA bs)⟩
  | l xs =>
    have hx1' := hx1
    simp only [ItC] at hx1
    obtain ⟨h1, h2, o, c, h3, h4, hcap⟩ := hx1
    cases h1; cases h2; cases h3
    refine ⟨_, X1.rd1 rfl, fun h => (by cases h), fun _ => get3 X1 ?_⟩
    refine (Encode_calls hx1' hf.1 hf.2.1 hf.2.2).mono ?_
    rintro _ w2 ⟨o', k', rfl, F⟩
    have M02 := M1.none_trans F.mod
    have X2 := X1.mod' F.mod
    refine ⟨_, _, _, _, rfl, fun h => (h rfl).elim, fun _ => ⟨fun hge => ?_, fun hlt => get3 X2 ?_⟩⟩
    · refine hR _ _ ⟨.nilIface, ?_, M02, rfl, fun h => ?_⟩
      · simp only [refN]; rw [decide_eq_false (by omega)]; rfl
      · simp only [refN, Bool.and_eq_true, decide_eq_true_eq] at h; omega
    · refine (hN (.l xs) hdp hf (ItC.mod F.mod _ hx1')).mono ?_
      rintro _ w3 ⟨v, rfl, M3, hv, hrv⟩
      have e : refN f (.l xs) = isN f (.l xs) := by
        simp only [refN, isN]; rw [decide_eq_true (by omega)]; rfl
      exact ⟨_, _, rfl, hR _ _ ⟨v, by rw [e], M02.none_trans M3, hv, fun h => RV.mod' (Mod.refl _) M02.size (hrv (by rw [← e]; exact h))⟩⟩
/-- What short does with the two items of a list. -/
theorem short_calls {f : Nat} (hRf : ReferAt f) {x y : It} {A : Nat → Prop} {w : World} {v1 v2 v3 u1 u2 u3 : Value} (hdy : dep y ≤ f) (hfx : Fine x) (hfy : Fine y) (hx : ItC A w x v1 v2 v3) (hy : ItC A w y u1 u2 u3) :
    Calls Try.prog trie_short.n #[.agg #[v1, v2, v3], .agg #[u1, u2, u3]] w (fun e w' => ∃ v, e = .returned (.tuple #[v, .bool (nodeN (f + 1) [x, y])]) ∧ Vcg.Mod NoB w w' ∧ v.oneCell' = true ∧ (nodeN (f + 1) [x, y] = true → RV w.heap.size (f + 1) w' (.l [x, y]) v)) := by
  obtain ⟨b, o1, l1, c1, o2, l2, c2, rfl, rfl, rfl⟩ := hx.vals
  obtain ⟨b', p1, q1, r1, p2, q2, r2, rfl, rfl, rfl⟩ := hy.vals
  refine calls_gen fun R hR => trie_short.vc _ _ _ _ _ _ _ _ _ _ _ _ _ _ _ _ ?_
  unfold trie_short.Vc
  have hnode : nodeN (f + 1) [x, y] = (match headIs x with
      | none => false
      | some (_, true) => valIs y
      | some (p, false) => decide (p ≠ []) && refN f y) := nodeN_two rfl
  rintro d6 w1 ⟨rfl, rfl⟩
  have M1 : Vcg.Mod NoB w _ := Mod.alloc w (.cells #[.bool b, .slice o1 l1 c1, .slice o2 l2 c2] 138)
  have X1 := Blk.new w 138 #[.bool b, .slice o1 l1 c1, .slice o2 l2 c2]
  generalize w.alloc (.cells #[.bool b, .slice o1 l1 c1, .slice o2 l2 c2] 138) = w1 at *
  rintro d8 w2 ⟨rfl, rfl⟩
  have M12 : Vcg.Mod NoB w1 _ := Mod.alloc w1 (.cells #[.bool b', .slice p1 q1 r1, .slice p2 q2 r2] 138)
  have Y2 := Blk.new w1 138 #[.bool b', .slice p1 q1 r1, .slice p2 q2 r2]
  have X2 := X1.mod' M12
  have M2 := M1.none_trans M12
  generalize w1.heap.size = N' at *
  generalize w1.alloc (.cells #[.bool b', .slice p1 q1 r1, .slice p2 q2 r2] 138) = w2 at *
  have hx2 := ItC.mod M2 _ hx
  have hy2 := ItC.mod M2 _ hy
  have no : ∀ w', headIs x = none → Vcg.Mod NoB w w' → R (.returned (.tuple #[.nilIface, .bool false])) w' := fun w' h M => by
    rw [h] at hnode
    exact hR _ _ ⟨.nilIface, by rw [hnode], M, rfl, fun h => by rw [hnode] at h; cases h⟩
  refine ⟨_, X2.rd1 rfl, fun hb => no _ ?_ M2, fun hb => ⟨_, _, _, by rw [add_at]; exact X2.rd1 rfl, ?_⟩⟩
  · cases x with
    | s bs => simp only [ItC] at hx2; cases hx2.1; cases hb
    | l xs => rfl
  cases x with
  | l xs => simp only [ItC] at hx2; cases hx2.1; cases hb
  | s bs =>
    simp only [ItC] at hx2
    obtain ⟨h1, ⟨o, c, h2, h3, h4⟩, h5⟩ := hx2
    cases h1; cases h2; cases h5
    have hbl : bs.length ≤ 2 ^ 20 := by
      have : bs.length ≤ (enc (.s bs)).length := by
        simp only [enc]
        split
        · exact Nat.le_refl _
        · rw [List.length_append]; omega
      have := hfx.2.2
      omega
    simp only [headIs] at hnode no
    refine (Unpack_calls h3 hbl).mono ?_
    rintro _ w3 ⟨o', k', rfl, M3, R3, _⟩
    have M03 := M2.none_trans M3
    have Y3 := Y2.mod' M3
    have hy3 := ItC.mod M3 _ hy2
    cases hu : unpack bs with
    | none =>
      have e : upk bs = ([], false, 143) := by unfold upk; rw [hu]
      rw [e]
      exact ⟨_, _, _, _, _, rfl, fun _ => no _ hu M03, fun h => absurd h (by decide)⟩
    | some r =>
      obtain ⟨p, lf⟩ := r
      have e : upk bs = (p, lf, 0) := by unfold upk; rw [hu]
      rw [e]
      rw [hu] at hnode
      refine ⟨_, _, _, _, _, rfl, fun h => (h rfl).elim, fun _ => ⟨fun hlf => ?_, fun hlf => ?_⟩⟩
      · subst hlf
        simp only at hnode
        rintro _ rfl
        have M4 : Vcg.Mod NoB w3 w3.drew := Mod.drew w3
        have Y4 := Y3.mod' M4
        have M04 := M03.none_trans M4
        generalize w3.drew = w4 at *
        have hrv : ∀ (w' : World) (d : Addr), RV w.heap.size (f + 1) w' (.l [.s bs, y]) (.iface 171 (.pointer (some d))) := fun w' d => by
          simp only [RV]
          exact .inl ⟨rfl, ⟨p, hu⟩, d, rfl⟩
        cases y with
        | s vs =>
          simp only [ItC] at hy3
          obtain ⟨h1, ⟨oy, cy, h2, h3', h4'⟩, h5⟩ := hy3
          cases h1; cases h2; cases h5
          refine ⟨_, _, _, by rw [add_at]; exact Y4.rd1 rfl, _, Y4.rd1 rfl, fun _ => ⟨_, _, _, by rw [add_at]; exact Y4.rd1 rfl, ?_⟩, fun h => (by cases h)⟩
          rintro d5 w5 ⟨rfl, rfl⟩
          refine ⟨by rw [add_at]; exact (Y4.mod' (Mod.alloc w4 _)).rd1 rfl, (Y4.mod' (Mod.alloc w4 _)).rd1 rfl, hR _ _ ⟨.iface 171 (.pointer (some ⟨w4.heap.size, 0, none⟩)), ?_, M04.none_trans (Mod.alloc w4 _), rfl, fun _ => hrv _ _⟩⟩
          rw [hnode]
          cases vs with
          | nil => rfl
          | cons a r => rw [decide_eq_true (by simp only [List.length_cons]; omega)]; rfl
        | l ys =>
          simp only [ItC] at hy3
          obtain ⟨h1, h2, oy, cy, h3', h4', _⟩ := hy3
          cases h1; cases h2; cases h3'
          refine ⟨_, _, _, by rw [add_at]; exact Y4.rd1 rfl, _, Y4.rd1 rfl, fun h => (by cases h), fun _ => ?_⟩
          rintro d5 w5 ⟨rfl, rfl⟩
          refine ⟨(Y4.mod' (Mod.alloc w4 _)).rd1 rfl, hR _ _ ⟨.iface 171 (.pointer (some ⟨w4.heap.size, 0, none⟩)), ?_, M04.none_trans (Mod.alloc w4 _), rfl, fun _ => hrv _ _⟩⟩
          rw [hnode]; rfl
      · subst hlf
        simp only at hnode
        refine ⟨fun hz => ?_, fun hz => get3 Y3 ?_⟩
        · have hp : p = [] := List.eq_nil_of_length_eq_zero (by dsimp only at hz; omega)
          rw [hp] at hnode
          simp only [ne_eq, not_true_eq_false, decide_false, Bool.false_and] at hnode
          exact hR _ _ ⟨.nilIface, by rw [hnode], M03, rfl, fun h => by rw [hnode] at h; cases h⟩
        · have hp : p ≠ [] := by rintro rfl; simp at hz
          rw [decide_eq_true hp, Bool.true_and] at hnode
          refine (hRf y hdy hfy hy3).mono ?_
          rintro _ w4 ⟨v, rfl, M4, hv, hrv⟩
          refine ⟨_, _, rfl, hv, ?_⟩
          rintro d5 w5 ⟨rfl, rfl⟩
          have M5 : Vcg.Mod NoB w4 _ := Mod.alloc w4 (.cells #[.slice o' p.length k', v] 154)
          refine hR _ _ ⟨.iface 152 (.pointer (some ⟨w4.heap.size, 0, none⟩)), by rw [hnode], (M03.none_trans M4).none_trans M5, rfl, fun h => ?_⟩
          rw [hnode] at h
          simp only [RV]
          exact .inr (.inl ⟨rfl, ⟨p, hu⟩, _, _, v, (M03.none_trans M4).size, rfl, Blk.new w4 154 _, RV.mod' M5 M03.size (hrv h)⟩)
end Go.Proofs.Ytfghidehlnfdiaa
end
