/- Contracts: an item's size; its encoding. -/
/- Tries as plain Lean: a node's item, its bytes, its reference; how big they get. -/
/- Tries as plain Lean: bounds. -/
/- Nodes in memory. -/
/- What a type assertion says of a node. -/
/- Contracts: a node that is in sight; a leaf laid into a new branch. -/
/- Contracts: a node behind nibbles. -/
/- Contracts: items of nodes. -/
/- Contracts: a node's bytes, its reference; a row's item. -/
/- Contracts: a row's item. -/
/- Rows of items that grow; a branch's item. -/
/- Contracts: a branch's item; the items of all nodes. -/
/- Nodes in memory under other labels; contracts: Get. -/
/- Contracts: put. -/
import Derived.Test.YtfghidehlnfdiaaTP4
section
set_option linter.unusedVariables false
set_option linter.unusedSimpArgs false
namespace Go.Trie
mutual
def count : It → Nat
  | .s _ => 1
  | .l xs => 1 + counts xs
def counts : List It → Nat
  | [] => 0
  | x :: r => count x + counts r
end
mutual
def dep : It → Nat
  | .s _ => 1
  | .l xs => 1 + deps xs
def deps : List It → Nat
  | [] => 0
  | x :: r => max (dep x) (deps r)
end
theorem counts_append : ∀ (xs ys : List It), counts (xs ++ ys) = counts xs + counts ys
  | [], ys => by simp only [counts, List.nil_append, Nat.zero_add]
  | x :: r, ys => by simp only [counts, List.cons_append, counts_append r ys, Nat.add_assoc]
theorem counts_take_le (xs : List It) (j : Nat) : counts (xs.take j) ≤ counts xs := by
  have := congrArg counts (List.take_append_drop j xs)
  rw [counts_append] at this
  omega
theorem dep_mem : ∀ {xs : List It} {x : It}, x ∈ xs → dep x ≤ deps xs
  | y :: r, x, h => by
    simp only [deps]
    rcases List.mem_cons.1 h with rfl | h
    · omega
    · have := dep_mem h; omega
theorem count_pos (x : It) : 1 ≤ count x := by cases x <;> simp only [count] <;> omega
theorem dep_pos (x : It) : 1 ≤ dep x := by cases x <;> simp only [dep] <;> omega
theorem counts_len : ∀ (xs : List It), xs.length ≤ counts xs
  | [] => Nat.zero_le _
  | x :: r => by
    have h1 := counts_len r
    have h2 := count_pos x
    simp only [counts, List.length_cons]; omega
theorem head_base (n b c : Nat) : (head n b).length = (head n c).length := by unfold head; split <;> simp
end Go.Trie
namespace Go.Proofs.Ytfghidehlnfdiaa
open Go Go.Vcg Go.Trie
section
variable {A : Nat → Prop}
theorem meets_calls {w : World} {D n depth : Nat} (W : Blk w D 231 #[.int .i64 (n : Int)]) (hd : depth ≤ 16) (hn : n < 4096) :
    Calls Try.prog rlp_walker_meets.n #[.pointer (some ⟨D, 0, none⟩), .int .i64 (depth : Int)] w (fun e w' => e = .returned (.int .i64 0) ∧ Vcg.Mod (· = D) w w' ∧ Blk w' D 231 #[.int .i64 ((n + 1 : Nat) : Int)]) := by
  refine rlp_walker_meets.vc _ _ _ _ ?_
  unfold rlp_walker_meets.Vc
  refine ⟨fun h => by omega, fun _ => ⟨_, W.rd1 rfl, fun h => by omega, fun _ => ⟨_, W.rd1 rfl, W.canSet (by simp) rfl, ?_⟩⟩⟩
  rintro _ rfl
  have ew : IntKind.wrap .i64 ((n : Int) + 1) = ((n + 1 : Nat) : Int) := by rw [wrap_i64_small (by omega) (by omega)]; omega
  rw [ew]
  exact ⟨rfl, Mod.setCell w ⟨D, 0, none⟩ _, W.set 0 _⟩
theorem mod_of {w0 w w' : World} {D : Nat} (M : Vcg.Mod NoB w0 w) (h : Vcg.Mod (· = D) w w') (hD : w0.heap.size ≤ D) : Vcg.Mod NoB w0 w' :=
  M.trans h (fun i hi e => by subst e; omega)
theorem size_calls : ∀ (x : It) {w0 w : World} {b : Bool} {o1 : Option Addr} {l1 c1 : Nat} {o2 : Option Addr} {l2 c2 : Nat} {D n depth : Nat}, ItC A w0 x (.bool b) (.slice o1 l1 c1) (.slice o2 l2 c2) → Vcg.Mod NoB w0 w → w0.heap.size ≤ D → Blk w D 231 #[.int .i64 (n : Int)] → depth + dep x ≤ 17 → n + count x ≤ 4096 → (enc x).length ≤ 2 ^ 20 →
    Calls Try.prog rlp_walker_size.n #[.pointer (some ⟨D, 0, none⟩), .agg #[.bool b, .slice o1 l1 c1, .slice o2 l2 c2], .int .i64 (depth : Int)] w (fun e w' => e = .returned (.tuple #[.int .i64 (((enc x).length : Nat) : Int), .int .i64 0]) ∧ Vcg.Mod (· = D) w w' ∧ Blk w' D 231 #[.int .i64 ((n + count x : Nat) : Int)])
  | .s bs, w0, w, b, o1, l1, c1, o2, l2, c2, D, n, depth, h, M, hD, W, hdp, hn, hlen => by
    simp only [ItC, Value.bool.injEq, Value.slice.injEq] at h
    obtain ⟨rfl, ⟨o, c, ⟨rfl, rfl, rfl⟩, hr, _⟩, rfl, rfl, rfl⟩ := h
    simp only [dep, count] at hdp hn ⊢
    refine calls_gen fun R hR => rlp_walker_size.vc _ _ _ _ _ _ _ _ _ _ _ ?_
    unfold rlp_walker_size.Vc
    rintro d w1 ⟨rfl, rfl⟩
    have X := Blk.new w 138 #[.bool false, .slice o1 bs.length c1, .slice none 0 0]
    have M1 := Mod.alloc (S := (· = D)) w (.cells #[.bool false, .slice o1 bs.length c1, .slice none 0 0] 138)
    have W1 := W.alloc (.cells #[.bool false, .slice o1 bs.length c1, .slice none 0 0] 138)
    have hne : w.heap.size ≠ D := by have := W.lt; omega
    generalize w.alloc (.cells #[.bool false, .slice o1 bs.length c1, .slice none 0 0] 138) = w1 at *
    generalize w.heap.size = N at *
    refine (meets_calls W1 (by omega) (by omega)).mono ?_
    rintro _ w2 ⟨rfl, M2, W2⟩
    have X2 := X.mod M2 hne
    have M02 := M1.trans M2 (fun _ _ h => h)
    have hr2 := hr.mod' (mod_of M M02 hD)
    refine ⟨_, rfl, fun h => (h rfl).elim, fun _ => ?_⟩
    simp only [add_at, Nat.zero_add]
    simp only [enc] at hlen hR
    refine ⟨fun w' => w' = w2 ∧ own bs = false, ⟨fun b w' => b = false ∧ w' = w2, ⟨_, X2.rd1 rfl, fun h => (by cases h), fun _ => ⟨_, X2.rd1 rfl, fun _ => ⟨_, _, _, X2.rd1 rfl, by simp, rfl⟩, fun h => by cases h⟩⟩, ?_⟩, ?_⟩
    · rintro _ _ _ ⟨rfl, rfl⟩
      refine ⟨fun h => (by cases h), fun _ => ⟨_, _, _, X2.rd1 rfl, ?_⟩⟩
      refine (own_calls hr2).mono ?_
      rintro _ w3 ⟨rfl, rfl⟩
      refine ⟨_, rfl, fun ho => ?_, fun ho => ⟨rfl, ho⟩⟩
      rw [if_pos ho] at hR
      have hl1 : bs.length = 1 := by
        cases bs with
        | nil => simp [own] at ho
        | cons a r => cases r with
          | nil => rfl
          | cons b r => simp [own] at ho
      exact hR _ _ ⟨by rw [hl1]; rfl, M02, W2⟩
    · rintro _ w2 ⟨rfl, ho⟩
      rw [if_neg (by rw [ho]; simp), List.length_append] at hR hlen
      refine ⟨_, _, _, X2.rd1 rfl, _, _, _, X2.rd1 rfl, ?_⟩
      refine ⟨fun a i w' => a = ((bs.length : Nat) : Int) ∧ i = 0 ∧ w' = w2, fun _ _ _ => 0, ⟨rfl, rfl, rfl⟩, ?_⟩
      rintro _ _ _ _ ⟨rfl, rfl, rfl⟩
      refine ⟨fun h => absurd h (by simp), fun _ => ?_⟩
      refine (head_calls bs.length 0 (by omega) (by omega)).mono ?_
      rintro _ w4 ⟨o4, k4, rfl, F4⟩
      refine ⟨_, _, _, rfl, hR _ _ ⟨?_, M02.trans (F4.mod.mono (fun _ _ h => h.elim)) (fun _ _ h => h), W2.mod' F4.mod⟩⟩
      have hb := head_base bs.length 0 128
      have ew : IntKind.wrap .i64 (((bs.length : Nat) : Int) + (((Trie.head bs.length 0).length : Nat) : Int)) = (((Trie.head bs.length 128).length + bs.length : Nat) : Int) := by
        rw [hb, wrap_i64_small (by omega) (by omega)]; omega
      rw [ew]
  | .l xs, w0, w, b, o1, l1, c1, o2, l2, c2, D, n, depth, h, M, hD, W, hdp, hn, hlen => by
    have ih : ∀ y ∈ xs, ∀ {w0 w : World} {b : Bool} {o1 : Option Addr} {l1 c1 : Nat} {o2 : Option Addr} {l2 c2 : Nat} {D n depth : Nat}, ItC A w0 y (.bool b) (.slice o1 l1 c1) (.slice o2 l2 c2) → Vcg.Mod NoB w0 w → w0.heap.size ≤ D → Blk w D 231 #[.int .i64 (n : Int)] → depth + dep y ≤ 17 → n + count y ≤ 4096 → (enc y).length ≤ 2 ^ 20 →
      Calls Try.prog rlp_walker_size.n #[.pointer (some ⟨D, 0, none⟩), .agg #[.bool b, .slice o1 l1 c1, .slice o2 l2 c2], .int .i64 (depth : Int)] w (fun e w' => e = .returned (.tuple #[.int .i64 (((enc y).length : Nat) : Int), .int .i64 0]) ∧ Vcg.Mod (· = D) w w' ∧ Blk w' D 231 #[.int .i64 ((n + count y : Nat) : Int)]) :=
      fun y hy => size_calls y
    simp only [ItC, Value.bool.injEq, Value.slice.injEq] at h
    obtain ⟨rfl, ⟨rfl, rfl, rfl⟩, o, c, ⟨rfl, rfl, rfl⟩, hI⟩ := h
    simp only [dep, count] at hdp hn ⊢
    refine calls_gen fun R hR => rlp_walker_size.vc _ _ _ _ _ _ _ _ _ _ _ ?_
    unfold rlp_walker_size.Vc
    rintro d w1 ⟨rfl, rfl⟩
    have X := Blk.new w 138 #[.bool true, .slice none 0 0, .slice o2 xs.length c2]
    have M1 := Mod.alloc (S := (· = D)) w (.cells #[.bool true, .slice none 0 0, .slice o2 xs.length c2] 138)
    have W1 := W.alloc (.cells #[.bool true, .slice none 0 0, .slice o2 xs.length c2] 138)
    have hne : w.heap.size ≠ D := by have := W.lt; omega
    generalize w.alloc (.cells #[.bool true, .slice none 0 0, .slice o2 xs.length c2] 138) = w1 at *
    generalize w.heap.size = N at *
    refine (meets_calls W1 (by omega) (by omega)).mono ?_
    rintro _ w2 ⟨rfl, M2, W2⟩
    have X2 := X.mod M2 hne
    have M02 := M1.trans M2 (fun _ _ h => h)
    refine ⟨_, rfl, fun h => (h rfl).elim, fun _ => ?_⟩
    simp only [add_at, Nat.zero_add]
    simp only [enc, List.length_append] at hlen hR
    refine ⟨fun w' => w' = w2, ⟨fun b w' => b = false ∧ w' = w2, ⟨_, X2.rd1 rfl, fun _ => ⟨_, _, _, X2.rd1 rfl, fun h => absurd h (by simp), fun _ => ⟨_, X2.rd1 rfl, fun h => (by cases h), fun _ => ⟨rfl, rfl⟩⟩⟩, fun h => by cases h⟩, ?_⟩, ?_⟩
    · rintro _ _ _ ⟨rfl, rfl⟩
      refine ⟨fun h => (by cases h), fun _ => ⟨_, _, _, X2.rd1 rfl, ?_⟩⟩
      refine (own_calls (b := []) (RdB.nil _ _)).mono ?_
      rintro _ w3 ⟨rfl, rfl⟩
      exact ⟨_, rfl, fun ho => (by simp [own] at ho), fun _ => rfl⟩
    · rintro _ w2 rfl
      refine ⟨_, _, _, X2.rd1 rfl, _, _, _, X2.rd1 rfl, ?_⟩
      refine ⟨fun a i w' => ∃ j : Nat, i = (j : Int) ∧ j ≤ xs.length ∧ a = (((encs (xs.take j)).length : Nat) : Int) ∧ Vcg.Mod (· = D) w w' ∧ Blk w' D 231 #[.int .i64 ((n + 1 + counts (xs.take j) : Nat) : Int)], fun _ i _ => ((xs.length : Int) - i).toNat,
        ⟨0, rfl, Nat.zero_le _, by rw [List.take_zero]; simp only [encs]; rfl, M02, by rw [List.take_zero]; simp only [counts]; exact W2⟩, ?_⟩
      have hcl := counts_len xs
      rintro _ _ _ w4 ⟨j, rfl, hj, rfl, M4, W4⟩
      have hle1 := encs_take_le xs j
      refine ⟨fun hlt => ?_, fun hge => ?_⟩
      · have hjl : j < xs.length := by omega
        have M04 := mod_of M M4 hD
        obtain ⟨B, f, v1, v2, v3, rfl, hB, h1, h2, h3, hx⟩ := hI.get j hjl
        obtain ⟨b, p1, q1, r1, p2, q2, r2, rfl, rfl, rfl⟩ := hx.vals
        have htk : xs.take (j + 1) = xs.take j ++ [xs[j]] := by rw [List.take_add_one, List.getElem?_eq_getElem hjl]; rfl
        have he : encs (xs.take (j + 1)) = encs (xs.take j) ++ enc xs[j] := by rw [htk, encs_append]; simp only [encs, List.append_nil]
        have hcn : counts (xs.take (j + 1)) = counts (xs.take j) + count xs[j] := by rw [htk, counts_append]; simp only [counts, Nat.add_zero]
        have hle2 := encs_take_le xs (j + 1)
        have hc2 := counts_take_le xs (j + 1)
        have hdm := dep_mem (List.getElem_mem hjl)
        rw [he, List.length_append] at hle2
        rw [hcn] at hc2
        rw [Nat.zero_add] at h1 h2 h3
        have cl : ∀ i, w4.cell? ⟨B, i, none⟩ = w0.cell? ⟨B, i, none⟩ := fun i => cell_mod M04 hB (fun h => h)
        have ew : IntKind.wrap .i64 ((j : Int) + 1) = ((j + 1 : Nat) : Int) := by rw [wrap_i64_small (by omega) (by omega)]; omega
        have ew2 : IntKind.wrap .i64 ((depth : Int) + 1) = ((depth + 1 : Nat) : Int) := by rw [wrap_i64_small (by omega) (by omega)]; omega
        rw [ew, ew2]
        refine ⟨_, rfl, by omega, _, _, _, _, _, _, _, by rw [add_at, Int.toNat_natCast]; exact (cl _).trans h1, by rw [add_at, add_at, Int.toNat_natCast]; exact (cl _).trans h2, by rw [add_at, add_at, Int.toNat_natCast]; exact (cl _).trans h3, ?_⟩
        rintro d w5 ⟨rfl, rfl⟩
        have Y := Blk.new w4 138 #[.bool false, .slice none 0 0, .slice none 0 0]
        have Q := Mod.alloc (S := NoB) w4 (.cells #[.bool false, .slice none 0 0, .slice none 0 0] 138)
        simp only [add_at, Nat.zero_add]
        refine ⟨Y.canSet (by simp) rfl, ?_⟩
        rintro _ rfl
        have Y1 := Y.set 0 (.bool b)
        have Q1 := Q.step_set (a := ⟨w4.heap.size, 0, none⟩) (v := .bool b) (fun h => (Nat.lt_irrefl _ h).elim)
        refine ⟨Y1.canSet (by simp) rfl, ?_⟩
        rintro _ rfl
        have Y2 := Y1.set 1 (.slice p1 q1 r1)
        have Q2 := Q1.step_set (a := ⟨w4.heap.size, 1, none⟩) (v := .slice p1 q1 r1) (fun h => (Nat.lt_irrefl _ h).elim)
        refine ⟨Y2.canSet (by simp) rfl, ?_⟩
        rintro _ rfl
        have Y3 := Y2.set 2 (.slice p2 q2 r2)
        have Q3 := Q2.step_set (a := ⟨w4.heap.size, 2, none⟩) (v := .slice p2 q2 r2) (fun h => (Nat.lt_irrefl _ h).elim)
        refine ⟨_, _, _, _, _, _, _, Y3.rd1 rfl, Y3.rd1 rfl, Y3.rd1 rfl, ?_⟩
        refine (ih _ (List.getElem_mem hjl) hx (M04.trans Q3 (fun _ _ h => h)) hD (W4.mod' Q3) (depth := depth + 1) (by omega) (by omega) (by omega)).mono ?_
        rintro _ w6 ⟨rfl, M6, W6⟩
        refine ⟨_, _, rfl, fun h => (h rfl).elim, fun _ => ⟨⟨j + 1, rfl, hjl, ?_, (M4.trans (Q3.mono (fun _ _ h => h.elim)) (fun _ _ h => h)).trans M6 (fun _ _ h => h), ?_⟩, by omega⟩⟩
        · rw [he, List.length_append, wrap_i64_small (by omega) (by omega)]; omega
        · rw [hcn, show n + 1 + (counts (xs.take j) + count xs[j]) = n + 1 + counts (xs.take j) + count xs[j] by omega]; exact W6
      · obtain rfl : j = xs.length := by omega
        rw [List.take_length] at W4 ⊢
        refine (head_calls (encs xs).length 0 (by omega) (by omega)).mono ?_
        rintro _ w5 ⟨o5, k5, rfl, F5⟩
        have hb := head_base (encs xs).length 0 192
        refine ⟨_, _, _, rfl, hR _ _ ⟨?_, M4.trans (F5.mod.mono (fun _ _ h => h.elim)) (fun _ _ h => h), ?_⟩⟩
        · have ew : IntKind.wrap .i64 ((((encs xs).length : Nat) : Int) + (((Trie.head (encs xs).length 0).length : Nat) : Int)) = (((Trie.head (encs xs).length 192).length + (encs xs).length : Nat) : Int) := by
            rw [hb, wrap_i64_small (by omega) (by omega)]; omega
          rw [ew]
        · rw [show n + (1 + counts xs) = n + 1 + counts xs by omega]
          exact W4.mod' F5.mod
  termination_by x => SizeOf.sizeOf x
  decreasing_by
    have := List.sizeOf_lt_of_mem hy
    simp; omega
/-- An item's encoding. -/
theorem Encode_calls {x : It} {w : World} {v1 v2 v3 : Value} (h : ItC A w x v1 v2 v3) (hd : dep x ≤ 16) (hn : count x ≤ 4096) (hl : (enc x).length ≤ 65536) :
    Calls Try.prog rlp_Encode.n #[.agg #[v1, v2, v3]] w (fun e w' => ∃ o k, e = .returned (.tuple #[.slice o (enc x).length k, .int .i64 0]) ∧ Fresh w w' tU8 1 o (enc x).length k ((enc x).map bV)) := by
  obtain ⟨b, o1, l1, c1, o2, l2, c2, rfl, rfl, rfl⟩ := h.vals
  refine rlp_Encode.vc _ _ _ _ _ _ _ _ _ ?_
  unfold rlp_Encode.Vc
  rintro d w1 ⟨rfl, rfl⟩ d5 w2 ⟨rfl, rfl⟩
  have M1 := Mod.alloc (S := NoB) w (.cells #[.bool b, .slice o1 l1 c1, .slice o2 l2 c2] 138)
  have M2 := M1.step_alloc (.cells #[.int .i64 0] 231)
  have X := (Blk.new w 138 #[.bool b, .slice o1 l1 c1, .slice o2 l2 c2]).alloc (.cells #[.int .i64 0] 231)
  have W := Blk.new (w.alloc (.cells #[.bool b, .slice o1 l1 c1, .slice o2 l2 c2] 138)) 231 #[.int .i64 0]
  have hsz : (w.alloc (.cells #[.bool b, .slice o1 l1 c1, .slice o2 l2 c2] 138)).heap.size = w.heap.size + 1 := size_alloc _ _
  generalize (w.alloc (.cells #[.bool b, .slice o1 l1 c1, .slice o2 l2 c2] 138)).heap.size = D at *
  generalize (w.alloc (.cells #[.bool b, .slice o1 l1 c1, .slice o2 l2 c2] 138)).alloc (.cells #[.int .i64 0] 231) = w2 at *
  simp only [add_at, Nat.zero_add]
  refine ⟨_, _, _, _, _, _, _, X.rd1 rfl, X.rd1 rfl, X.rd1 rfl, ?_⟩
  refine (size_calls x h M2 (by omega) W (n := 0) (depth := 1) (by omega) (by omega) (by omega)).mono ?_
  rintro _ w3 ⟨rfl, M3, _⟩
  have X3 := X.mod M3 (by omega)
  have M03 := mod_of M2 M3 (by omega)
  refine ⟨_, _, rfl, fun h => (h rfl).elim, fun _ => ⟨fun h => by omega, fun _ => ⟨_, _, _, _, _, _, _, X3.rd1 rfl, X3.rd1 rfl, X3.rd1 rfl, ?_⟩⟩⟩
  refine (put_calls x (ItC.mod M03 x h) (by omega)).mono ?_
  rintro _ w4 ⟨o4, k4, rfl, F4⟩
  exact ⟨_, _, _, rfl, o4, k4, rfl, Fresh.from_ F4 M03⟩
end
end Go.Proofs.Ytfghidehlnfdiaa
end

section
set_option linter.unusedVariables false
set_option linter.unusedSimpArgs false
namespace Go.Trie
open Go.Vcg
/-- How an item is referred to. -/
def wrapRef (x : It) : It := if 32 ≤ (enc x).length then .s (sumOf (enc x)) else x
def packed (p : By) (leaf : Bool) : By := (pack p leaf).1
def itemOf : Nd → It
  | .nil => .s []
  | .leaf p v => .l [.s (packed p true), .s v]
  | .row p c => .l [.s (packed p false), wrapRef (itemOf c)]
  | .branch cs v => .l (((List.finRange 16).map fun i => wrapRef (itemOf (cs i))) ++ [.s v])
def refOf (n : Nd) : It := wrapRef (itemOf n)
def bytesOf (n : Nd) : By := enc (itemOf n)
theorem head_pos (n b : Nat) : 1 ≤ (head n b).length := by unfold head; split <;> simp
theorem head_le (n b : Nat) : (head n b).length ≤ 9 := by
  have := digits_le n
  unfold head; split <;> simp <;> omega
theorem enc_pos (x : It) : 1 ≤ (enc x).length := by
  cases x with
  | s b =>
    simp only [enc]
    split
    · rename_i ho
      cases b with
      | nil => simp [own] at ho
      | cons a r => simp
    · rw [List.length_append]; have := head_pos b.length 128; omega
  | l xs => simp only [enc, List.length_append]; have := head_pos (encs xs).length 192; omega
theorem encs_len : ∀ (xs : List It), xs.length ≤ (encs xs).length
  | [] => by simp
  | x :: r => by
    have h1 := enc_pos x
    have h2 := encs_len r
    simp only [encs, List.length_append, List.length_cons]; omega
theorem enc_l_len (xs : List It) : 1 + xs.length ≤ (enc (.l xs)).length := by
  have h1 := encs_len xs
  have h2 := head_pos (encs xs).length 192
  simp only [enc, List.length_append]; omega
theorem enc_mem : ∀ {xs : List It} {x : It}, x ∈ xs → (enc x).length + xs.length ≤ (encs xs).length + 1
  | y :: r, x, h => by
    simp only [encs, List.length_append, List.length_cons]
    rcases List.mem_cons.1 h with rfl | h
    · have := encs_len r; omega
    · have h1 := enc_mem h
      have h2 := enc_pos y
      omega
theorem enc_s_le (b : By) : (enc (.s b)).length ≤ 9 + b.length := by
  simp only [enc]
  split
  · omega
  · rw [List.length_append]; have := head_le b.length 128; omega
/-- Little items of a canonical trie are shallow. -/
theorem branch_big (cs : Fin 16 → Nd) (v : By) : 18 ≤ (bytesOf (.branch cs v)).length := by
  have := enc_l_len (((List.finRange 16).map fun i => wrapRef (itemOf (cs i))) ++ [.s v])
  simp only [List.length_append, List.length_map, List.length_finRange, List.length_cons, List.length_nil] at this
  simp only [bytesOf, itemOf]
  omega
theorem deps_le {xs : List It} {d : Nat} (h : ∀ x ∈ xs, dep x ≤ d) : deps xs ≤ d := by
  induction xs with
  | nil => simp [deps]
  | cons x r ih =>
    simp only [deps]
    have h1 := h x (by simp)
    have h2 := ih (fun y hy => h y (by simp [hy]))
    omega
theorem dep_small : ∀ {n : Nd}, Canon n → (bytesOf n).length < 32 → dep (itemOf n) ≤ (match n with | .nil => 1 | .leaf _ _ => 2 | .branch _ _ => 3 | .row _ _ => 4)
  | .nil, _, _ => by simp [itemOf, dep]
  | .leaf p v, _, _ => by simp [itemOf, dep, deps]
  | .branch cs v, hc, hl => by
    have key : ∀ x ∈ ((List.finRange 16).map fun i => wrapRef (itemOf (cs i))) ++ [.s v], dep x ≤ 2 := by
      intro x hx
      have hm := enc_mem hx
      have he : (bytesOf (.branch cs v)).length = (head (encs (((List.finRange 16).map fun i => wrapRef (itemOf (cs i))) ++ [.s v])).length 192).length + (encs (((List.finRange 16).map fun i => wrapRef (itemOf (cs i))) ++ [.s v])).length := by
        simp only [bytesOf, itemOf, enc, List.length_append]
      have hh := head_pos (encs (((List.finRange 16).map fun i => wrapRef (itemOf (cs i))) ++ [.s v])).length 192
      simp only [List.length_append, List.length_map, List.length_finRange, List.length_cons, List.length_nil] at hm he hh
      have hx15 : (enc x).length ≤ 15 := by omega
      rcases List.mem_append.1 hx with hx | hx
      · obtain ⟨i, _, rfl⟩ := List.mem_map.1 hx
        unfold wrapRef at hx15 ⊢
        split
        · simp [dep]
        · rename_i hlt
          rw [if_neg hlt] at hx15
          cases hci : cs i with
          | nil => simp [itemOf, dep]
          | leaf p w => simp [itemOf, dep, deps]
          | branch cs' w =>
            rw [hci] at hx15
            have := branch_big cs' w
            simp only [bytesOf] at this; omega
          | row p c =>
            rw [hci] at hx15
            have hcr := hc.1 i
            rw [hci] at hcr
            cases hcc : c with
            | branch cs' w =>
              have hb := branch_big cs' w
              have hm2 := enc_mem (xs := [.s (packed p false), wrapRef (itemOf c)]) (x := wrapRef (itemOf c)) (by simp)
              have h18 : 18 ≤ (enc (wrapRef (itemOf c))).length := by
                unfold wrapRef
                split
                · have hs : (sumOf (enc (itemOf c))).length = 32 := length_sumOf _
                  simp only [enc]
                  split
                  · rename_i ho
                    exfalso
                    have : (sumOf (enc (itemOf c))).length = 1 := by
                      revert ho
                      generalize sumOf (enc (itemOf c)) = z
                      intro ho
                      cases z with
                      | nil => simp [own] at ho
                      | cons a r => cases r with
                        | nil => rfl
                        | cons b r => simp [own] at ho
                    omega
                  · rw [List.length_append]; omega
                · rw [hcc]; simp only [bytesOf] at hb; exact hb
              simp only [itemOf, enc, List.length_append] at hx15
              simp only [List.length_cons, List.length_nil] at hm2
              omega
            | nil => rw [hcc] at hcr; exact hcr.2.2.1.elim
            | leaf p w => rw [hcc] at hcr; exact hcr.2.2.1.elim
            | row p c => rw [hcc] at hcr; exact hcr.2.2.1.elim
      · simp at hx; subst hx; simp [dep]
    have := deps_le key
    simp only [itemOf, dep]; omega
  | .row p c, hc, hl => by
    have hd : dep (wrapRef (itemOf c)) ≤ 3 := by
      unfold wrapRef
      split
      · simp [dep]
      · rename_i hlt
        have := dep_small hc.2.2.2 (by simp only [bytesOf]; omega)
        cases hcc : c with
        | branch cs' w => rw [hcc] at this; exact this
        | nil => rw [hcc] at hc; exact hc.2.2.1.elim
        | leaf p w => rw [hcc] at hc; exact hc.2.2.1.elim
        | row p c => rw [hcc] at hc; exact hc.2.2.1.elim
    simp only [itemOf, dep, deps]; omega
end Go.Trie
end

section
set_option linter.unusedVariables false
set_option linter.unusedSimpArgs false
namespace Go.Trie
open Go.Vcg
def Small : Nd → Prop
  | .nil => True
  | .leaf p v => p.length ≤ 128 ∧ v.length ≤ 1024
  | .row p c => p.length ≤ 128 ∧ Small c
  | .branch cs v => v.length ≤ 1024 ∧ ∀ i, Small (cs i)
theorem packed_le (p : By) (leaf : Bool) (h : p.length ≤ 128) : (packed p leaf).length ≤ 65 := by
  unfold packed pack
  split
  · simp
  · obtain ⟨n, hn⟩ := headed_even p leaf
    rw [pairs_len n _ hn]
    have : (headed p leaf).length ≤ 2 + p.length := by unfold headed; split <;> simp <;> omega
    omega
theorem ref_le (n : Nd) : (enc (refOf n)).length ≤ 41 := by
  unfold refOf wrapRef
  split
  · have := enc_s_le (sumOf (enc (itemOf n)))
    rw [length_sumOf] at this; omega
  · omega
theorem encs_map_le (cs : Fin 16 → Nd) : ∀ (l : List (Fin 16)), (encs (l.map fun i => wrapRef (itemOf (cs i)))).length ≤ 41 * l.length
  | [] => by simp [encs]
  | i :: r => by
    have h1 := ref_le (cs i)
    have h2 := encs_map_le cs r
    unfold refOf at h1
    simp only [List.map_cons, encs, List.length_append, List.length_cons]; omega
theorem bytes_le {n : Nd} (h : Small n) : (bytesOf n).length ≤ 2000 := by
  cases n with
  | nil => simp only [bytesOf, itemOf]; have := enc_s_le []; simp at this; omega
  | leaf p v =>
    have h1 := packed_le p true h.1
    have h2 := enc_s_le (packed p true)
    have h3 := enc_s_le v
    have h4 := h.2
    simp only [bytesOf, itemOf]
    rw [enc]
    simp only [encs, List.length_append, List.length_nil]
    have := head_le (enc (It.s (packed p true)) ++ (enc (It.s v) ++ [])).length 192
    simp only [List.length_append, List.length_nil] at this
    omega
  | row p c =>
    have h1 := packed_le p false h.1
    have h2 := enc_s_le (packed p false)
    have h3 := ref_le c
    unfold refOf at h3
    simp only [bytesOf, itemOf]
    rw [enc]
    simp only [encs, List.length_append, List.length_nil]
    have := head_le (enc (It.s (packed p false)) ++ (enc (wrapRef (itemOf c)) ++ [])).length 192
    simp only [List.length_append, List.length_nil] at this
    omega
  | branch cs v =>
    have h1 := encs_map_le cs (List.finRange 16)
    rw [List.length_finRange] at h1
    have h2 := enc_s_le v
    have h3 := h.1
    simp only [bytesOf, itemOf]
    rw [enc, Go.Proofs.Ytfghidehlnfdiaa.encs_append]
    simp only [encs, List.length_append, List.length_nil]
    have := head_le (encs ((List.finRange 16).map fun i => wrapRef (itemOf (cs i))) ++ (enc (It.s v) ++ [])).length 192
    simp only [List.length_append, List.length_nil] at this
    omega
mutual
theorem count_le_enc : ∀ (x : It), count x ≤ (enc x).length
  | .s b => by have := enc_pos (.s b); simp only [count]; exact this
  | .l xs => by
    have h1 := counts_le_encs xs
    have h2 := head_pos (encs xs).length 192
    simp only [count, enc, List.length_append]; omega
theorem counts_le_encs : ∀ (xs : List It), counts xs ≤ (encs xs).length
  | [] => by simp [counts]
  | x :: r => by
    have h1 := count_le_enc x
    have h2 := counts_le_encs r
    simp only [counts, encs, List.length_append]; omega
end
theorem dep_ref {n : Nd} (h : Canon n) : dep (refOf n) ≤ 4 := by
  unfold refOf wrapRef
  split
  · simp [dep]
  · have := dep_small h (by simp only [bytesOf]; omega)
    cases n <;> simp only at this <;> omega
theorem dep_item {n : Nd} (h : Canon n) : dep (itemOf n) ≤ 5 := by
  cases n with
  | nil => simp [itemOf, dep]
  | leaf p v => simp [itemOf, dep, deps]
  | row p c =>
    have := dep_ref h.2.2.2
    unfold refOf at this
    simp only [itemOf, dep, deps]; omega
  | branch cs v =>
    have key : ∀ x ∈ ((List.finRange 16).map fun i => wrapRef (itemOf (cs i))) ++ [.s v], dep x ≤ 4 := by
      intro x hx
      rcases List.mem_append.1 hx with hx | hx
      · obtain ⟨i, _, rfl⟩ := List.mem_map.1 hx
        exact dep_ref (h.1 i)
      · simp at hx; subst hx; simp [dep]
    have := deps_le key
    simp only [itemOf, dep]; omega
end Go.Trie
end

section
set_option linter.unusedVariables false
set_option linter.unusedSimpArgs false
namespace Go.Proofs.Ytfghidehlnfdiaa
open Go Go.Vcg Go.Trie
abbrev tNode : TypeId := 145
abbrev tPHashed : TypeId := 149
abbrev tPLeaf : TypeId := 171
abbrev tPRow : TypeId := 152
abbrev tPBranch : TypeId := 155
abbrev tLeaf : TypeId := 177
abbrev tRow : TypeId := 154
abbrev tBranch : TypeId := 158
section
variable {C : Type} {S : C → Prop} {w w' : World} {lab lab' : Nat → C} {c : C}
/-- A branch's cells. -/
def brA (vs : Fin 16 → Value) (o : Option Addr) (l k : Nat) : Array Value := (List.ofFn vs ++ [Value.slice o l k]).toArray
theorem brA_size (vs : Fin 16 → Value) (o : Option Addr) (l k : Nat) : (brA vs o l k).size = 17 := by simp [brA]
theorem brA_at (vs : Fin 16 → Value) (o : Option Addr) (l k : Nat) (i : Fin 16) : (brA vs o l k)[i.val]? = some (vs i) := by
  unfold brA
  rw [List.getElem?_toArray, List.getElem?_append_left (by rw [List.length_ofFn]; exact i.isLt), List.getElem?_ofFn, dif_pos i.isLt]
theorem brA_val (vs : Fin 16 → Value) (o : Option Addr) (l k : Nat) : (brA vs o l k)[16]? = some (.slice o l k) := by
  unfold brA
  rw [List.getElem?_toArray, List.getElem?_append_right (by simp)]
  simp
/-- A node in memory: all its blocks of one colour. -/
def NodeAt (w : World) (lab : Nat → C) (c : C) : Nd → Value → Prop
  | .nil, v => v = .nilIface
  | .leaf p x, v => ∃ b op cp ov cv, v = .iface tPLeaf (.pointer (some ⟨b, 0, none⟩)) ∧ CB w lab c b tLeaf #[.slice op p.length cp, .slice ov x.length cv] ∧ CBy w lab c op p ∧ p.length ≤ cp ∧ CBy w lab c ov x
  | .row p k, v => ∃ b op cp vk, v = .iface tPRow (.pointer (some ⟨b, 0, none⟩)) ∧ CB w lab c b tRow #[.slice op p.length cp, vk] ∧ CBy w lab c op p ∧ p.length ≤ cp ∧ NodeAt w lab c k vk
  | .branch cs x, v => ∃ b vs ov cv, v = .iface tPBranch (.pointer (some ⟨b, 0, none⟩)) ∧ CB w lab c b tBranch (brA vs ov x.length cv) ∧ CBy w lab c ov x ∧ ∀ i, NodeAt w lab c (cs i) (vs i)
theorem NodeAt.stp (s : Stp S w lab w' lab') (hs : ¬ S c) : ∀ {n : Nd} {v : Value}, NodeAt w lab c n v → NodeAt w' lab' c n v
  | .nil, _, h => h
  | .leaf p x, _, h => by
    obtain ⟨b, op, cp, ov, cv, h1, h2, h3, h4, h5⟩ := h
    exact ⟨b, op, cp, ov, cv, h1, h2.stp s hs, h3.stp s hs, h4, h5.stp s hs⟩
  | .row p k, _, h => by
    obtain ⟨b, op, cp, vk, h1, h2, h3, h4, h5⟩ := h
    exact ⟨b, op, cp, vk, h1, h2.stp s hs, h3.stp s hs, h4, NodeAt.stp s hs h5⟩
  | .branch cs x, _, h => by
    obtain ⟨b, vs, ov, cv, h1, h2, h3, h4⟩ := h
    exact ⟨b, vs, ov, cv, h1, h2.stp s hs, h3.stp s hs, fun i => NodeAt.stp s hs (h4 i)⟩
theorem NodeAt.one {n : Nd} {v : Value} (h : NodeAt w lab c n v) : v.oneCell' = true := by
  cases n with
  | nil => cases h; rfl
  | leaf p x => obtain ⟨b, op, cp, ov, cv, rfl, _⟩ := h; rfl
  | row p k => obtain ⟨b, op, cp, vk, rfl, _⟩ := h; rfl
  | branch cs x => obtain ⟨b, vs, ov, cv, rfl, _⟩ := h; rfl
/-- What a type assertion with an ok says of a node. -/
def asksP (n : Nd) (t : TypeId) : Bool := match n with
  | .nil => false
  | .leaf _ _ => t = tPLeaf
  | .row _ _ => t = tPRow
  | .branch _ _ => t = tPBranch
end
end Go.Proofs.Ytfghidehlnfdiaa
end

section
set_option linter.unusedVariables false
set_option linter.unusedSimpArgs false
namespace Go.Proofs.Ytfghidehlnfdiaa
open Go Go.Vcg Go.Trie
theorem und_pleaf : Try.prog.underlying tPLeaf = some (.pointer tLeaf) := by kernel_rfl
theorem und_prow : Try.prog.underlying tPRow = some (.pointer tRow) := by kernel_rfl
theorem und_pbranch : Try.prog.underlying tPBranch = some (.pointer tBranch) := by kernel_rfl
theorem und_phashed : Try.prog.underlying tPHashed = some (.pointer 151) := by kernel_rfl
theorem zero_pleaf (w : World) : (zeroValue tPLeaf).run Try.prog w = .ok (.pointer none) w := by kernel_rfl
theorem zero_prow (w : World) : (zeroValue tPRow).run Try.prog w = .ok (.pointer none) w := by kernel_rfl
theorem zero_pbranch (w : World) : (zeroValue tPBranch).run Try.prog w = .ok (.pointer none) w := by kernel_rfl
theorem zero_phashed (w : World) : (zeroValue tPHashed).run Try.prog w = .ok (.pointer none) w := by kernel_rfl
theorem ask_nil {t e xt : TypeId} (ht : Try.prog.underlying t = some (.pointer e)) (hz : ∀ w, (zeroValue t).run Try.prog w = .ok (.pointer none) w) (w : World) :
    Sem.run Try.prog (Instr.typeAssert .nilIface xt t true) w = .ok (.tuple #[.pointer none, .bool false]) w := by
  unfold Instr.typeAssert
  simp only [Sem.run_bind, run_und ht, Result.andThen_ok, if_true, hz, Sem.run_pure]
theorem ask_yes {t e xt : TypeId} {x : Value} (ht : Try.prog.underlying t = some (.pointer e)) (w : World) :
    Sem.run Try.prog (Instr.typeAssert (.iface t x) xt t true) w = .ok (.tuple #[x, .bool true]) w := by
  unfold Instr.typeAssert
  simp only [Sem.run_bind, run_und ht, Result.andThen_ok, if_true, Sem.run_pure]
theorem ask_no {t e xt u : TypeId} {x : Value} (ht : Try.prog.underlying t = some (.pointer e)) (hz : ∀ w, (zeroValue t).run Try.prog w = .ok (.pointer none) w) (hu : u ≠ t) (w : World) :
    Sem.run Try.prog (Instr.typeAssert (.iface u x) xt t true) w = .ok (.tuple #[.pointer none, .bool false]) w := by
  unfold Instr.typeAssert
  simp only [Sem.run_bind, run_und ht, Result.andThen_ok, if_neg hu, if_true, hz, Sem.run_pure]
end Go.Proofs.Ytfghidehlnfdiaa
end

section
set_option linter.unusedVariables false
set_option linter.unusedSimpArgs false
namespace Go.Proofs.Ytfghidehlnfdiaa
open Go Go.Vcg Go.Trie
section
variable {C : Type} {S : C → Prop} {w w' : World} {lab lab' : Nat → C} {c : C}
theorem seen_calls {n : Nd} {v : Value} (h : NodeAt w lab c n v) (t : Nat) :
    Calls Try.prog trie_Trie_seen.n #[.pointer (some ⟨t, 0, none⟩), v] w (fun e w' => e = .returned (.tuple #[v, .int .i64 0]) ∧ w' = w) := by
  refine trie_Trie_seen.vc _ _ _ _ ?_
  unfold trie_Trie_seen.Vc
  cases n with
  | nil =>
    cases h
    exact ⟨_, ask_nil und_phashed zero_phashed w, _, _, rfl, fun _ => ⟨rfl, rfl⟩, fun h => by cases h⟩
  | leaf p x =>
    obtain ⟨b, op, cp, ov, cv, rfl, _⟩ := h
    exact ⟨_, ask_no und_phashed zero_phashed (by decide) w, _, _, rfl, fun _ => ⟨rfl, rfl⟩, fun h => by cases h⟩
  | row p k =>
    obtain ⟨b, op, cp, vk, rfl, _⟩ := h
    exact ⟨_, ask_no und_phashed zero_phashed (by decide) w, _, _, rfl, fun _ => ⟨rfl, rfl⟩, fun h => by cases h⟩
  | branch cs x =>
    obtain ⟨b, vs, ov, cv, rfl, _⟩ := h
    exact ⟨_, ask_no und_phashed zero_phashed (by decide) w, _, _, rfl, fun _ => ⟨rfl, rfl⟩, fun h => by cases h⟩
def updV (vs : Fin 16 → Value) (a : Nat) (v : Value) : Fin 16 → Value := fun i => if i.val = a then v else vs i
theorem brA_set (vs : Fin 16 → Value) (o : Option Addr) (l k a : Nat) (ha : a < 16) (v : Value) : (brA vs o l k).setIfInBounds a v = brA (updV vs a v) o l k := by
  apply Array.ext_getElem?
  intro i
  rw [Array.getElem?_setIfInBounds, brA_size]
  by_cases hi : i < 16
  · rw [brA_at (updV vs a v) o l k ⟨i, hi⟩, brA_at vs o l k ⟨i, hi⟩]
    unfold updV
    by_cases hai : a = i
    · subst hai; rw [if_pos rfl, if_pos (by omega), if_pos rfl]
    · rw [if_neg hai, if_neg (fun e => hai e.symm)]
  · by_cases h16 : i = 16
    · subst h16
      rw [if_neg (by omega), brA_val, brA_val]
    · rw [if_neg (by omega), Array.getElem?_eq_none (by rw [brA_size]; omega), Array.getElem?_eq_none (by rw [brA_size]; omega)]
theorem brA_setv (vs : Fin 16 → Value) (o o' : Option Addr) (l k l' k' : Nat) : (brA vs o l k).setIfInBounds 16 (.slice o' l' k') = brA vs o' l' k' := by
  apply Array.ext_getElem?
  intro i
  rw [Array.getElem?_setIfInBounds, brA_size]
  by_cases hi : i < 16
  · rw [if_neg (by omega), brA_at vs o l k ⟨i, hi⟩, brA_at vs o' l' k' ⟨i, hi⟩]
  · by_cases h16 : i = 16
    · subst h16
      rw [if_pos rfl, if_pos (by omega), brA_val]
    · rw [if_neg (by omega), Array.getElem?_eq_none (by rw [brA_size]; omega), Array.getElem?_eq_none (by rw [brA_size]; omega)]
/-- A leaf, or a value, laid into a branch that is being made. -/
theorem lay_calls {D : Nat} {vs : Fin 16 → Value} {ov : Option Addr} {lv kv : Nat} {o ox : Option Addr} {k kx lx : Nat} {p : By} (B : Blk w D tBranch (brA vs ov lv kv)) (hp : RdB w o p) (hn : Nib p) :
    Calls Try.prog trie_branch_lay.n #[.pointer (some ⟨D, 0, none⟩), .slice o p.length k, .slice ox lx kx] w (fun e w' => e = .returned (.tuple #[]) ∧ Vcg.Mod (· = D) w w' ∧
      (p = [] → Blk w' D tBranch (brA vs ox lx kx)) ∧ ∀ a r, p = a :: r → ∃ b, w.heap.size ≤ b ∧ Blk w' b tLeaf #[.slice (subO o k 1 1) r.length (k - 1), .slice ox lx kx] ∧ Blk w' D tBranch (brA (updV vs a.toNat (.iface tPLeaf (.pointer (some ⟨b, 0, none⟩)))) ov lv kv)) := by
  refine calls_gen fun R hR => trie_branch_lay.vc _ _ _ _ _ _ _ _ _ ?_
  unfold trie_branch_lay.Vc
  simp only [add_at, Nat.zero_add]
  refine ⟨fun h0 => ?_, fun h0 => ?_⟩
  · have hp0 : p = [] := List.eq_nil_of_length_eq_zero (by omega)
    subst hp0
    refine ⟨B.canSet (by rw [brA_size]; omega) rfl, ?_⟩
    rintro _ rfl
    have B1 := B.set 16 (.slice ox lx kx)
    rw [brA_setv] at B1
    exact hR _ _ ⟨rfl, Mod.setCell w ⟨D, 16, none⟩ _, fun _ => B1, fun a r h => by cases h⟩
  · rintro _ rfl
    cases p with
    | nil => simp at h0
    | cons a r =>
      have ha : a.toNat < 16 := hn a (by simp)
      have MD := Mod.drew (S := NoB) w
      obtain ⟨b, f, rfl, hb, hc⟩ := rdb_get (hp.mod' MD) (i := 0) (by simp)
      have B1 := B.mod' MD
      generalize hw : w.drew = w1 at *
      have hsz : w1.heap.size = w.heap.size := by rw [← hw]; rfl
      refine ⟨_, rfl, by simp, _, by rw [add_at]; exact hc, by simp, ?_⟩
      rintro d w2 ⟨rfl, rfl⟩
      have L := Blk.new w1 177 #[.slice (subO (some ⟨b, f, none⟩) k 1 1) ((a :: r).length - 1) (k - 1), .slice ox lx kx]
      have M2 := Mod.alloc (S := NoB) w1 (.cells #[.slice (subO (some ⟨b, f, none⟩) k 1 1) ((a :: r).length - 1) (k - 1), .slice ox lx kx] 177)
      have B2 := B1.mod' M2
      have hne : w1.heap.size ≠ D := by have := B1.lt; omega
      simp only [List.getElem_cons_zero] at hc
      refine ⟨by rw [add_at]; exact (cell_mod M2 hb (fun h => h)).trans hc, by simp only [List.getElem_cons_zero]; omega, ?_⟩
      simp only [List.getElem_cons_zero, Int.toNat_natCast]
      refine ⟨B2.canSet (by rw [brA_size]; omega) rfl, ?_⟩
      rintro _ rfl
      have B3 := B2.set a.toNat (.iface tPLeaf (.pointer (some ⟨w1.heap.size, 0, none⟩)))
      rw [brA_set _ _ _ _ _ ha] at B3
      refine hR _ _ ⟨rfl, ((MD.mono (fun _ _ h => h.elim)).trans (M2.mono (fun _ _ h => h.elim)) (fun _ _ h => h)).trans (Mod.setCell _ ⟨D, a.toNat, none⟩ _) (fun _ _ h => h), (fun h => by cases h), ?_⟩
      rintro a' r' h
      cases h
      exact ⟨w1.heap.size, by omega, L.set_ne (a := ⟨D, a.toNat, none⟩) hne, B3⟩
end
end Go.Proofs.Ytfghidehlnfdiaa
end

section
set_option linter.unusedVariables false
set_option linter.unusedSimpArgs false
namespace Go.Proofs.Ytfghidehlnfdiaa
open Go Go.Vcg Go.Trie
section
variable {C : Type} {S : C → Prop} {w w1 w' : World} {lab lab' : Nat → C} {c : C}
theorem fresh_cby {o : Option Addr} {l k : Nat} {bs : List UInt8} (F : Fresh w w1 tU8 1 o l k (bs.map bV)) (M : Vcg.Mod NoB w1 w') : CBy w' (ext lab w.heap.size c) c o bs :=
  ⟨F.own.bytes.mod' M, fun hne d hd => ext_new (F.new d.block ⟨d, hd, rfl⟩)⟩
theorem new_cb (M : Vcg.Mod NoB w w1) (t : TypeId) (cs : Array Value) : CB (w1.alloc (.cells cs t)) (ext lab w.heap.size c) c w1.heap.size t cs := ⟨Blk.new w1 t cs, ext_new M.size⟩
abbrev NoS {C : Type} : C → Prop := fun _ => False
/-- A path's length. -/
def plen : Nd → Nat
  | .leaf p _ => p.length
  | .row p _ => p.length
  | _ => 0
theorem plen_small {n : Nd} (h : Small n) : plen n ≤ 128 := by
  cases n with
  | nil => simp [plen]
  | leaf p v => exact h.1
  | row p k => exact h.1
  | branch cs v => simp [plen]
theorem rowed_calls {n : Nd} {v : Value} {o : Option Addr} {k : Nat} {p : By} (h : NodeAt w lab c n v) (hs : plen n ≤ 128) (hp : CBy w lab c o p) (hk : p.length ≤ k) (hl : p.length ≤ 2 ^ 30) :
    Calls Try.prog trie_rowed.n #[.slice o p.length k, v] w (fun e w' => ∃ v' lab', e = .returned v' ∧ Stp NoS w lab w' lab' ∧ NodeAt w' lab' c (rowed p n) v') := by
  refine calls_gen fun R hR => trie_rowed.vc _ _ _ _ _ _ ?_
  unfold trie_rowed.Vc
  refine ⟨fun h0 => ?_, fun h0 => ?_⟩
  · have hp0 : p = [] := List.eq_nil_of_length_eq_zero (by omega)
    subst hp0
    exact hR _ _ ⟨v, lab, rfl, Stp.refl _ _ _, by unfold rowed; rw [if_pos rfl]; exact h⟩
  have hpne : p ≠ [] := by rintro rfl; simp at h0
  have mkrow : v.oneCell' = true → (∀ v', NodeAt w lab c n v → rowed p n = .row p n) → R (.returned (.iface tPRow (.pointer (some ⟨w.heap.size, 0, none⟩)))) (w.alloc (.cells #[.slice o p.length k, v] tRow)) := fun _ hrow => by
    have M := Mod.alloc (S := NoB) w (.cells #[.slice o p.length k, v] tRow)
    have s : Stp NoS w lab (w.alloc (.cells #[.slice o p.length k, v] tRow)) (ext lab w.heap.size c) := Stp.of_nob M _
    refine hR _ _ ⟨_, _, rfl, s, ?_⟩
    rw [hrow v h]
    exact ⟨_, o, k, v, rfl, new_cb (Mod.refl w) _ _, hp.stp s (fun h => h), hk, h.stp s (fun h => h)⟩
  have hone := h.one
  cases n with
  | nil =>
    have h' := h
    cases h'
    refine ⟨_, ask_nil und_pleaf zero_pleaf w, _, _, rfl, fun h => (by cases h), fun _ => ⟨_, ask_nil und_prow zero_prow w, _, _, rfl, fun h => (by cases h), fun _ => ⟨hone, ?_⟩⟩⟩
    rintro d w2 ⟨rfl, rfl⟩
    exact mkrow hone (fun _ _ => by unfold rowed; rw [if_neg hpne])
  | branch cs x =>
    have h' := h
    obtain ⟨b, vs, ov, cv, rfl, _⟩ := h'
    refine ⟨_, ask_no und_pleaf zero_pleaf (by decide) w, _, _, rfl, fun h => (by cases h), fun _ => ⟨_, ask_no und_prow zero_prow (by decide) w, _, _, rfl, fun h => (by cases h), fun _ => ⟨hone, ?_⟩⟩⟩
    rintro d w2 ⟨rfl, rfl⟩
    exact mkrow hone (fun _ _ => by unfold rowed; rw [if_neg hpne])
  | leaf q x =>
    obtain ⟨b, oq, cq, ox, cx, rfl, B, hq, hqc, hx⟩ := h
    refine ⟨_, ask_yes und_pleaf w, _, _, rfl, fun _ => ?_, fun h => by cases h⟩
    rintro _ rfl
    have MD := Mod.drew (S := NoB) w
    have B1 := B.blk.mod' MD
    have hp1 := hp.rd.mod' MD
    have hq1 := hq.rd.mod' MD
    have hx1 := hx.rd.mod' MD
    generalize w.drew = w1 at *
    simp only [Option.some.injEq, exists_eq_left', add_at, Nat.zero_add]
    refine ⟨_, _, _, B1.rd1 rfl, _, _, _, B1.rd1 rfl, ?_⟩
    refine (Clone_calls hp1 (by omega)).mono ?_
    rintro _ w2 ⟨o2, k2, rfl, F2⟩
    have B2 := B1.mod' F2.mod
    have hsm : q.length ≤ 128 := hs
    obtain ⟨o3, k3, w3, hr3, F3⟩ := push_bytes (ty := tSlU8) (k2 := cq) F2 (hq1.mod' F2.mod) (by omega)
    have M3 := MD.trans F3.mod (fun _ _ h => h)
    have B3 : Blk w3 b tLeaf #[.slice oq q.length cq, .slice ox x.length cx] := B1.mod' F3.mod
    refine ⟨_, _, _, rfl, B2.rd1 rfl, B2.rd1 rfl, _, w3, hr3, _, _, _, rfl, B3.rd1 rfl, ?_⟩
    rintro d w4 ⟨rfl, rfl⟩
    have M4 := M3.step_alloc (.cells #[.slice o3 (p.length + q.length) k3, .slice ox x.length cx] 177)
    have s : Stp NoS w lab (w3.alloc (.cells #[.slice o3 (p.length + q.length) k3, .slice ox x.length cx] 177)) (ext lab w.heap.size c) := Stp.of_nob M4 _
    refine hR _ _ ⟨_, _, rfl, s, ?_⟩
    have hrw : rowed p (.leaf q x) = .leaf (p ++ q) x := by unfold rowed; rw [if_neg hpne]
    rw [hrw]
    have hcap := F3.own.cap.1
    refine ⟨w3.heap.size, o3, k3, ox, cx, rfl, ?_, fresh_cby (Fresh.from_ F3 MD) (Mod.alloc _ _), by rw [List.length_append]; exact hcap, hx.stp s (fun h => h)⟩
    rw [List.length_append]
    exact new_cb M3 _ _
  | row q kid =>
    obtain ⟨b, oq, cq, vk, rfl, B, hq, hqc, hkid⟩ := h
    have honek := hkid.one
    refine ⟨_, ask_no und_pleaf zero_pleaf (by decide) w, _, _, rfl, fun h => (by cases h), fun _ => ⟨_, ask_yes und_prow w, _, _, rfl, fun _ => ?_, fun h => by cases h⟩⟩
    rintro _ rfl
    have MD := Mod.drew (S := NoB) w
    have B1 := B.blk.mod' MD
    have hp1 := hp.rd.mod' MD
    have hq1 := hq.rd.mod' MD
    generalize w.drew = w1 at *
    simp only [Option.some.injEq, exists_eq_left', add_at, Nat.zero_add]
    refine ⟨_, _, _, B1.rd1 rfl, _, B1.rd1 rfl, ?_⟩
    refine (Clone_calls hp1 (by omega)).mono ?_
    rintro _ w2 ⟨o2, k2, rfl, F2⟩
    have B2 := B1.mod' F2.mod
    have hsm : q.length ≤ 128 := hs
    obtain ⟨o3, k3, w3, hr3, F3⟩ := push_bytes (ty := tSlU8) (k2 := cq) F2 (hq1.mod' F2.mod) (by omega)
    have M3 := MD.trans F3.mod (fun _ _ h => h)
    have B3 : Blk w3 b tRow #[.slice oq q.length cq, vk] := B1.mod' F3.mod
    refine ⟨_, _, _, rfl, B2.rd1 rfl, B2.rd1 rfl, _, w3, hr3, _, _, _, rfl, B3.rd1 rfl, honek, ?_⟩
    rintro d w4 ⟨rfl, rfl⟩
    have M4 := M3.step_alloc (.cells #[.slice o3 (p.length + q.length) k3, vk] 154)
    have s : Stp NoS w lab (w3.alloc (.cells #[.slice o3 (p.length + q.length) k3, vk] 154)) (ext lab w.heap.size c) := Stp.of_nob M4 _
    refine hR _ _ ⟨_, _, rfl, s, ?_⟩
    have hrw : rowed p (.row q kid) = .row (p ++ q) kid := by unfold rowed; rw [if_neg hpne]
    rw [hrw]
    have hcap := F3.own.cap.1
    refine ⟨w3.heap.size, o3, k3, vk, rfl, ?_, fresh_cby (Fresh.from_ F3 MD) (Mod.alloc _ _), by rw [List.length_append]; exact hcap, hkid.stp s (fun h => h)⟩
    rw [List.length_append]
    exact new_cb M3 _ _
end
end Go.Proofs.Ytfghidehlnfdiaa
end

section
set_option linter.unusedVariables false
set_option linter.unusedSimpArgs false
namespace Go.Proofs.Ytfghidehlnfdiaa
open Go Go.Vcg Go.Trie
/-- The blocks made from one world to another. -/
def Btw (w0 w : World) (b : Nat) : Prop := w0.heap.size ≤ b ∧ b < w.heap.size
section
variable {C : Type} {S : C → Prop} {w0 w w1 w' : World} {lab lab' : Nat → C} {c : C}
theorem off_old {w2 : World} {o : Option Addr} {b : By} (h : RdB w0 o b) : b ≠ [] → ∀ d, o = some d → ¬ Btw w0 w2 d.block := by
  intro hne d hd hh
  obtain ⟨e, f, ho, he, _⟩ := h hne
  rw [ho] at hd
  cases hd
  exact absurd hh.1 (Nat.not_le.2 he)
theorem off_new {w2 w3 : World} {ty : TypeId} {s : Nat} {o : Option Addr} {l k : Nat} {vs : List Value} (F : Fresh w2 w3 ty s o l k vs) {w1 : World} (h : w1.heap.size ≤ w2.heap.size) : ∀ d, o = some d → ¬ Btw w0 w1 d.block := by
  intro d hd hh
  have := F.new d.block ⟨d, hd, rfl⟩
  exact absurd hh.2 (by omega)
/-- An item handed over by way of the function's own three cells. -/
theorem ret3 {A A' : Nat → Prop} {N : Nat} {x : It} {v1 v2 v3 a b d : Value} {R : Ending → World → Prop} (X : Blk w N 138 #[a, b, d]) (hI : ItC A w x v1 v2 v3) (hN : A N) (hA : ∀ b, A' b → A b)
    (hR : ∀ w', Vcg.Mod (· = N) w w' → ItC A' w' x v1 v2 v3 → R (.returned (.agg #[v1, v2, v3])) w') :
    CanSet w ⟨N, 0, none⟩ v1 ∧ ∀ w1 : World, IsSet w ⟨N, 0, none⟩ v1 w1 → CanSet w1 ⟨N, 1, none⟩ v2 ∧ ∀ w2 : World, IsSet w1 ⟨N, 1, none⟩ v2 w2 → CanSet w2 ⟨N, 2, none⟩ v3 ∧ ∀ w3 : World, IsSet w2 ⟨N, 2, none⟩ v3 w3 →
      ∃ b6 : Bool, ∃ o7 : Option Addr, ∃ l8 : Nat, ∃ l9 : Nat, ∃ o10 : Option Addr, ∃ l11 : Nat, ∃ l12 : Nat, World.cell? w3 ⟨N, 0, none⟩ = some (.bool b6) ∧ World.cell? w3 ⟨N, 1, none⟩ = some (.slice o7 l8 l9) ∧ World.cell? w3 ⟨N, 2, none⟩ = some (.slice o10 l11 l12) ∧
      R (.returned (.agg #[(.bool b6), (.slice o7 l8 l9), (.slice o10 l11 l12)])) w3 := by
  obtain ⟨b7, p7, q7, r7, p8, q8, r8, rfl, rfl, rfl⟩ := hI.vals
  refine ⟨X.canSet (by simp) rfl, ?_⟩
  rintro _ rfl
  have X7 := X.set 0 (.bool b7)
  have Q7 : Vcg.Mod (· = N) w _ := Mod.setCell w ⟨N, 0, none⟩ (.bool b7)
  refine ⟨X7.canSet (by simp) rfl, ?_⟩
  rintro _ rfl
  have X8 := X7.set 1 (.slice p7 q7 r7)
  have Q8 := Q7.step_set (a := ⟨N, 1, none⟩) (v := .slice p7 q7 r7) (fun _ => rfl)
  refine ⟨X8.canSet (by simp) rfl, ?_⟩
  rintro _ rfl
  have X9 := X8.set 2 (.slice p8 q8 r8)
  have Q9 := Q8.step_set (a := ⟨N, 2, none⟩) (v := .slice p8 q8 r8) (fun _ => rfl)
  exact ⟨_, _, _, _, _, _, _, X9.rd1 rfl, X9.rd1 rfl, X9.rd1 rfl, hR _ Q9 (ItC.mono hA x (ItC.modA Q9 (fun b h => by subst h; exact hN) x hI))⟩
theorem packed_calls {o : Option Addr} {k : Nat} {p : By} (hp : RdB w o p) (hl : p.length ≤ 2 ^ 30) (leaf : Bool) :
    Calls Try.prog trie_packed.n #[.slice o p.length k, .bool leaf] w (fun e w' => ∃ o' k', e = .returned (.slice o' (packed p leaf).length k') ∧ Fresh w w' tU8 1 o' (packed p leaf).length k' ((packed p leaf).map bV)) := by
  refine trie_packed.vc _ _ _ _ _ _ ?_
  unfold trie_packed.Vc
  refine (Pack_calls hp hl leaf).mono ?_
  rintro _ w1 ⟨o', k', rfl, F⟩
  exact ⟨_, _, _, _, rfl, o', k', rfl, F⟩
theorem leaf_item_calls {b : Nat} {op : Option Addr} {cp : Nat} {ov : Option Addr} {cv : Nat} {p x : By} (B : Blk w0 b tLeaf #[.slice op p.length cp, .slice ov x.length cv]) (hp : RdB w0 op p) (hx : RdB w0 ov x) (hl : p.length ≤ 2 ^ 30) (M0 : Vcg.Mod NoB w0 w) :
    Calls Try.prog trie_leaf_item.n #[.pointer (some ⟨b, 0, none⟩)] w (fun e w' => ∃ v1 v2 v3, e = .returned (.agg #[v1, v2, v3]) ∧ ItC (Btw w0 w) w' (itemOf (.leaf p x)) v1 v2 v3 ∧ Vcg.Mod NoB w w') := by
  refine calls_gen fun R hR => trie_leaf_item.vc _ _ _ ?_
  unfold trie_leaf_item.Vc
  rintro d1 w1 ⟨rfl, rfl⟩
  rintro _ rfl
  have X := (Blk.new w 138 #[.bool false, .slice none 0 0, .slice none 0 0]).mod' (Mod.drew (S := NoB) _)
  have M1 := (Mod.alloc (S := NoB) w (.cells #[.bool false, .slice none 0 0, .slice none 0 0] 138)).step_drew
  have hN : w.heap.size < (w.alloc (.cells #[.bool false, .slice none 0 0, .slice none 0 0] 138)).drew.heap.size := X.lt
  generalize (w.alloc (.cells #[.bool false, .slice none 0 0, .slice none 0 0] 138)).drew = w1 at *
  have M01 := M0.trans M1 (fun _ _ h => h)
  have B1 := B.mod' M01
  simp only [add_at, Nat.zero_add]
  refine ⟨_, _, _, B1.rd1 rfl, _, _, _, B1.rd1 rfl, ?_⟩
  refine (packed_calls (hp.mod' M01) hl true).mono ?_
  rintro _ w2 ⟨o2, k2, rfl, F2⟩
  have M2 := F2.mod
  have B2 := B1.mod' M2
  have M02 := M01.trans M2 (fun _ _ h => h)
  refine ⟨_, _, _, rfl, B2.rd1 rfl, ?_⟩
  refine (text_calls (A := Btw w0 w1) (fresh_bytes F2) (fun _ => off_new F2 (Nat.le_refl _))).mono ?_
  rintro _ w3 ⟨v1, v2, v3, rfl, hI3, M3⟩
  have M03 := M02.trans M3 (fun _ _ h => h)
  obtain ⟨b1, p1, q1, r1, p2, q2, r2, rfl, rfl, rfl⟩ := hI3.vals
  refine ⟨_, _, _, _, _, _, _, rfl, (B2.mod' M3).rd1 rfl, ?_⟩
  refine (text_calls (A := Btw w0 w1) (hx.mod' M03) (off_old hx)).mono ?_
  rintro _ w4 ⟨v4, v5, v6, rfl, hI4, M4⟩
  have M14 : Vcg.Mod NoB w1 w4 := (M2.trans M3 (fun _ _ h => h)).trans M4 (fun _ _ h => h)
  obtain ⟨b4, p4, q4, r4, p5, q5, r5, rfl, rfl, rfl⟩ := hI4.vals
  refine ⟨_, _, _, _, _, _, _, rfl, ?_⟩
  rintro d33 w5 ⟨rfl, rfl⟩
  have Y := Blk.new w4 138 #[.bool b1, .slice p1 q1 r1, .slice p2 q2 r2, .bool b4, .slice p4 q4 r4, .slice p5 q5 r5]
  have M5 := Mod.alloc (S := NoB) w4 (.cells #[.bool b1, .slice p1 q1 r1, .slice p2 q2 r2, .bool b4, .slice p4 q4 r4, .slice p5 q5 r5] 138)
  have hI3' := ItC.mod (M4.trans M5 (fun _ _ h => h)) _ hI3
  have hI4' := ItC.mod M5 _ hI4
  have hY : ¬ Btw w0 w1 w4.heap.size := fun h => absurd h.2 (by have := M14.size; omega)
  have hIts : ItsC (Btw w0 w1) (w4.alloc (.cells #[.bool b1, .slice p1 q1 r1, .slice p2 q2 r2, .bool b4, .slice p4 q4 r4, .slice p5 q5 r5] 138)) [.s (packed p true), .s x] (some ⟨w4.heap.size, 0, none⟩) 0 := by
    simp only [ItsC]
    exact ⟨⟨_, 0, _, _, _, rfl, Y.lt, hY, Y.rd1 rfl, Y.rd1 rfl, Y.rd1 rfl, hI3'⟩, ⟨_, 0, _, _, _, rfl, Y.lt, hY, Y.rd1 rfl, Y.rd1 rfl, Y.rd1 rfl, hI4'⟩, trivial⟩
  refine (list_calls hIts).mono ?_
  rintro _ w6 ⟨v7, v8, v9, rfl, hI6, M6⟩
  have M16 : Vcg.Mod NoB w1 w6 := M14.trans (M5.trans M6 (fun _ _ h => h)) (fun _ _ h => h)
  have X6 := X.mod' M16
  have hret := ret3 (A' := Btw w0 w) (R := R) X6 hI6 ⟨M0.size, hN⟩ (fun b h => ⟨h.1, Nat.lt_trans h.2 hN⟩) (fun w7 Q hI7 => hR _ _ ⟨_, _, _, rfl, hI7, mod_of (M1.trans M16 (fun _ _ h => h)) Q (Nat.le_refl _)⟩)
  obtain ⟨b7, p7, q7, r7, p8, q8, r8, rfl, rfl, rfl⟩ := hI6.vals
  exact ⟨_, _, _, _, _, _, _, rfl, hret⟩
end
end Go.Proofs.Ytfghidehlnfdiaa
end

section
set_option linter.unusedVariables false
set_option linter.unusedSimpArgs false
namespace Go.Proofs.Ytfghidehlnfdiaa
open Go Go.Vcg Go.Trie
section
variable {C : Type} {S : C → Prop} {w0 w w1 w' : World} {lab lab' : Nat → C} {c : C}
/-- What a node's method 'item' is to do. -/
def ItemAt (lab : Nat → C) (c : C) (n : Nd) : Prop := ∀ (w0 w : World) (v : Value), NodeAt w0 lab c n v → Vcg.Mod NoB w0 w → v ≠ .nilIface →
  CallsM Try.prog v "moraine/trie.item" #[] w (fun e w' => ∃ v1 v2 v3, e = .returned (.agg #[v1, v2, v3]) ∧ ItC (Btw w0 w) w' (itemOf n) v1 v2 v3 ∧ Vcg.Mod NoB w w')
def RefAt (lab : Nat → C) (c : C) (n : Nd) : Prop := ∀ (w0 w : World) (v : Value), NodeAt w0 lab c n v → Vcg.Mod NoB w0 w →
  Calls Try.prog trie_reference.n #[v] w (fun e w' => ∃ v1 v2 v3, e = .returned (.agg #[v1, v2, v3]) ∧ ItC (Btw w0 w) w' (refOf n) v1 v2 v3 ∧ Vcg.Mod NoB w w')
theorem callsM_mono {P : Program} {v : Value} {m : String} {args : Array Value} {w : World} {R R' : Ending → World → Prop} (h : CallsM P v m args w R) (hR : ∀ e w', R e w' → R' e w') : CallsM P v m args w R' := by
  obtain ⟨t, x, f, recv, h1, h2, h3, h4⟩ := h
  exact ⟨t, x, f, recv, h1, h2, h3, h4.mono hR⟩
theorem encoded_of {n : Nd} (hI : ItemAt lab c n) (hc : Canon n) (hs : Small n) {v : Value} (h : NodeAt w0 lab c n v) (M : Vcg.Mod NoB w0 w) (hv : v ≠ .nilIface) :
    Calls Try.prog trie_encoded.n #[v] w (fun e w' => ∃ o k, e = .returned (.slice o (bytesOf n).length k) ∧ Fresh w w' tU8 1 o (bytesOf n).length k ((bytesOf n).map bV)) := by
  refine trie_encoded.vc _ _ _ ?_
  unfold trie_encoded.Vc
  refine callsM_mono (hI w0 w v h M hv) ?_
  rintro _ w1 ⟨v1, v2, v3, rfl, hI1, M1⟩
  have h1 := bytes_le hs
  have h2 := count_le_enc (itemOf n)
  have h3 := dep_item hc
  have hE := Encode_calls hI1 (by omega) (by simp only [bytesOf] at h1; omega) (by simp only [bytesOf] at h1; omega)
  obtain ⟨b4, p4, q4, r4, p5, q5, r5, rfl, rfl, rfl⟩ := hI1.vals
  refine ⟨_, _, _, _, _, _, _, rfl, hE.mono ?_⟩
  rintro _ w2 ⟨o, k, rfl, F⟩
  exact ⟨_, _, _, _, rfl, o, k, rfl, Fresh.from_ F M1⟩
theorem reference_of {n : Nd} (hI : n ≠ .nil → ItemAt lab c n) (hc : Canon n) (hs : Small n) : RefAt lab c n := by
  intro w0 w v h M0
  refine calls_gen fun R hR => trie_reference.vc _ _ _ ?_
  unfold trie_reference.Vc
  rintro d1 w1 ⟨rfl, rfl⟩
  have X := Blk.new w 138 #[.bool false, .slice none 0 0, .slice none 0 0]
  have M1 := Mod.alloc (S := NoB) w (.cells #[.bool false, .slice none 0 0, .slice none 0 0] 138)
  have hN : w.heap.size < (w.alloc (.cells #[.bool false, .slice none 0 0, .slice none 0 0] 138)).heap.size := X.lt
  generalize w.alloc (.cells #[.bool false, .slice none 0 0, .slice none 0 0] 138) = w1 at *
  have M01 := M0.trans M1 (fun _ _ h => h)
  simp only [add_at, Nat.zero_add]
  have fin : ∀ {w6 : World} {x : It} {v1 v2 v3 : Value}, x = refOf n → Vcg.Mod NoB w1 w6 → ItC (Btw w0 w1) w6 x v1 v2 v3 → CanSet w6 ⟨w.heap.size, 0, none⟩ v1 ∧ ∀ w2 : World, IsSet w6 ⟨w.heap.size, 0, none⟩ v1 w2 → CanSet w2 ⟨w.heap.size, 1, none⟩ v2 ∧ ∀ w3 : World, IsSet w2 ⟨w.heap.size, 1, none⟩ v2 w3 → CanSet w3 ⟨w.heap.size, 2, none⟩ v3 ∧ ∀ w4 : World, IsSet w3 ⟨w.heap.size, 2, none⟩ v3 w4 →
      ∃ b6 : Bool, ∃ o7 : Option Addr, ∃ l8 : Nat, ∃ l9 : Nat, ∃ o10 : Option Addr, ∃ l11 : Nat, ∃ l12 : Nat, World.cell? w4 ⟨w.heap.size, 0, none⟩ = some (.bool b6) ∧ World.cell? w4 ⟨w.heap.size, 1, none⟩ = some (.slice o7 l8 l9) ∧ World.cell? w4 ⟨w.heap.size, 2, none⟩ = some (.slice o10 l11 l12) ∧
      R (.returned (.agg #[(.bool b6), (.slice o7 l8 l9), (.slice o10 l11 l12)])) w4 := by
    intro w6 x v1 v2 v3 hx M6 hI6
    subst hx
    exact ret3 (A' := Btw w0 w) (R := R) (X.mod' M6) hI6 ⟨M0.size, hN⟩ (fun b h => ⟨h.1, Nat.lt_trans h.2 hN⟩) (fun w7 Q hI7 => hR _ _ ⟨_, _, _, rfl, hI7, mod_of (M1.trans M6 (fun _ _ h => h)) Q (Nat.le_refl _)⟩)
  by_cases hnil : n = .nil
  · subst hnil
    cases h
    left
    refine ⟨rfl, fin (x := .s []) (by unfold refOf wrapRef; rw [if_neg (by simp [itemOf, enc, own, Trie.head])]; rfl) (Mod.refl _) ?_⟩
    simp only [ItC]
    exact ⟨trivial, ⟨none, 0, rfl, RdB.nil _ _, fun h => (h rfl).elim⟩, trivial⟩
  · right
    have hI := hI hnil
    have hv : v ≠ .nilIface ∧ IsIface v ∧ ∃ r, Sem.run Try.prog (Instr.typeAssert v 145 149 true) w1 = .ok r w1 ∧ ∃ o, r = .tuple #[.pointer o, .bool false] := by
      cases n with
      | nil => exact (hnil rfl).elim
      | leaf p x =>
        obtain ⟨b, op, cp, ov, cv, rfl, _⟩ := h
        exact ⟨by simp, ⟨_, _, rfl⟩, _, ask_no und_phashed zero_phashed (by decide) w1, _, rfl⟩
      | row p k =>
        obtain ⟨b, op, cp, vk, rfl, _⟩ := h
        exact ⟨by simp, ⟨_, _, rfl⟩, _, ask_no und_phashed zero_phashed (by decide) w1, _, rfl⟩
      | branch cs x =>
        obtain ⟨b, vs, ov, cv, rfl, _⟩ := h
        exact ⟨by simp, ⟨_, _, rfl⟩, _, ask_no und_phashed zero_phashed (by decide) w1, _, rfl⟩
    obtain ⟨hv, hif, r, hr, o, rfl⟩ := hv
    refine ⟨hif, _, hr, _, _, rfl, fun h => (by cases h), fun _ => ?_⟩
    refine (encoded_of hI hc hs h M01 hv).mono ?_
    rintro _ w2 ⟨o2, k2, rfl, F2⟩
    have hbl := bytes_le hs
    refine ⟨_, _, _, rfl, fun h32 => ?_, fun h32 => ?_⟩
    · rintro d40 w3 ⟨rfl, rfl⟩
      have L := Blk.new w2 22 #[.slice o2 (bytesOf n).length k2]
      have M3 := Mod.alloc (S := NoB) w2 (.cells #[.slice o2 (bytesOf n).length k2] 22)
      refine (Sum_calls [bytesOf n] rfl (by simp) (RdBB.one L ((fresh_bytes F2).mod' M3)) (by simp; omega)).mono ?_
      rintro _ w4 ⟨rfl, M4⟩
      refine ⟨_, rfl, ?_⟩
      rintro d45 w5 ⟨rfl, rfl⟩
      have H := Blk.new w4 26 (Array.replicate 32 (.int .u8 0))
      have M14 : Vcg.Mod NoB w1 w4 := (F2.mod.trans M3 (fun _ _ h => h)).trans M4 (fun _ _ h => h)
      have M15 := M14.step_alloc (.cells (Array.replicate 32 (.int .u8 0)) 26)
      refine ⟨_, H.storeAll (L := hashA (sumOf [bytesOf n].flatten)) (by rw [size_hashA]; kernel_rfl) (by rw [size_hashA, Array.size_replicate]) (hashA_one _), ?_⟩
      have H2 := H.row_same (hashA (sumOf [bytesOf n].flatten))
      have M16 := M15.step_row (g := w4.heap.size) (cs := hashA (sumOf [bytesOf n].flatten)) (fun h => by have := M14.size; omega)
      have hrd : RdB _ (some ⟨w4.heap.size, 0, none⟩) (sumOf (bytesOf n)) := RdB.of_blk H2 (fun i hi => by
        rw [length_sumOf] at hi
        simp only [List.flatten_cons, List.flatten_nil, List.append_nil, Nat.zero_add, hashA]
        exact get_arrOf_lt hi)
      have hl32 : (sumOf (bytesOf n)).length = 32 := length_sumOf _
      have htx := text_calls (A := Btw w0 w1) (k := 32) hrd (fun _ d hd hh => by cases hd; exact absurd hh.2 (by have := M14.size; dsimp only; omega))
      rw [hl32] at htx
      refine htx.mono ?_
      rintro _ w7 ⟨v1, v2, v3, rfl, hI7, M7⟩
      have := fin (by unfold refOf wrapRef; rw [if_pos (by simp only [bytesOf] at h32; omega)]; rfl) (M16.trans M7 (fun _ _ h => h)) hI7
      obtain ⟨b4, p4, q4, r4, p5, q5, r5, rfl, rfl, rfl⟩ := hI7.vals
      exact ⟨_, _, _, _, _, _, _, rfl, this⟩
    · refine callsM_mono (hI w0 w2 v h (M01.trans F2.mod (fun _ _ h => h)) hv) ?_
      rintro _ w7 ⟨v1, v2, v3, rfl, hI7, M7⟩
      have h12 := F2.mod.size
      have := fin (by unfold refOf wrapRef; rw [if_neg (by simp only [bytesOf] at h32; omega)]) (F2.mod.trans M7 (fun _ _ h => h)) (ItC.mono (fun b h => ⟨h.1, Nat.lt_of_lt_of_le h.2 h12⟩) _ hI7)
      obtain ⟨b4, p4, q4, r4, p5, q5, r5, rfl, rfl, rfl⟩ := hI7.vals
      exact ⟨_, _, _, _, _, _, _, rfl, this⟩
end
end Go.Proofs.Ytfghidehlnfdiaa
end

section
set_option linter.unusedVariables false
set_option linter.unusedSimpArgs false
namespace Go.Proofs.Ytfghidehlnfdiaa
open Go Go.Vcg Go.Trie
section
variable {C : Type} {S : C → Prop} {w0 w w1 w' : World} {lab lab' : Nat → C} {c : C}
theorem row_item_calls {kid : Nd} (hK : RefAt lab c kid) {b : Nat} {op : Option Addr} {cp : Nat} {vk : Value} {p : By} (B : Blk w0 b tRow #[.slice op p.length cp, vk]) (hp : RdB w0 op p) (hl : p.length ≤ 2 ^ 30) (hk : NodeAt w0 lab c kid vk) (M0 : Vcg.Mod NoB w0 w) :
    Calls Try.prog trie_row_item.n #[.pointer (some ⟨b, 0, none⟩)] w (fun e w' => ∃ v1 v2 v3, e = .returned (.agg #[v1, v2, v3]) ∧ ItC (Btw w0 w) w' (itemOf (.row p kid)) v1 v2 v3 ∧ Vcg.Mod NoB w w') := by
  refine calls_gen fun R hR => trie_row_item.vc _ _ _ ?_
  unfold trie_row_item.Vc
  rintro d1 w1 ⟨rfl, rfl⟩
  rintro _ rfl
  have X := (Blk.new w 138 #[.bool false, .slice none 0 0, .slice none 0 0]).mod' (Mod.drew (S := NoB) _)
  have M1 := (Mod.alloc (S := NoB) w (.cells #[.bool false, .slice none 0 0, .slice none 0 0] 138)).step_drew
  have hN : w.heap.size < (w.alloc (.cells #[.bool false, .slice none 0 0, .slice none 0 0] 138)).drew.heap.size := X.lt
  generalize (w.alloc (.cells #[.bool false, .slice none 0 0, .slice none 0 0] 138)).drew = w1 at *
  have M01 := M0.trans M1 (fun _ _ h => h)
  have B1 := B.mod' M01
  simp only [add_at, Nat.zero_add]
  refine ⟨_, _, _, B1.rd1 rfl, _, B1.rd1 rfl, ?_⟩
  refine (packed_calls (hp.mod' M01) hl false).mono ?_
  rintro _ w2 ⟨o2, k2, rfl, F2⟩
  have M2 := F2.mod
  have B2 := B1.mod' M2
  have M02 := M01.trans M2 (fun _ _ h => h)
  refine ⟨_, _, _, rfl, B2.rd1 rfl, ?_⟩
  refine (text_calls (A := Btw w0 w1) (fresh_bytes F2) (fun _ => off_new F2 (Nat.le_refl _))).mono ?_
  rintro _ w3 ⟨v1, v2, v3, rfl, hI3, M3⟩
  have M03 := M02.trans M3 (fun _ _ h => h)
  have M13 := M2.trans M3 (fun _ _ h => h)
  obtain ⟨b1, p1, q1, r1, p2, q2, r2, rfl, rfl, rfl⟩ := hI3.vals
  refine ⟨_, _, _, _, _, _, _, rfl, (B2.mod' M3).rd1 rfl, ?_⟩
  refine (hK w0 w3 vk hk M03).mono ?_
  rintro _ w4 ⟨v4, v5, v6, rfl, hI4, M4⟩
  have M14 : Vcg.Mod NoB w1 w4 := M13.trans M4 (fun _ _ h => h)
  replace hI4 : ItC (Btw w0 w1) w4 _ _ _ _ := ItC.mono (fun b h => ⟨h.1, Nat.lt_of_lt_of_le h.2 M13.size⟩) _ hI4
  obtain ⟨b4, p4, q4, r4, p5, q5, r5, rfl, rfl, rfl⟩ := hI4.vals
  refine ⟨_, _, _, _, _, _, _, rfl, ?_⟩
  rintro d33 w5 ⟨rfl, rfl⟩
  have Y := Blk.new w4 138 #[.bool b1, .slice p1 q1 r1, .slice p2 q2 r2, .bool b4, .slice p4 q4 r4, .slice p5 q5 r5]
  have M5 := Mod.alloc (S := NoB) w4 (.cells #[.bool b1, .slice p1 q1 r1, .slice p2 q2 r2, .bool b4, .slice p4 q4 r4, .slice p5 q5 r5] 138)
  have hI3' := ItC.mod (M4.trans M5 (fun _ _ h => h)) _ hI3
  have hI4' := ItC.mod M5 _ hI4
  have hY : ¬ Btw w0 w1 w4.heap.size := fun h => absurd h.2 (by have := M14.size; omega)
  have hIts : ItsC (Btw w0 w1) (w4.alloc (.cells #[.bool b1, .slice p1 q1 r1, .slice p2 q2 r2, .bool b4, .slice p4 q4 r4, .slice p5 q5 r5] 138)) [.s (packed p false), refOf kid] (some ⟨w4.heap.size, 0, none⟩) 0 := by
    simp only [ItsC]
    exact ⟨⟨_, 0, _, _, _, rfl, Y.lt, hY, Y.rd1 rfl, Y.rd1 rfl, Y.rd1 rfl, hI3'⟩, ⟨_, 0, _, _, _, rfl, Y.lt, hY, Y.rd1 rfl, Y.rd1 rfl, Y.rd1 rfl, hI4'⟩, trivial⟩
  refine (list_calls hIts).mono ?_
  rintro _ w6 ⟨v7, v8, v9, rfl, hI6, M6⟩
  have M16 : Vcg.Mod NoB w1 w6 := M14.trans (M5.trans M6 (fun _ _ h => h)) (fun _ _ h => h)
  have X6 := X.mod' M16
  have hret := ret3 (A' := Btw w0 w) (R := R) X6 hI6 ⟨M0.size, hN⟩ (fun b h => ⟨h.1, Nat.lt_trans h.2 hN⟩) (fun w7 Q hI7 => hR _ _ ⟨_, _, _, rfl, hI7, mod_of (M1.trans M16 (fun _ _ h => h)) Q (Nat.le_refl _)⟩)
  obtain ⟨b7, p7, q7, r7, p8, q8, r8, rfl, rfl, rfl⟩ := hI6.vals
  exact ⟨_, _, _, _, _, _, _, rfl, hret⟩
theorem item_leaf (p x : By) (hl : p.length ≤ 2 ^ 30) : ItemAt lab c (.leaf p x) := by
  intro w0 w v h M0 _
  obtain ⟨b, op, cp, ov, cv, rfl, B, hp, hk, hx⟩ := h
  exact ⟨_, _, trie_leaf_item.n, _, rfl, by kernel_rfl, by kernel_rfl, leaf_item_calls B.blk hp.rd hx.rd hl M0⟩
theorem item_row {kid : Nd} (hK : RefAt lab c kid) (p : By) (hl : p.length ≤ 2 ^ 30) : ItemAt lab c (.row p kid) := by
  intro w0 w v h M0 _
  obtain ⟨b, op, cp, vk, rfl, B, hp, hk, hkid⟩ := h
  exact ⟨_, _, trie_row_item.n, _, rfl, by kernel_rfl, by kernel_rfl, row_item_calls hK B.blk hp.rd hl hkid M0⟩
end
end Go.Proofs.Ytfghidehlnfdiaa
end

section
set_option linter.unusedVariables false
set_option linter.unusedSimpArgs false
namespace Go.Proofs.Ytfghidehlnfdiaa
open Go Go.Vcg Go.Trie
section
variable {C : Type} {S : C → Prop} {A : Nat → Prop} {w0 w w1 w' : World} {lab lab' : Nat → C} {c : C}
mutual
/-- An item lies in blocks that are there. -/
theorem ItC.old {w : World} : ∀ (x : It) {v1 v2 v3 : Value}, ItC A w x v1 v2 v3 → ItC (fun b => A b ∨ w.heap.size ≤ b) w x v1 v2 v3
  | .s b, _, _, _, h => by
    simp only [ItC] at h ⊢
    obtain ⟨h1, ⟨o, c, h2, h3, h5⟩, h4⟩ := h
    refine ⟨h1, ⟨o, c, h2, h3, fun hne d hd hh => ?_⟩, h4⟩
    rcases hh with hh | hh
    · exact h5 hne d hd hh
    · obtain ⟨e, f, ho, he, _⟩ := h3 hne
      rw [ho] at hd; cases hd
      exact absurd he (Nat.not_lt.2 hh)
  | .l xs, _, _, _, h => by
    simp only [ItC] at h ⊢
    obtain ⟨h1, h2, o, c, h3, h4⟩ := h
    exact ⟨h1, h2, o, c, h3, ItsC.old xs h4⟩
theorem ItsC.old {w : World} : ∀ (xs : List It) {o : Option Addr} {k : Nat}, ItsC A w xs o k → ItsC (fun b => A b ∨ w.heap.size ≤ b) w xs o k
  | [], _, _, _ => by simp only [ItsC]
  | x :: r, _, _, h => by
    simp only [ItsC] at h ⊢
    obtain ⟨⟨b, f, v1, v2, v3, ho, hb, hB, h1, h2, h3, h4⟩, h5⟩ := h
    exact ⟨⟨b, f, v1, v2, v3, ho, hb, fun hh => hh.elim hB (fun hh => absurd hb (Nat.not_lt.2 hh)), h1, h2, h3, ItC.old x h4⟩, ItsC.old r h5⟩
end
/-- A row of items, made since w0. -/
def ItRow (A : Nat → Prop) (w0 w : World) (xs : List It) (o : Option Addr) (l k : Nat) : Prop :=
  l = xs.length ∧ ∃ vs, Fresh w0 w tItem 3 o l k vs ∧ ∀ j (hj : j < xs.length), ∃ v1 v2 v3, vs[j * 3]? = some v1 ∧ vs[j * 3 + 1]? = some v2 ∧ vs[j * 3 + 2]? = some v3 ∧ ItC (fun b => A b ∨ OB o b) w xs[j] v1 v2 v3
theorem ItRow.nil (M : Vcg.Mod NoB w0 w) : ItRow A w0 w [] none 0 0 := ⟨rfl, [], Fresh.nil M _ _, fun j hj => absurd hj (by simp)⟩
theorem ItRow.mod' {xs : List It} {o : Option Addr} {l k : Nat} (h : ItRow A w0 w xs o l k) (M : Vcg.Mod NoB w w') : ItRow A w0 w' xs o l k := by
  obtain ⟨h1, vs, F, h2⟩ := h
  refine ⟨h1, vs, F.mod' M, fun j hj => ?_⟩
  obtain ⟨v1, v2, v3, a, b, d, e⟩ := h2 j hj
  exact ⟨v1, v2, v3, a, b, d, ItC.mod M _ e⟩
theorem ItRow.fmod {xs : List It} {o : Option Addr} {l k : Nat} (h : ItRow A w0 w xs o l k) : Vcg.Mod NoB w0 w := by
  obtain ⟨h1, vs, F, h2⟩ := h
  exact F.mod
theorem ItRow.push {xs : List It} {o : Option Addr} {l k : Nat} (h : ItRow A w0 w xs o l k) {D : Nat} {x : It} {v1 v2 v3 : Value} (B : Blk w D tItem #[v1, v2, v3]) (hx : ItC (fun b => A b ∨ OB o b) w x v1 v2 v3) (hl : xs.length ≤ 2 ^ 20) :
    ∃ o' k' w', Sem.run Try.prog (builtinV .append #[136, 136] 136 #[.slice o l k, .slice (some ⟨D, 0, none⟩) 1 1]) w = .ok (.slice o' (l + 1) k') w' ∧ ItRow A w0 w' (xs ++ [x]) o' (l + 1) k' := by
  obtain ⟨rfl, vs, F, hv⟩ := h
  obtain ⟨i, hi, hz, hs, hb⟩ := info_of info_item
  obtain ⟨b, p1, q1, r1, p2, q2, r2, rfl, rfl, rfl⟩ := hx.vals
  obtain ⟨o', k', w', h1, h2, h3, h4⟩ := append_own (ty := 136) und_slItem hi hz hs rfl F.own (src_one und_slItem B rfl (by simp [Value.oneCell'])) (by simp only [maxLen]; omega) (by rw [hb]; omega)
  have hF : Fresh w0 w' tItem 3 o' (xs.length + 1) k' (vs ++ [.bool b, .slice p1 q1 r1, .slice p2 q2 r2]) := by
    refine ⟨h2, F.mod.trans h3 (fun k hk hob => absurd (F.new k hob) (by omega)), fun k hk => ?_⟩
    rcases h4 k hk with h5 | h5
    · exact F.new k h5
    · exact Nat.le_trans F.mod.size h5
  have hlen : vs.length = xs.length * 3 := F.own.1
  have step : ∀ {y : It} {v1 v2 v3 : Value}, ItC (fun b => A b ∨ OB o b) w y v1 v2 v3 → ItC (fun b => A b ∨ OB o' b) w' y v1 v2 v3 := fun hy =>
    ItC.mono (fun b hb => hb.elim (fun h => .inl (.inl h)) (fun h => (h4 b h).elim (fun h => .inl (.inr h)) .inr)) _ (ItC.modA h3 (fun b h => .inl (.inr h)) _ (ItC.old _ hy))
  refine ⟨o', k', w', h1, by simp, _, hF, fun j hj => ?_⟩
  rw [List.length_append, List.length_cons, List.length_nil] at hj
  by_cases hjx : j < xs.length
  · obtain ⟨v1, v2, v3, a, b, d, e⟩ := hv j hjx
    refine ⟨v1, v2, v3, ?_, ?_, ?_, ?_⟩
    · rw [List.getElem?_append_left (by omega)]; exact a
    · rw [List.getElem?_append_left (by omega)]; exact b
    · rw [List.getElem?_append_left (by omega)]; exact d
    · rw [List.getElem_append_left hjx]; exact step e
  · obtain rfl : j = xs.length := by omega
    refine ⟨.bool b, .slice p1 q1 r1, .slice p2 q2 r2, ?_, ?_, ?_, ?_⟩
    · rw [List.getElem?_append_right (by omega), hlen, Nat.sub_self]; rfl
    · rw [List.getElem?_append_right (by omega), hlen, show xs.length * 3 + 1 - xs.length * 3 = 1 by omega]; rfl
    · rw [List.getElem?_append_right (by omega), hlen, show xs.length * 3 + 2 - xs.length * 3 = 2 by omega]; rfl
    · rw [List.getElem_append_right (Nat.le_refl _)]
      simp only [Nat.sub_self, List.getElem_cons_zero]
      exact step hx
theorem its_of : ∀ (xs : List It) (k : Nat) {o : Option Addr}, (∀ j (hj : j < xs.length), ∃ g v1 v2 v3, o = some ⟨g, 0, none⟩ ∧ g < w.heap.size ∧ ¬ A g ∧ w.cell? ⟨g, (k + j) * 3, none⟩ = some v1 ∧ w.cell? ⟨g, (k + j) * 3 + 1, none⟩ = some v2 ∧ w.cell? ⟨g, (k + j) * 3 + 2, none⟩ = some v3 ∧ ItC A w xs[j] v1 v2 v3) → ItsC A w xs o k
  | [], _, _, _ => by simp only [ItsC]
  | x :: r, k, o, h => by
    simp only [ItsC]
    constructor
    · obtain ⟨g, v1, v2, v3, a, b, d, e, f, h5, h6⟩ := h 0 (by simp)
      rw [Nat.add_zero] at e f h5
      exact ⟨g, 0, v1, v2, v3, a, b, d, by rw [Nat.zero_add]; exact e, by rw [Nat.zero_add]; exact f, by rw [Nat.zero_add]; exact h5, h6⟩
    · refine its_of r (k + 1) (fun j hj => ?_)
      obtain ⟨g, v1, v2, v3, a, b, d, e, f, h5, h6⟩ := h (j + 1) (by simpa using hj)
      rw [show k + (j + 1) = k + 1 + j by omega] at e f h5
      exact ⟨g, v1, v2, v3, a, b, d, e, f, h5, h6⟩
theorem ItRow.its {xs : List It} {o : Option Addr} {l k : Nat} (h : ItRow A w0 w xs o l k) (hA : ∀ b, A b → b < w0.heap.size) : ItsC A w xs o 0 := by
  obtain ⟨rfl, vs, F, hv⟩ := h
  refine its_of xs 0 (fun j hj => ?_)
  obtain ⟨v1, v2, v3, a, b, d, e⟩ := hv j hj
  obtain ⟨g, ho, hc1⟩ := F.own.cell a
  obtain ⟨g', ho', hc2⟩ := F.own.cell b
  obtain ⟨g'', ho'', hc3⟩ := F.own.cell d
  rw [ho] at ho' ho''
  cases ho'; cases ho''
  rw [Nat.zero_add]
  exact ⟨g, v1, v2, v3, ho, F.own.lt ⟨_, ho, rfl⟩, fun h => absurd (hA _ h) (Nat.not_lt.2 (F.new g ⟨_, ho, rfl⟩)), hc1, hc2, hc3, ItC.mono (fun _ h => .inl h) _ e⟩
end
end Go.Proofs.Ytfghidehlnfdiaa
end

section
set_option linter.unusedVariables false
set_option linter.unusedSimpArgs false
namespace Go.Vcg
theorem run_index1 {P : Program} {t e : TypeId} {n j : Nat} {ie : TypeInfo} {cs : Array Value} {v : Value} (ht : P.underlying t = some (.array n e)) (hi : P.info? e = some ie) (hs : ie.size = 1)
    (ha : ∀ w, (isAgg e).run P w = .ok false w) (hj : j < n) (hv : cs[j]? = some v) (w : World) :
    Sem.run P (Instr.index t (.agg cs) (.int .i64 (j : Int))) w = .ok v w := by
  unfold Instr.index
  simp only [Sem.run_bind, asIntOf, Sem.run_pure, Result.andThen_ok, run_und ht]
  rw [if_pos (by omega)]
  have h1 : tsize P e = 1 := by unfold tsize; rw [hi]; exact hs
  simp only [Sem.run_bind, run_sizeOf hi, Result.andThen_ok, h1, Nat.mul_one, Int.toNat_natCast]
  unfold part
  simp only [Sem.run_bind, ha, Result.andThen_ok, Bool.false_eq_true, if_false, hv, Sem.run_pure]
end Go.Vcg
namespace Go.Proofs.Ytfghidehlnfdiaa
open Go Go.Vcg Go.Trie
abbrev tKids : TypeId := 156
theorem und_kids : Try.prog.underlying tKids = some (.array 16 tNode) := by kernel_rfl
theorem info_node : (Try.prog.info? tNode).map (fun i => (i.zero, i.size, i.bytes)) = some (some .nilIface, 1, 16) := by kernel_rfl
theorem agg_node (w : World) : (isAgg tNode).run Try.prog w = .ok false w := by kernel_rfl
section
variable {C : Type} {S : C → Prop} {w0 w w1 w' : World} {lab lab' : Nat → C} {c : C}
theorem branch_item_calls {kids : Fin 16 → Nd} (hK : ∀ i, RefAt lab c (kids i)) {b : Nat} {vs : Fin 16 → Value} {ov : Option Addr} {cv : Nat} {x : By} (B : Blk w0 b tBranch (brA vs ov x.length cv)) (hx : RdB w0 ov x) (hk : ∀ i, NodeAt w0 lab c (kids i) (vs i)) (M0 : Vcg.Mod NoB w0 w) :
    Calls Try.prog trie_branch_item.n #[.pointer (some ⟨b, 0, none⟩)] w (fun e w' => ∃ v1 v2 v3, e = .returned (.agg #[v1, v2, v3]) ∧ ItC (Btw w0 w) w' (itemOf (.branch kids x)) v1 v2 v3 ∧ Vcg.Mod NoB w w') := by
  refine calls_gen fun R hR => trie_branch_item.vc _ _ _ ?_
  unfold trie_branch_item.Vc
  rintro d1 w1 ⟨rfl, rfl⟩
  have X := Blk.new w 138 #[.bool false, .slice none 0 0, .slice none 0 0]
  have M1 := Mod.alloc (S := NoB) w (.cells #[.bool false, .slice none 0 0, .slice none 0 0] 138)
  have hN : w.heap.size < (w.alloc (.cells #[.bool false, .slice none 0 0, .slice none 0 0] 138)).heap.size := X.lt
  generalize w.alloc (.cells #[.bool false, .slice none 0 0, .slice none 0 0] 138) = w1 at *
  have M01 := M0.trans M1 (fun _ _ h => h)
  have B1 := B.mod' M01
  have hL : ∀ i, i < 16 → (brA vs ov x.length cv)[0 + i]? = (List.ofFn vs).toArray[i]? := by
    intro i hi
    rw [Nat.zero_add, brA_at vs ov x.length cv ⟨i, hi⟩, List.getElem?_toArray, List.getElem?_ofFn, dif_pos hi]
  refine ⟨(List.ofFn vs).toArray, B1.rowAt (by simp) hL, ?_⟩
  have hA : ∀ b, Btw w0 w1 b → b < w1.heap.size := fun b h => h.2
  let done : Nat → List It := fun j => ((List.finRange 16).take j).map fun i => wrapRef (itemOf (kids i))
  have hdl : ∀ j, j ≤ 16 → (done j).length = j := fun j hj => by simp only [done, List.length_map, List.length_take, List.length_finRange]; omega
  refine ⟨fun o l k i w' => ∃ j : Nat, i = (j : Int) ∧ j ≤ 16 ∧ ItRow (Btw w0 w1) w1 w' (done j) o l k, fun _ _ _ i _ => ((16 : Int) - i).toNat, ⟨0, rfl, Nat.zero_le _, ItRow.nil (Mod.refl w1)⟩, ?_⟩
  rintro o l k _ _ w2 ⟨j, rfl, hj, I⟩
  have hl := I.1
  rw [hdl j hj] at hl
  subst hl
  have M12 := I.fmod
  refine ⟨fun hlt => ?_, fun hge => ?_⟩
  · have hjl : l < 16 := by omega
    obtain ⟨ie, hie, hz, hs, hb⟩ := info_of info_node
    have hv : (List.ofFn vs).toArray[l]? = some (vs ⟨l, hjl⟩) := by rw [List.getElem?_toArray, List.getElem?_ofFn, dif_pos hjl]
    refine ⟨_, run_index1 und_kids hie hs agg_node hjl hv w2, _, rfl, ?_⟩
    refine (hK ⟨l, hjl⟩ w0 w2 _ (hk _) (M01.trans M12 (fun _ _ h => h))).mono ?_
    rintro _ w3 ⟨v1, v2, v3, rfl, hI, M3⟩
    obtain ⟨b4, p4, q4, r4, p5, q5, r5, rfl, rfl, rfl⟩ := hI.vals
    refine ⟨_, _, _, _, _, _, _, rfl, ?_⟩
    rintro d w4 ⟨rfl, rfl⟩
    have Y := Blk.new w3 138 #[.bool b4, .slice p4 q4 r4, .slice p5 q5 r5]
    have M4 := Mod.alloc (S := NoB) w3 (.cells #[.bool b4, .slice p4 q4 r4, .slice p5 q5 r5] 138)
    have I4 := (I.mod' M3).mod' M4
    have hob : ∀ b, OB o b → b < w2.heap.size := fun b hb => by obtain ⟨_, vs', F, _⟩ := I; exact F.own.lt hb
    have hI' : ItC (fun b => Btw w0 w1 b ∨ OB o b) w3 (refOf (kids ⟨l, hjl⟩)) (.bool b4) (.slice p4 q4 r4) (.slice p5 q5 r5) := ItC.mono (fun b h => h.elim (fun h => ⟨h.1, Nat.lt_of_lt_of_le h.2 M12.size⟩) (fun h => ⟨Nat.le_trans M01.size (by obtain ⟨_, vs', F, _⟩ := I; exact F.new b h), hob b h⟩)) _ hI
    obtain ⟨o5, k5, w5, hr5, I5⟩ := I4.push Y (ItC.mod M4 _ hI') (by rw [hdl l hj]; omega)
    refine ⟨_, w5, hr5, _, _, _, rfl, ⟨l + 1, by rw [wrap_i64_small (by omega) (by omega)]; omega, hjl, ?_⟩, by dsimp only; rw [wrap_i64_small (by omega) (by omega)]; omega⟩
    have e : done (l + 1) = done l ++ [refOf (kids ⟨l, hjl⟩)] := by
      simp only [done]
      rw [List.take_add_one, List.getElem?_eq_getElem (by simpa using hjl), List.map_append]
      simp [refOf]
    rw [e]
    exact I5
  · obtain rfl : l = 16 := by omega
    have B2 := B1.mod' M12
    refine ⟨_, _, _, by rw [add_at, Nat.zero_add]; exact B2.rd1 (brA_val vs ov x.length cv), ?_⟩
    have hob : ∀ b, OB o b → w1.heap.size ≤ b ∧ b < w2.heap.size := fun b hb => by obtain ⟨_, vs', F, _⟩ := I; exact ⟨F.new b hb, F.own.lt hb⟩
    refine (text_calls (A := fun b => Btw w0 w1 b ∨ OB o b) (hx.mod' (M01.trans M12 (fun _ _ h => h))) (fun hne d hd hh => by
      obtain ⟨e, f, ho, he, _⟩ := hx hne
      rw [ho] at hd; cases hd
      rcases hh with hh | hh
      · exact absurd hh.1 (Nat.not_le.2 he)
      · have := (hob _ hh).1
        have := M01.size
        exact absurd he (by dsimp only at *; omega))).mono ?_
    rintro _ w3 ⟨v1, v2, v3, rfl, hI3, M3⟩
    obtain ⟨b4, p4, q4, r4, p5, q5, r5, rfl, rfl, rfl⟩ := hI3.vals
    refine ⟨_, _, _, _, _, _, _, rfl, ?_⟩
    rintro d w4 ⟨rfl, rfl⟩
    have Y := Blk.new w3 138 #[.bool b4, .slice p4 q4 r4, .slice p5 q5 r5]
    have M4 := Mod.alloc (S := NoB) w3 (.cells #[.bool b4, .slice p4 q4 r4, .slice p5 q5 r5] 138)
    obtain ⟨o5, k5, w5, hr5, I5⟩ := ((I.mod' M3).mod' M4).push Y (ItC.mod M4 _ hI3) (by rw [hdl 16 hj]; omega)
    refine ⟨_, w5, hr5, _, _, _, rfl, ?_⟩
    have hl5 : (done 16 ++ [It.s x]).length = 17 := by rw [List.length_append, hdl 16 hj]; rfl
    have hIts := I5.its hA
    have hLc := list_calls (k := k5) hIts
    rw [hl5] at hLc
    refine hLc.mono ?_
    rintro _ w6 ⟨v7, v8, v9, rfl, hI6, M6⟩
    have M16 : Vcg.Mod NoB w1 w6 := I5.fmod.trans M6 (fun _ _ h => h)
    have X6 := X.mod' M16
    have e6 : It.l (done 16 ++ [It.s x]) = itemOf (.branch kids x) := by
      simp only [done, itemOf]
      rw [List.take_of_length_le (by simp)]
    rw [e6] at hI6
    have hret := ret3 (A' := Btw w0 w) (R := R) X6 hI6 ⟨M0.size, hN⟩ (fun b h => ⟨h.1, Nat.lt_trans h.2 hN⟩) (fun w7 Q hI7 => hR _ _ ⟨_, _, _, rfl, hI7, mod_of (M1.trans M16 (fun _ _ h => h)) Q (Nat.le_refl _)⟩)
    obtain ⟨b7, p7, q7, r7, p8, q8, r8, rfl, rfl, rfl⟩ := hI6.vals
    simp only [add_at, Nat.zero_add]
    exact ⟨_, _, _, _, _, _, _, rfl, hret⟩
theorem item_branch {kids : Fin 16 → Nd} (hK : ∀ i, RefAt lab c (kids i)) (x : By) : ItemAt lab c (.branch kids x) := by
  intro w0 w v h M0 _
  obtain ⟨b, vs, ov, cv, rfl, B, hx, hk⟩ := h
  exact ⟨_, _, trie_branch_item.n, _, rfl, by kernel_rfl, by kernel_rfl, branch_item_calls hK B.blk hx.rd hk M0⟩
theorem items_of : ∀ (n : Nd), Canon n → Small n → (n ≠ .nil → ItemAt lab c n) ∧ RefAt lab c n
  | .nil, hc, hs => ⟨fun h => (h rfl).elim, reference_of (fun h => (h rfl).elim) hc hs⟩
  | .leaf p x, hc, hs => by
    have hI : ItemAt lab c (.leaf p x) := item_leaf p x (by have := hs.1; omega)
    exact ⟨fun _ => hI, reference_of (fun _ => hI) hc hs⟩
  | .row p k, hc, hs => by
    have ih := items_of k hc.2.2.2 hs.2
    have hI : ItemAt lab c (.row p k) := item_row ih.2 p (by have := hs.1; omega)
    exact ⟨fun _ => hI, reference_of (fun _ => hI) hc hs⟩
  | .branch cs x, hc, hs => by
    have ih := fun i => items_of (cs i) (hc.1 i) (hs.2 i)
    have hI : ItemAt lab c (.branch cs x) := item_branch (fun i => (ih i).2) x
    exact ⟨fun _ => hI, reference_of (fun _ => hI) hc hs⟩
/-- A node's bytes. -/
theorem encoded_calls {n : Nd} (hc : Canon n) (hs : Small n) (hn : n ≠ .nil) {v : Value} (h : NodeAt w0 lab c n v) (M : Vcg.Mod NoB w0 w) :
    Calls Try.prog trie_encoded.n #[v] w (fun e w' => ∃ o k, e = .returned (.slice o (bytesOf n).length k) ∧ Fresh w w' tU8 1 o (bytesOf n).length k ((bytesOf n).map bV)) :=
  encoded_of ((items_of n hc hs).1 hn) hc hs h M (by
    intro e
    cases n with
    | nil => exact hn rfl
    | leaf p x => obtain ⟨b, op, cp, ov, cv, rfl, _⟩ := h; cases e
    | row p k => obtain ⟨b, op, cp, vk, rfl, _⟩ := h; cases e
    | branch cs x => obtain ⟨b, vs, ov, cv, rfl, _⟩ := h; cases e)
end
end Go.Proofs.Ytfghidehlnfdiaa
end

section
set_option linter.unusedVariables false
set_option linter.unusedSimpArgs false
namespace Go.Proofs.Ytfghidehlnfdiaa
open Go Go.Vcg Go.Trie
section
variable {C C' : Type} {S : C → Prop} {w0 w w1 w' : World} {lab lab2 : Nat → C} {lab' : Nat → C'} {c : C} {c' : C'}
theorem CB.re {b : Nat} {t : TypeId} {cs : Array Value} (h : CB w lab c b t cs) (hl : ∀ k, k < w.heap.size → lab k = c → lab' k = c') : CB w lab' c' b t cs :=
  ⟨h.blk, hl _ h.blk.lt h.clr⟩
theorem CBy.re {o : Option Addr} {bs : By} (h : CBy w lab c o bs) (hl : ∀ k, k < w.heap.size → lab k = c → lab' k = c') : CBy w lab' c' o bs := by
  refine ⟨h.rd, fun hne d hd => ?_⟩
  obtain ⟨b, f, ho, hb, _⟩ := h.rd hne
  rw [ho] at hd; cases hd
  exact hl _ hb (h.clr hne _ ho)
theorem NodeAt.re (hl : ∀ k, k < w.heap.size → lab k = c → lab' k = c') : ∀ {n : Nd} {v : Value}, NodeAt w lab c n v → NodeAt w lab' c' n v
  | .nil, _, h => h
  | .leaf p x, _, h => by
    obtain ⟨b, op, cp, ov, cv, h1, h2, h3, h4, h5⟩ := h
    exact ⟨b, op, cp, ov, cv, h1, CB.re h2 hl, CBy.re h3 hl, h4, CBy.re h5 hl⟩
  | .row p k, _, h => by
    obtain ⟨b, op, cp, vk, h1, h2, h3, h4, h5⟩ := h
    exact ⟨b, op, cp, vk, h1, CB.re h2 hl, CBy.re h3 hl, h4, NodeAt.re hl h5⟩
  | .branch cs x, _, h => by
    obtain ⟨b, vs, ov, cv, h1, h2, h3, h4⟩ := h
    exact ⟨b, vs, ov, cv, h1, CB.re h2 hl, CBy.re h3 hl, fun i => NodeAt.re hl (h4 i)⟩
/-- A node made since w, the rest as it was. -/
def Grown (w : World) (lab : Nat → C) (c : C) (w' : World) (n : Nd) (v : Value) : Prop := Vcg.Mod NoB w w' ∧ NodeAt w' (ext lab w.heap.size c) c n v
theorem Grown.stp {n : Nd} {v : Value} (h : Grown w lab c w' n v) : Stp NoS w lab w' (ext lab w.heap.size c) := Stp.of_nob h.1 c
theorem grown_of {n : Nd} {v : Value} (s : Stp NoS w lab w' lab2) (h : NodeAt w' lab2 c n v) : Grown w lab c w' n v := by
  refine ⟨s.nob (fun _ _ h => h), h.re (fun k hk hc => ?_)⟩
  by_cases hlt : k < w.heap.size
  · rw [ext_old hlt, ← s.lab k hlt]; exact hc
  · exact ext_new (by omega)
theorem NodeAt.grow {n : Nd} {v : Value} (h : NodeAt w lab c n v) (M : Vcg.Mod NoB w w') : Grown w lab c w' n v :=
  ⟨M, h.stp (S := NoS) (Stp.of_nob M c) (fun h => h)⟩
theorem found_calls {o : Option Addr} {k : Nat} {x : By} (hx : RdB w o x) (hl : x.length ≤ 2 ^ 40) (b : Bool) :
    Calls Try.prog trie_found.n #[.slice o x.length k, .bool b] w (fun e w' => ∃ o' k', e = .returned (.tuple #[.slice o' (if b then x else []).length k', .bool b, .int .i64 0]) ∧ Fresh w w' tU8 1 o' (if b then x else []).length k' ((if b then x else []).map bV)) := by
  refine trie_found.vc _ _ _ _ _ _ ?_
  unfold trie_found.Vc
  cases b with
  | false => exact ⟨fun _ => ⟨none, 0, rfl, Fresh.nil (Mod.refl w) _ _⟩, fun h => by cases h⟩
  | true =>
    refine ⟨fun h => (by cases h), fun _ => ?_⟩
    refine (Clone_calls hx hl).mono ?_
    rintro _ w1 ⟨o', k', rfl, F⟩
    exact ⟨_, _, _, rfl, o', k', rfl, F⟩
theorem nib_nibbles (k : By) : Nib (nibbles k) := by
  intro x hx
  obtain ⟨a, _, ha⟩ := List.mem_flatMap.1 hx
  have h1 : (a >>> 4).toNat < 16 := by
    have : ∀ n : Fin 256, (UInt8.ofFin n >>> 4).toNat < 16 := by decide +kernel
    exact this a.toFin
  have h2 : (a &&& 15).toNat < 16 := by
    have : ∀ n : Fin 256, (UInt8.ofFin n &&& 15).toNat < 16 := by decide +kernel
    exact this a.toFin
  simp only [List.mem_cons, List.mem_nil_iff, or_false] at ha
  rcases ha with rfl | rfl
  · exact h1
  · exact h2
/-- What Get says of a key. -/
def says (r : Option By) : By × Bool := match r with
  | some v => (v, true)
  | none => ([], false)
theorem Get_calls {n : Nd} {v : Value} {t : Nat} {gv : Value} {ty : TypeId} {o : Option Addr} {k : Nat} {key : By} (T : Blk w t ty #[v, gv]) (h : NodeAt w lab c n v) (hc : Canon n) (hs : Small n) (hk : RdB w o key) (hl : key.length ≤ 64) :
    Calls Try.prog trie_Trie_Get.n #[.pointer (some ⟨t, 0, none⟩), .slice o key.length k] w (fun e w' => ∃ o' k', e = .returned (.tuple #[.slice o' (says (get n (nibbles key))).1.length k', .bool (says (get n (nibbles key))).2, .int .i64 0]) ∧ Fresh w w' tU8 1 o' (says (get n (nibbles key))).1.length k' ((says (get n (nibbles key))).1.map bV)) := by
  refine calls_gen fun R hR => trie_Trie_Get.vc _ _ _ _ _ _ ?_
  unfold trie_Trie_Get.Vc
  refine ⟨fun h => by omega, fun _ => ?_⟩
  refine (Nibbles_calls hk (by omega)).mono ?_
  rintro _ w1 ⟨o1, k1, rfl, F1⟩
  have hnl := nibbles_len key
  have M1 := F1.mod
  refine ⟨_, _, _, rfl, v, (T.mod' M1).rd1 rfl, ?_⟩
  refine ⟨fun o2 l2 k2 v2 w' => ∃ (p : By) (m : Nd), l2 = p.length ∧ p.length ≤ k2 ∧ RdB w' o2 p ∧ Nib p ∧ Vcg.Mod NoB w w' ∧ NodeAt w lab c m v2 ∧ Canon m ∧ Small m ∧ get m p = get n (nibbles key), fun _ l2 _ _ _ => l2,
    ⟨nibbles key, n, rfl, F1.own.cap.1, fresh_bytes F1, nib_nibbles key, M1, h, hc, hs, rfl⟩, ?_⟩
  rintro o2 _ k2 v2 _ w2 ⟨p, m, rfl, hpk, hr, hnib, M2, hm, hcm, hsm, hg⟩
  have hm2 := hm.stp (S := NoS) (Stp.of_nob M2 c) (fun h => h)
  refine (seen_calls hm2 t).mono ?_
  rintro _ w3 ⟨rfl, rfl⟩
  refine ⟨_, _, rfl, fun h => (h rfl).elim, fun _ => ?_⟩
  have none_ : ∀ w4, Vcg.Mod NoB w3 w4 → get m p = none → R (.returned (.tuple #[.slice none 0 0, .bool false, .int .i64 0])) w4 := fun w4 M4 hn => by
    rw [← hg, hn] at hR
    exact hR _ _ ⟨none, 0, rfl, Fresh.nil (M2.trans M4 (fun _ _ h => h)) _ _⟩
  cases m with
  | nil =>
    cases hm
    exact ⟨_, ask_nil und_pleaf zero_pleaf w3, _, _, rfl, fun h => (by cases h), fun _ => ⟨_, ask_nil und_prow zero_prow w3, _, _, rfl, fun h => (by cases h), fun _ => ⟨_, ask_nil und_pbranch zero_pbranch w3, _, _, rfl, fun h => (by cases h), fun _ => none_ _ (Mod.refl _) (by simp [Trie.get])⟩⟩⟩
  | leaf q x =>
    obtain ⟨b, oq, cq, ox, cx, rfl, B, hq, hqc, hx⟩ := hm
    refine ⟨_, ask_yes und_pleaf w3, _, _, rfl, fun _ => ?_, fun h => by cases h⟩
    rintro _ rfl
    have MD := Mod.drew (S := NoB) w3
    have M3 := M2.trans MD (fun _ _ h => h)
    have B3 := B.blk.mod' M3
    simp only [Option.some.injEq, exists_eq_left', add_at, Nat.zero_add]
    refine ⟨_, _, _, B3.rd1 rfl, _, _, _, B3.rd1 rfl, ?_⟩
    refine (Equal_calls (hq.rd.mod' M3) (hr.mod' MD)).mono ?_
    rintro _ w4 ⟨rfl, rfl⟩
    refine ⟨_, rfl, B3.rd1 rfl, ?_⟩
    refine (found_calls (hx.rd.mod' M3) (by have := hsm.2; omega) _).mono ?_
    rintro _ w5 ⟨o5, k5, rfl, F5⟩
    refine ⟨_, _, _, _, _, rfl, ?_⟩
    have e : says (get n (nibbles key)) = ((if (decide (q = p)) = true then x else []), decide (q = p)) := by
      rw [← hg]
      by_cases hqp : q = p
      · simp [Trie.get, hqp, says]
      · simp [Trie.get, hqp, says]
    rw [e] at hR
    exact hR _ _ ⟨o5, k5, rfl, Fresh.from_ F5 M3⟩
  | row q m =>
    obtain ⟨b, oq, cq, vk, rfl, B, hq, hqc, hkid⟩ := hm
    have B3 := B.blk.mod' M2
    simp only [Option.some.injEq, exists_eq_left', add_at, Nat.zero_add]
    refine ⟨_, ask_no und_pleaf zero_pleaf (by decide) w3, _, _, rfl, fun h => (by cases h), fun _ => ⟨_, ask_yes und_prow w3, _, _, rfl, fun _ => ?_, fun h => by cases h⟩⟩
    simp only [Option.some.injEq, exists_eq_left', add_at, Nat.zero_add]
    refine ⟨_, _, _, B3.rd1 rfl, ?_⟩
    refine (begins_calls hr hpk (hq.rd.mod' M2)).mono ?_
    rintro e4 w4 ⟨rfl, he⟩
    split at he
    · rename_i hpre
      subst he
      refine ⟨_, _, _, _, rfl, fun h => (by cases h), fun _ => ⟨_, B3.rd1 rfl, ⟨p.drop q.length, m, rfl, by rw [List.length_drop]; omega, ?_, hnib.drop _, M2, hkid, hcm.2.2.2, hsm.2, ?_⟩, ?_⟩⟩
      · have := hr.sub (lo := q.length) (n := p.length - q.length) hpk
        rw [List.take_of_length_le (by rw [List.length_drop]; omega)] at this
        exact this
      · rw [← hg]; simp only [Trie.get]; rw [if_pos hpre]
      · have h1 : 1 ≤ q.length := List.length_pos_iff.2 hcm.1
        have h2 := (List.isPrefixOf_iff_prefix.1 hpre).length_le
        rw [List.length_drop]; omega
    · rename_i hpre
      subst he
      exact ⟨_, _, _, _, rfl, fun _ => none_ _ (Mod.refl _) (by simp only [Trie.get]; rw [if_neg hpre]), fun h => by cases h⟩
  | branch cs x =>
    obtain ⟨b, vs, ox, cx, rfl, B, hx, hkids⟩ := hm
    refine ⟨_, ask_no und_pleaf zero_pleaf (by decide) w3, _, _, rfl, fun h => (by cases h), fun _ => ⟨_, ask_no und_prow zero_prow (by decide) w3, _, _, rfl, fun h => (by cases h), fun _ => ⟨_, ask_yes und_pbranch w3, _, _, rfl, fun _ => ⟨fun h0 => ?_, fun h0 => ?_⟩, fun h => by cases h⟩⟩⟩
    all_goals
      rintro _ rfl
      have MD := Mod.drew (S := NoB) w3
      have M3 := M2.trans MD (fun _ _ h => h)
      have B3 := B.blk.mod' M3
      simp only [Option.some.injEq, exists_eq_left', add_at, Nat.zero_add]
    · have hp0 : p = [] := List.eq_nil_of_length_eq_zero (by omega)
      subst hp0
      refine ⟨_, _, _, B3.rd1 (brA_val _ _ _ _), _, _, _, B3.rd1 (brA_val _ _ _ _), ?_⟩
      have hxl := hsm.1
      refine (found_calls (hx.rd.mod' M3) (by omega) _).mono ?_
      rintro _ w5 ⟨o5, k5, rfl, F5⟩
      refine ⟨_, _, _, _, _, rfl, ?_⟩
      have e : says (get n (nibbles key)) = ((if (decide (((x.length : Nat) : Int) > 0)) = true then x else []), decide (((x.length : Nat) : Int) > 0)) := by
        rw [← hg]
        cases x with
        | nil => simp [Trie.get, says]
        | cons a r => simp [Trie.get, says]
      rw [e] at hR
      exact hR _ _ ⟨o5, k5, rfl, Fresh.from_ F5 M3⟩
    · cases p with
      | nil => simp at h0
      | cons a r =>
        have ha : a.toNat < 16 := hnib a (by simp)
        obtain ⟨pb, pf, rfl, hpb, hpc⟩ := rdb_get (hr.mod' MD) (i := 0) (by simp)
        simp only [Option.some.injEq, exists_eq_left', add_at, Nat.add_zero] at hpc ⊢
        simp only [List.getElem_cons_zero] at hpc
        refine ⟨by simp, _, hpc, by omega, vs ⟨a.toNat, ha⟩, ?_, by simp, ⟨r, cs ⟨a.toNat, ha⟩, by simp, by simp at hpk ⊢; omega, ?_, fun y hy => hnib y (by simp [hy]), M3, hkids _, hcm.1 _, hsm.2 _, ?_⟩, by simp⟩
        · rw [Int.toNat_natCast]
          exact B3.rd1 (brA_at vs ox x.length cx ⟨a.toNat, ha⟩)
        · have := (hr.mod' MD).sub (lo := 1) (n := r.length) hpk
          simpa using this
        · rw [← hg]; simp only [Trie.get]; rw [dif_pos ha]
end
end Go.Proofs.Ytfghidehlnfdiaa
end

section
set_option linter.unusedVariables false
set_option linter.unusedSimpArgs false
namespace Go.Trie
theorem lay_nil (cs : Fin 16 → Nd) (v x : By) : lay cs v [] x = .branch cs x := rfl
theorem lay_cons (cs : Fin 16 → Nd) (v x : By) (a : UInt8) (r : By) : lay cs v (a :: r) x = .branch (upd cs a (.leaf r x)) v := rfl
end Go.Trie
namespace Go.Proofs.Ytfghidehlnfdiaa
open Go Go.Vcg Go.Trie
section
variable {C : Type} {S : C → Prop} {w0 w w1 w' : World} {lab lab2 : Nat → C} {c : C}
/-- A branch that is being made: block D, all it refers to in the blocks of colour c. -/
structure BrAt (w : World) (lab : Nat → C) (c : C) (D : Nat) (cs : Fin 16 → Nd) (x : By) : Prop where
  mk :: (ex : ∃ vs ov cv, Blk w D tBranch (brA vs ov x.length cv) ∧ CBy w lab c ov x ∧ ∀ i, NodeAt w lab c (cs i) (vs i))
theorem BrAt.node {D : Nat} {cs : Fin 16 → Nd} {x : By} (h : BrAt w lab c D cs x) (hD : lab D = c) : NodeAt w lab c (.branch cs x) (.iface tPBranch (.pointer (some ⟨D, 0, none⟩))) := by
  obtain ⟨vs, ov, cv, h1, h2, h3⟩ := h.ex
  exact ⟨D, vs, ov, cv, rfl, ⟨h1, hD⟩, h2, h3⟩
theorem BrAt.stp {lab' : Nat → C} {D : Nat} {cs : Fin 16 → Nd} {x : By} (h : BrAt w lab c D cs x) (s : Stp S w lab w' lab') (hs : ¬ S c) (hD : ¬ S (lab D)) : BrAt w' lab' c D cs x := by
  obtain ⟨vs, ov, cv, h1, h2, h3⟩ := h.ex
  exact ⟨⟨vs, ov, cv, (s.block D h1.lt hD).trans h1, h2.stp s hs, fun i => (h3 i).stp s hs⟩⟩
theorem BrAt.re {C' : Type} {lab' : Nat → C'} {c' : C'} {D : Nat} {cs : Fin 16 → Nd} {x : By} (h : BrAt w lab c D cs x) (hl : ∀ k, k < w.heap.size → lab k = c → lab' k = c') : BrAt w lab' c' D cs x := by
  obtain ⟨vs, ov, cv, h1, h2, h3⟩ := h.ex
  exact ⟨⟨vs, ov, cv, h1, CBy.re h2 hl, fun i => NodeAt.re hl (h3 i)⟩⟩
/-- A new branch without children. -/
abbrev br0 : Array Value := #[.nilIface, .nilIface, .nilIface, .nilIface, .nilIface, .nilIface, .nilIface, .nilIface, .nilIface, .nilIface, .nilIface, .nilIface, .nilIface, .nilIface, .nilIface, .nilIface, (.slice none 0 0)]
theorem br0_eq : br0 = brA (fun _ => .nilIface) none 0 0 := by kernel_rfl
theorem BrAt.new (w : World) (lab : Nat → C) (c : C) : BrAt (w.alloc (.cells br0 tBranch)) lab c w.heap.size none16 [] := by
  refine ⟨⟨fun _ => .nilIface, none, 0, ?_, CBy.nil _ _ _ _, fun i => rfl⟩⟩
  have := Blk.new w tBranch br0
  rw [br0_eq] at this ⊢
  exact this
/-- A leaf laid into a branch that is being made: D of another colour than c. -/
theorem lay_at {D : Nat} {cs : Fin 16 → Nd} {v p x : By} {o ox : Option Addr} {k kx : Nat} (h : BrAt w lab c D cs v) (hD : lab D ≠ c) (hp : CBy w lab c o p) (hpk : p.length ≤ k) (hn : Nib p) (hx : CBy w lab c ox x) :
    Calls Try.prog trie_branch_lay.n #[.pointer (some ⟨D, 0, none⟩), .slice o p.length k, .slice ox x.length kx] w (fun e w' => e = .returned (.tuple #[]) ∧ Vcg.Mod (· = D) w w' ∧
      ∃ cs' v', lay cs v p x = .branch cs' v' ∧ BrAt w' (ext lab w.heap.size c) c D cs' v') := by
  obtain ⟨vs, ov, cv, h1, h2, h3⟩ := h.ex
  refine (lay_calls (kx := kx) h1 hp.rd hn).mono ?_
  rintro _ w1 ⟨rfl, M, hnil, hcons⟩
  have s : Stp (fun z => z ≠ c) w lab w1 (ext lab w.heap.size c) := Stp.of_mod M c (fun k hk e => by subst e; exact hD)
  refine ⟨rfl, M, ?_⟩
  cases p with
  | nil => exact ⟨cs, x, lay_nil _ _ _, ⟨⟨vs, ox, kx, hnil rfl, hx.stp s (fun h => h rfl), fun i => (h3 i).stp s (fun h => h rfl)⟩⟩⟩
  | cons a r =>
    obtain ⟨b, hb, hB, hD'⟩ := hcons a r rfl
    refine ⟨_, _, lay_cons _ _ _ _ _, ⟨⟨_, ov, cv, hD', h2.stp s (fun h => h rfl), fun i => ?_⟩⟩⟩
    unfold Trie.upd updV
    split
    · have hsub := hp.sub (lo := 1) (n := r.length) hpk
      simp only [List.drop_succ_cons, List.drop_zero, List.take_length] at hsub
      exact ⟨b, _, _, ox, kx, rfl, ⟨hB, ext_new hb⟩, hsub.stp s (fun h => h rfl), by simp at hpk ⊢; omega, hx.stp s (fun h => h rfl)⟩
    · exact (h3 i).stp s (fun h => h rfl)
end
end Go.Proofs.Ytfghidehlnfdiaa
end
