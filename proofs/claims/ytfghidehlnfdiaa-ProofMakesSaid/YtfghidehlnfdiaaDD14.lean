/- Contracts: moraineref4.First, Decode. -/
/- Contracts: moraineref4.Of. What an item is: plain Lean. -/
/- The verification conditions of some functions, printed by a program of ours (wip/PrintVc.lean). -/
/- What item is a node: plain Lean; and the nodes that the trie makes of items. -/
/- Contracts: trie.branched, noded, decoded, Check. -/
/- Contracts: the reference's is and ref (moraineref14). -/
/- Contracts: trie.decoded, Check, Children. -/
/- The hashes that a node's item refers to; rows of hashes. -/
/- Contracts: Children both, the helper's Hashes. -/
import Derived.Test.YtfghidehlnfdiaaDD5
import Derived.Test.YtfghidehlnfdiaaProg
import Derived.KernelRfl
set_option linter.unusedVariables false
set_option linter.unusedSimpArgs false
section
namespace Go.Proofs.Ytfghidehlnfdiaa
open Go Go.Vcg Go.Trie
theorem sg_all (B : By) : sg B 0 B.length = B := by simp [sg]
theorem rFirst_calls {w : World} {o : Option Addr} {k : Nat} {bs : By} (hr : RdB w o bs) (hk : bs.length ≤ k) :
    Calls Try.prog moraineref4_First.n #[.slice o bs.length k] w (fun e w' => Vcg.Mod NoB w w' ∧ FirstIs bs w e w') := by
  refine calls_gen fun R hR => moraineref4_First.vc _ _ _ _ _ ?_
  unfold moraineref4_First.Vc
  rintro d1 w1 ⟨rfl, rfl⟩
  have M1 : Vcg.Mod NoB w _ := Mod.alloc w (.cells #[.bool false, .slice none 0 0, .slice none 0 0] 138)
  have X1 := Blk.new w 138 #[.bool false, .slice none 0 0, .slice none 0 0]
  have hs1 := size_alloc w (.cells #[.bool false, .slice none 0 0, .slice none 0 0] 138)
  have hr1 := hr.mod' M1
  generalize hN : w.heap.size = N at *
  generalize w.alloc (.cells #[.bool false, .slice none 0 0, .slice none 0 0] 138) = w1 at *
  refine ⟨fun hbig => ?_, fun hbig => ?_⟩
  · refine ret_3 X1 (fun w2 M2 => hR _ _ ⟨mod_of M1 M2 (by omega), ?_⟩)
    unfold FirstIs
    rw [if_pos (by omega)]
    exact ⟨_, _, _, _, _, _, _, _, rfl⟩
  · rintro d2 w2 ⟨rfl, rfl⟩
    have M12 : Vcg.Mod NoB w1 _ := Mod.alloc w1 (.cells #[.slice o bs.length k, .int .i64 0, .int .i64 0] 221)
    have W2 := Blk.new w1 221 #[.slice o bs.length k, .int .i64 ((0 : Nat) : Int), .int .i64 0]
    have X2 := X1.mod' M12
    have hr2 := hr1.mod' M12
    have M2 := M1.none_trans M12
    have hs2 := size_alloc w1 (.cells #[.slice o bs.length k, .int .i64 0, .int .i64 0] 221)
    have hoff : bs ≠ [] → Off (· = w1.heap.size) o := fun hne e he h => by
      obtain ⟨b, f, ho, hb, _⟩ := hr hne
      rw [ho] at he; cases he
      simp only at h
      omega
    have hc := item_calls (2 * bs.length + 1) 1 0 0 bs.length bs (k := k) (by omega) (Nat.zero_le _) (Nat.le_refl _) (by omega) hr2 hk W2 hoff (by omega) (by omega)
    rw [sg_all] at hc
    refine Calls.mono (R := fun e w' => Vcg.Mod (· = w1.heap.size) (w1.alloc (.cells #[.slice o bs.length k, .int .i64 0, .int .i64 0] 221)) w' ∧ RdIs (dcd (2 * bs.length + 1) 1 0 bs) (.slice o bs.length k) 0 (w1.alloc (.cells #[.slice o bs.length k, .int .i64 0, .int .i64 0] 221)) w1.heap.size e w') hc ?_
    rintro e w3 ⟨M3, hd⟩
    have M03 : Vcg.Mod NoB w w3 := mod_of M2 M3 (by omega)
    have X3 := X2.mod M3 (by omega)
    have hs3 := M3.size
    generalize hD : w1.heap.size = D at *
    have key : ∃ (y : It) (v1 v2 v3 : Value) (nx : Int) (m' : Nat) (x : Int), e = .returned (.tuple #[.agg #[v1, v2, v3], .int .i64 nx]) ∧ ItC (fun b => b < D) w3 y v1 v2 v3 ∧ Blk w3 D 221 #[.slice o bs.length k, .int .i64 (m' : Int), .int .i64 x] ∧
        ((x ≠ 0 ∧ dcd (2 * bs.length + 1) 1 0 bs = .error x) ∨ (x = 0 ∧ ∃ q, dcd (2 * bs.length + 1) 1 0 bs = .ok (y, q, m') ∧ nx = (q : Int))) := by
      cases hdc : dcd (2 * bs.length + 1) 1 0 bs with
      | error x =>
        rw [hdc] at hd
        obtain ⟨hx0, rfl, m', W3⟩ := hd
        exact ⟨.s [], _, _, _, _, m', x, rfl, its_nil_s _ _, W3, .inl ⟨hx0, rfl⟩⟩
      | ok r =>
        obtain ⟨y, q, m⟩ := r
        rw [hdc] at hd
        obtain ⟨W3, v1, v2, v3, rfl, hy⟩ := hd
        refine ⟨y, v1, v2, v3, _, m, 0, rfl, ItC.mono (fun b hb => ?_) _ hy, W3, .inr ⟨rfl, q, rfl, by rw [Nat.zero_add]⟩⟩
        show b < _
        rw [hs2]
        have hb' : b < D := hb
        omega
    obtain ⟨y, v1, v2, v3, nx, m', x, rfl, hy, W3, hout⟩ := key
    clear hd hc
    obtain ⟨bb, p1, q1, r1, p2, q2, r2, rfl, rfl, rfl⟩ := hy.vals
    refine ⟨_, _, _, _, _, _, _, _, rfl, ?_⟩
    rintro d4 w4 ⟨rfl, rfl⟩
    have H := Blk.new w3 138 #[.bool false, .slice none 0 0, .slice none 0 0]
    have M34 : Vcg.Mod NoB w3 _ := Mod.alloc w3 (.cells #[.bool false, .slice none 0 0, .slice none 0 0] 138)
    refine set3 H rfl rfl rfl (fun w5 H5 Q5 => ?_)
    have M35 : Vcg.Mod NoB w3 w5 := mod_of M34 Q5 (Nat.le_refl _)
    have X5 := X3.mod' M35
    have W5 := W3.mod' M35
    have hy5 := ItC.mod M35 _ hy
    have M05 := M03.none_trans M35
    have hs5 := M35.size
    clear H M34 Q5 X3 W3 hy M03 M35
    refine ⟨x, by rw [add_at]; exact W5.rd1 rfl, fun hx0 => ?_, fun hx0 => ?_⟩
    · rcases hout with ⟨_, hdc⟩ | ⟨h, _⟩
      · rintro _ rfl
        have M6 : Vcg.Mod NoB w5 w5.drew := Mod.drew w5
        have W6 := W5.mod' M6
        have X6 := X5.mod' M6
        have M06 := M05.none_trans M6
        generalize w5.drew = w6 at *
        refine ⟨x, by rw [add_at]; exact W6.rd1 rfl, set3 X6 rfl rfl rfl (fun w7 X7 Q7 => ⟨by rw [add_at]; exact (W6.mod Q7 (by omega)).rd1 rfl, get3 X7 (hR _ _ ⟨mod_of M06 Q7 (by omega), ?_⟩)⟩)⟩
        unfold FirstIs
        rw [if_neg (by omega), hdc]
        exact ⟨hx0, _, _, _, _, _, _, _, _, rfl⟩
      · exact (hx0 h).elim
    · rcases hout with ⟨h, _⟩ | ⟨_, q, hdc, rfl⟩
      · exact (h hx0).elim
      · refine get3 H5 (ret_3 X5 (fun w7 Q7 => hR _ _ ⟨mod_of M05 Q7 (by omega), ?_⟩))
        unfold FirstIs
        rw [if_neg (by omega), hdc]
        refine ⟨_, _, _, rfl, ItC.mono (fun b hb => ?_) _ (ItC.modA Q7 (fun b hb => ?_) _ hy5)⟩
        · have hb' : b < w.heap.size := hb
          show b < D
          omega
        · show b < D
          omega
theorem rDecode_calls {w : World} {o : Option Addr} {k : Nat} {bs : By} (hr : RdB w o bs) (hk : bs.length ≤ k) :
    Calls Try.prog moraineref4_Decode.n #[.slice o bs.length k] w (fun e w' => Vcg.Mod NoB w w' ∧ DecodeIs bs w e w') := by
  refine calls_gen fun R hR => moraineref4_Decode.vc _ _ _ _ _ ?_
  unfold moraineref4_Decode.Vc
  rintro d1 w1 ⟨rfl, rfl⟩
  have M1 : Vcg.Mod NoB w _ := Mod.alloc w (.cells #[.bool false, .slice none 0 0, .slice none 0 0] 138)
  have X1 := Blk.new w 138 #[.bool false, .slice none 0 0, .slice none 0 0]
  have hs1 := size_alloc w (.cells #[.bool false, .slice none 0 0, .slice none 0 0] 138)
  have hr1 := hr.mod' M1
  generalize hN : w.heap.size = N at *
  generalize w.alloc (.cells #[.bool false, .slice none 0 0, .slice none 0 0] 138) = w1 at *
  refine (rFirst_calls hr1 hk).mono ?_
  rintro e w2 ⟨M2, hf⟩
  have M02 := M1.none_trans M2
  have X2 := X1.mod' M2
  have hs2 := M2.size
  have bad : ∀ (w' : World) (x : Int), dcod bs = .error x → x ≠ 0 → Vcg.Mod NoB w w' → Blk w' N 138 #[.bool false, .slice none 0 0, .slice none 0 0] → ∀ w'' : World, Vcg.Mod (· = N) w' w'' → R (.returned (.tuple #[.agg #[.bool false, .slice none 0 0, .slice none 0 0], .int .i64 x])) w'' := by
    intro w' x hx h0 M X w'' M'
    refine hR _ _ ⟨mod_of M M' (by omega), ?_⟩
    unfold DecodeIs
    rw [hx]
    exact ⟨h0, _, _, _, _, _, _, _, rfl⟩
  have key : (∃ b p1 q1 r1 p2 q2 r2 n1 x, e = .returned (.tuple #[.agg #[.bool b, .slice p1 q1 r1, .slice p2 q2 r2], .int .i64 n1, .int .i64 x]) ∧ x ≠ 0 ∧ dcod bs = .error x) ∨
      (∃ y q m v1 v2 v3, ¬ bs.length > 65536 ∧ dcd (2 * bs.length + 1) 1 0 bs = .ok (y, q, m) ∧ e = .returned (.tuple #[.agg #[v1, v2, v3], .int .i64 (q : Int), .int .i64 0]) ∧ ItC (fun b => b < w1.heap.size) w2 y v1 v2 v3) := by
    unfold FirstIs at hf
    split at hf
    · rename_i hbig
      obtain ⟨b, p1, q1, r1, p2, q2, r2, n1, he⟩ := hf
      exact .inl ⟨_, _, _, _, _, _, _, _, _, he, by decide, by unfold dcod; rw [if_pos hbig]⟩
    · rename_i hbig
      split at hf
      · rename_i x hdc
        obtain ⟨hx, b, p1, q1, r1, p2, q2, r2, n1, he⟩ := hf
        exact .inl ⟨_, _, _, _, _, _, _, _, _, he, hx, by unfold dcod; rw [if_neg hbig, hdc]⟩
      · rename_i y q m hdc
        obtain ⟨v1, v2, v3, he, hy⟩ := hf
        exact .inr ⟨_, _, _, _, _, _, hbig, hdc, he, hy⟩
  rcases key with ⟨b, p1, q1, r1, p2, q2, r2, n1, x, rfl, hx, hdc⟩ | ⟨y, q, m, v1, v2, v3, hbig, hdc, rfl, hy⟩
  · refine ⟨_, _, _, _, _, _, _, _, _, rfl, ?_⟩
    rintro d3 w3 ⟨rfl, rfl⟩
    have H := Blk.new w2 138 #[.bool false, .slice none 0 0, .slice none 0 0]
    have M23 : Vcg.Mod NoB w2 _ := Mod.alloc w2 (.cells #[.bool false, .slice none 0 0, .slice none 0 0] 138)
    refine set3 H rfl rfl rfl (fun w4 H4 Q4 => ?_)
    have M24 : Vcg.Mod NoB w2 w4 := mod_of M23 Q4 (Nat.le_refl _)
    exact ⟨fun h => (hx h).elim, fun _ => ⟨fun _ => ret_3 (X2.mod' M24) (bad w4 x hdc hx (M02.none_trans M24) (X2.mod' M24)), fun h => (hx h).elim⟩⟩
  · obtain ⟨bb, p1, q1, r1, p2, q2, r2, rfl, rfl, rfl⟩ := hy.vals
    refine ⟨_, _, _, _, _, _, _, _, _, rfl, ?_⟩
    rintro d3 w3 ⟨rfl, rfl⟩
    have H := Blk.new w2 138 #[.bool false, .slice none 0 0, .slice none 0 0]
    have M23 : Vcg.Mod NoB w2 _ := Mod.alloc w2 (.cells #[.bool false, .slice none 0 0, .slice none 0 0] 138)
    refine set3 H rfl rfl rfl (fun w4 H4 Q4 => ?_)
    have M24 : Vcg.Mod NoB w2 w4 := mod_of M23 Q4 (Nat.le_refl _)
    have X4 := X2.mod' M24
    have hy4 := ItC.mod M24 _ hy
    refine ⟨fun _ => ⟨fun hlt => ?_, fun hlt => ⟨fun h => (h rfl).elim, fun _ => ?_⟩⟩, fun h => (h rfl).elim⟩
    · refine ret_3 X4 (bad w4 42 ?_ (by decide) (M02.none_trans M24) X4)
      unfold dcod
      rw [if_neg hbig, hdc]
      simp only
      rw [if_pos (by omega)]
    · refine get3 H4 (ret_3 X4 (fun w5 M5 => hR _ _ ⟨mod_of (M02.none_trans M24) M5 (by omega), ?_⟩))
      have hd : dcod bs = .ok y := by
        unfold dcod
        rw [if_neg hbig, hdc]
        simp only
        rw [if_neg (by omega)]
      unfold DecodeIs
      rw [hd]
      refine ⟨_, _, _, rfl, ItC.mono (fun b hb => ?_) _ (ItC.modA M5 (fun b hb => ?_) _ hy4)⟩
      · have : b < w.heap.size := hb
        show b < w1.heap.size
        omega
      · show b < w1.heap.size
        omega
end Go.Proofs.Ytfghidehlnfdiaa
end
section
namespace Go.Proofs.Ytfghidehlnfdiaa
open Go Go.Vcg Go.Trie
theorem encs_take (xs : List It) {j : Nat} (hj : j < xs.length) : encs (xs.take (j + 1)) = encs (xs.take j) ++ enc xs[j] := by
  rw [List.take_succ_eq_append_getElem hj, encs_append]
  simp [encs]
theorem Of_calls' : ∀ (f : Nat) (x : It) {A : Nat → Prop} {w0 w : World} {b : Bool} {o1 : Option Addr} {l1 c1 : Nat} {o2 : Option Addr} {l2 c2 : Nat}, dep x ≤ f → ItC A w0 x (.bool b) (.slice o1 l1 c1) (.slice o2 l2 c2) → Vcg.Mod NoB w0 w → (enc x).length ≤ 65536 →
    Calls Try.prog moraineref4_Of.n #[.agg #[.bool b, .slice o1 l1 c1, .slice o2 l2 c2]] w (fun e w' => ∃ o' k', e = .returned (.slice o' (enc x).length k') ∧ Fresh w w' tU8 1 o' (enc x).length k' ((enc x).map bV))
  | 0, x, _, _, _, _, _, _, _, _, _, _, hd, _, _, _ => absurd (dep_pos x) (by omega)
  | f + 1, x, A, w0, w, b, o1, l1, c1, o2, l2, c2, hd, h, M, hl => by
    refine calls_gen fun R hR => moraineref4_Of.vc _ _ _ _ _ _ _ _ _ ?_
    unfold moraineref4_Of.Vc
    rintro d3 w1 ⟨rfl, rfl⟩
    have M1 : Vcg.Mod NoB w _ := Mod.alloc w (.cells #[.bool b, .slice o1 l1 c1, .slice o2 l2 c2] 138)
    have X1 := Blk.new w 138 #[.bool b, .slice o1 l1 c1, .slice o2 l2 c2]
    have hs1 := size_alloc w (.cells #[.bool b, .slice o1 l1 c1, .slice o2 l2 c2] 138)
    generalize hN : w.heap.size = N at *
    generalize w.alloc (.cells #[.bool b, .slice o1 l1 c1, .slice o2 l2 c2] 138) = w1 at *
    have M01 := M.none_trans M1
    have from1 : ∀ {w2 : World} {o : Option Addr} {l k : Nat} {vs : List Value}, Fresh w1 w2 tU8 1 o l k vs → Fresh w w2 tU8 1 o l k vs := fun F => ⟨F.own, M1.none_trans F.mod, fun k hk => by have := F.new k hk; omega⟩
    cases x with
    | s bs =>
      simp only [ItC] at h
      obtain ⟨h1, ⟨o, c, h2, h3, h4⟩, h5⟩ := h
      cases h1; cases h2; cases h5
      have hbl : bs.length < 2 ^ 30 := by
        have : bs.length ≤ (enc (.s bs)).length := by
          simp only [enc]
          split
          · exact Nat.le_refl _
          · rw [List.length_append]; omega
        omega
      refine ⟨_, X1.rd1 rfl, fun _ => ⟨_, _, _, by rw [add_at]; exact X1.rd1 rfl, ?_⟩, fun hb => (by cases hb)⟩
      refine (rBytes_calls (h3.mod' M01) hbl).mono ?_
      rintro _ w2 ⟨o', k', rfl, F⟩
      exact ⟨_, _, _, rfl, hR _ _ ⟨o', k', rfl, from1 F⟩⟩
    | l xs =>
      simp only [ItC] at h
      obtain ⟨h1, h2, o, c, h3, h4, _⟩ := h
      cases h1; cases h2; cases h3
      have hel : (encs xs).length ≤ 65536 := by
        simp only [enc, List.length_append] at hl
        omega
      refine ⟨_, X1.rd1 rfl, fun hb => (by cases hb), fun _ => ?_⟩
      refine ⟨fun o' l' k' i w' => ∃ j : Nat, i = (j : Int) ∧ j ≤ xs.length ∧ l' = (encs (xs.take j)).length ∧ Fresh w1 w' tU8 1 o' l' k' ((encs (xs.take j)).map bV), fun _ _ _ i _ => ((xs.length : Int) - i).toNat, ⟨0, rfl, Nat.zero_le _, rfl, Fresh.nil (Mod.refl w1) _ _⟩, ?_⟩
      rintro o4 _ k4 _ _ w4 ⟨j, rfl, hj, rfl, F4⟩
      have X4 := X1.mod' F4.mod
      have hlen := counts_len xs
      have hc := encs_len xs
      refine ⟨_, _, _, by rw [add_at]; exact X4.rd1 rfl, fun hlt => ⟨fun hle => ?_, fun hgt => ?_⟩, fun hge => ?_⟩
      · have hjl : j < xs.length := by omega
        have M04 := M01.none_trans F4.mod
        obtain ⟨g, f0, v1, v2, v3, ho, hg, e1, e2, e3, hi⟩ := (ItsC.mod M04 _ h4).get j hjl
        obtain ⟨bb, p1, q1, r1, p2, q2, r2, rfl, rfl, rfl⟩ := hi.vals
        rw [Nat.zero_add] at e1 e2 e3
        have hdj : dep xs[j] ≤ f := by
          have := dep_mem (List.getElem_mem hjl)
          simp only [dep] at hd
          omega
        have hej := encs_take xs hjl
        have hle2 := encs_take_le xs (j + 1)
        rw [hej, List.length_append] at hle2
        refine ⟨_, _, _, by rw [add_at]; exact X4.rd1 rfl, _, ho, ⟨by omega, by omega⟩, _, _, _, _, _, _, _, by rw [add_at, Int.toNat_natCast]; exact e1, by rw [add_at, add_at, Int.toNat_natCast]; exact e2, by rw [add_at, add_at, Int.toNat_natCast]; exact e3, ?_⟩
        refine (Of_calls' f xs[j] hdj hi (Mod.refl w4) (by omega)).mono ?_
        rintro _ w5 ⟨o5, k5, rfl, F5⟩
        obtain ⟨o6, k6, w6, hr6, F6⟩ := push_bytes (k2 := k5) (ty := 22) (F4.mod' F5.mod) F5.own.bytes (by omega)
        have ew : IntKind.wrap .i64 ((j : Int) + 1) = ((j + 1 : Nat) : Int) := by rw [wrap_i64_small (by omega) (by omega)]; omega
        rw [ew]
        rw [← hej] at F6
        refine ⟨_, _, _, rfl, _, w6, hr6, _, _, _, rfl, ⟨j + 1, rfl, hjl, ?_, ?_⟩, by dsimp only; omega⟩
        · rw [hej, List.length_append]
        · exact F6
      · have := encs_take_le xs j
        omega
      · obtain rfl : j = xs.length := by omega
        rw [List.take_length] at F4 ⊢
        refine (rList_calls F4.own.bytes (by omega)).mono ?_
        rintro _ w5 ⟨o5, k5, rfl, F5⟩
        refine ⟨_, _, _, rfl, hR _ _ ⟨o5, k5, ?_, ?_⟩⟩
        · simp only [enc]
        · simp only [enc]
          exact from1 ⟨F5.own, F4.mod.none_trans F5.mod, fun k hk => Nat.le_trans F4.mod.size (F5.new k hk)⟩
end Go.Proofs.Ytfghidehlnfdiaa
end
section
namespace Go.Proofs.Ytfghidehlnfdiaa
open Go Go.Vcg
abbrev trie_decoded.n : Nat := 88
def trie_decoded.Vc (o0 : Option Addr) (l0 c0 : Nat) (w : World) (R : Ending → World → Prop) : Prop :=
 Calls Try.prog 116 #[(.slice o0 l0 c0)] w (fun e1 w2 =>
 ∃ b3 o4 l5 l6 o7 l8 l9 n10, e1 = .returned (.tuple #[(.agg #[(.bool b3), (.slice o4 l5 l6), (.slice o7 l8 l9)]), (.int .i64 n10)]) ∧
 ∀ d11 w12, IsNew w2 138 #[(.bool false), (.slice none 0 0), (.slice none 0 0)] d11 w12 →
 CanSet w12 d11 (.bool b3) ∧ ∀ w13, IsSet w12 d11 (.bool b3) w13 →
 CanSet w13 (Addr.add d11 1) (.slice o4 l5 l6) ∧ ∀ w14, IsSet w13 (Addr.add d11 1) (.slice o4 l5 l6) w14 →
 CanSet w14 (Addr.add d11 2) (.slice o7 l8 l9) ∧ ∀ w15, IsSet w14 (Addr.add d11 2) (.slice o7 l8 l9) w15 →
 (((n10 ≠ 0 →
 R (.returned (.tuple #[.nilIface, (.int .i64 n10)])) w15)) ∧
 ((n10 = 0 →
 ∃ b16 o17 l18 l19 o20 l21 l22, World.cell? w15 d11 = some (.bool b16) ∧
 World.cell? w15 (Addr.add d11 1) = some (.slice o17 l18 l19) ∧
 World.cell? w15 (Addr.add d11 2) = some (.slice o20 l21 l22) ∧
 Calls Try.prog 117 #[(.agg #[(.bool b16), (.slice o17 l18 l19), (.slice o20 l21 l22)])] w15 (fun e23 w24 =>
 ∃ v25 b26, e23 = .returned (.tuple #[v25, (.bool b26)]) ∧
 (((b26 = false →
 R (.returned (.tuple #[.nilIface, (.int .i64 143)])) w24)) ∧
 ((b26 = true →
 R (.returned (.tuple #[v25, (.int .i64 0)])) w24))))))))
theorem trie_decoded.vc (o0 l0 c0 w R) (h : trie_decoded.Vc o0 l0 c0 w R) : Calls Try.prog 88 #[(.slice o0 l0 c0)] w R := xs [] [.slice o0 l0 c0] Try.func88 mixed (by kernel_rfl) h

abbrev trie_noded.n : Nat := 117
def trie_noded.Vc (b0 : Bool) (o1 : Option Addr) (l1 c1 : Nat) (o2 : Option Addr) (l2 c2 : Nat) (w : World) (R : Ending → World → Prop) : Prop :=
 ∀ d3 w4, IsNew w 138 #[(.bool b0), (.slice o1 l1 c1), (.slice o2 l2 c2)] d3 w4 →
 ∃ b5, World.cell? w4 d3 = some (.bool b5) ∧
 (((b5 = false →
 R (.returned (.tuple #[.nilIface, (.bool false)])) w4)) ∧
 ((b5 = true →
 ∃ o6 l7 l8, World.cell? w4 (Addr.add d3 2) = some (.slice o6 l7 l8) ∧
 (((((l7 : Nat) : Int) = 2 →
 ∀ w9, IsDrew w4 w9 →
 ∃ o10 l11 l12, World.cell? w9 (Addr.add d3 2) = some (.slice o10 l11 l12) ∧
 ∃ d13, o10 = some d13 ∧
 ((0 : Int) ≤ 0 ∧ 0 < ((l11 : Nat) : Int)) ∧
 ∃ b14 o15 l16 l17 o18 l19 l20, World.cell? w9 (Addr.add d13 0) = some (.bool b14) ∧
 World.cell? w9 (Addr.add (Addr.add d13 0) 1) = some (.slice o15 l16 l17) ∧
 World.cell? w9 (Addr.add (Addr.add d13 0) 2) = some (.slice o18 l19 l20) ∧
 ∃ o21 l22 l23, World.cell? w9 (Addr.add d3 2) = some (.slice o21 l22 l23) ∧
 ∃ d24, o21 = some d24 ∧
 ((0 : Int) ≤ 1 ∧ 1 < ((l22 : Nat) : Int)) ∧
 ∃ b25 o26 l27 l28 o29 l30 l31, World.cell? w9 (Addr.add d24 3) = some (.bool b25) ∧
 World.cell? w9 (Addr.add (Addr.add d24 3) 1) = some (.slice o26 l27 l28) ∧
 World.cell? w9 (Addr.add (Addr.add d24 3) 2) = some (.slice o29 l30 l31) ∧
 Calls Try.prog 132 #[(.agg #[(.bool b14), (.slice o15 l16 l17), (.slice o18 l19 l20)]), (.agg #[(.bool b25), (.slice o26 l27 l28), (.slice o29 l30 l31)])] w9 (fun e32 w33 =>
 ∃ v34 b35, e32 = .returned (.tuple #[v34, (.bool b35)]) ∧
 R (.returned (.tuple #[v34, (.bool b35)])) w33))) ∧
 ((((l7 : Nat) : Int) ≠ 2 →
 ∃ o36 l37 l38, World.cell? w4 (Addr.add d3 2) = some (.slice o36 l37 l38) ∧
 (((((l37 : Nat) : Int) = 17 →
 ∃ o39 l40 l41, World.cell? w4 (Addr.add d3 2) = some (.slice o39 l40 l41) ∧
 Calls Try.prog 133 #[(.slice o39 l40 l41)] w4 (fun e42 w43 =>
 ∃ v44 b45, e42 = .returned (.tuple #[v44, (.bool b45)]) ∧
 R (.returned (.tuple #[v44, (.bool b45)])) w43))) ∧
 ((((l37 : Nat) : Int) ≠ 17 →
 R (.returned (.tuple #[.nilIface, (.bool false)])) w4)))))))))
theorem trie_noded.vc (b0 o1 l1 c1 o2 l2 c2 w R) (h : trie_noded.Vc b0 o1 l1 c1 o2 l2 c2 w R) : Calls Try.prog 117 #[(.agg #[(.bool b0), (.slice o1 l1 c1), (.slice o2 l2 c2)])] w R := xs [] [.agg [.bool (.var b0), .slice o1 l1 c1, .slice o2 l2 c2]] Try.func117 mixed (by kernel_rfl) h

abbrev trie_short.n : Nat := 132
def trie_short.Vc (b0 : Bool) (o1 : Option Addr) (l1 c1 : Nat) (o2 : Option Addr) (l2 c2 : Nat) (b3 : Bool) (o4 : Option Addr) (l4 c4 : Nat) (o5 : Option Addr) (l5 c5 : Nat) (w : World) (R : Ending → World → Prop) : Prop :=
 ∀ d6 w7, IsNew w 138 #[(.bool b0), (.slice o1 l1 c1), (.slice o2 l2 c2)] d6 w7 →
 ∀ d8 w9, IsNew w7 138 #[(.bool b3), (.slice o4 l4 c4), (.slice o5 l5 c5)] d8 w9 →
 ∃ b10, World.cell? w9 d6 = some (.bool b10) ∧
 (((b10 = true →
 R (.returned (.tuple #[.nilIface, (.bool false)])) w9)) ∧
 ((b10 = false →
 ∃ o11 l12 l13, World.cell? w9 (Addr.add d6 1) = some (.slice o11 l12 l13) ∧
 Calls Try.prog 42 #[(.slice o11 l12 l13)] w9 (fun e14 w15 =>
 ∃ o16 l17 l18 b19 n20, e14 = .returned (.tuple #[(.slice o16 l17 l18), (.bool b19), (.int .i64 n20)]) ∧
 (((n20 ≠ 0 →
 R (.returned (.tuple #[.nilIface, (.bool false)])) w15)) ∧
 ((n20 = 0 →
 (((b19 = true →
 ∀ w21, IsDrew w15 w21 →
 ∃ o22 l23 l24, World.cell? w21 (Addr.add d8 1) = some (.slice o22 l23 l24) ∧
 ∃ b25, World.cell? w21 d8 = some (.bool b25) ∧
 (((b25 = false →
 ∃ o26 l27 l28, World.cell? w21 (Addr.add d8 1) = some (.slice o26 l27 l28) ∧
 ∀ d29 w30, IsNew w21 177 #[(.slice o16 l17 l18), (.slice o22 l23 l24)] d29 w30 →
 World.cell? w30 (Addr.add d8 1) = some (.slice o26 l27 l28) ∧
 World.cell? w30 d8 = some (.bool b25) ∧
 R (.returned (.tuple #[(.iface 171 (.pointer (some d29))), (.bool (decide (((l27 : Nat) : Int) > 0)))])) w30)) ∧
 ((b25 = true →
 ∀ d31 w32, IsNew w21 177 #[(.slice o16 l17 l18), (.slice o22 l23 l24)] d31 w32 →
 World.cell? w32 d8 = some (.bool b25) ∧
 R (.returned (.tuple #[(.iface 171 (.pointer (some d31))), (.bool false)])) w32))))) ∧
 ((b19 = false →
 (((((l17 : Nat) : Int) = 0 →
 R (.returned (.tuple #[.nilIface, (.bool false)])) w15)) ∧
 ((((l17 : Nat) : Int) ≠ 0 →
 ∃ b33 o34 l35 l36 o37 l38 l39, World.cell? w15 d8 = some (.bool b33) ∧
 World.cell? w15 (Addr.add d8 1) = some (.slice o34 l35 l36) ∧
 World.cell? w15 (Addr.add d8 2) = some (.slice o37 l38 l39) ∧
 Calls Try.prog 140 #[(.agg #[(.bool b33), (.slice o34 l35 l36), (.slice o37 l38 l39)])] w15 (fun e40 w41 =>
 ∃ v42 b43, e40 = .returned (.tuple #[v42, (.bool b43)]) ∧
 Value.oneCell' v42 = true ∧
 ∀ d44 w45, IsNew w41 154 #[(.slice o16 l17 l18), v42] d44 w45 →
 R (.returned (.tuple #[(.iface 152 (.pointer (some d44))), (.bool b43)])) w45))))))))))))))
theorem trie_short.vc (b0 o1 l1 c1 o2 l2 c2 b3 o4 l4 c4 o5 l5 c5 w R) (h : trie_short.Vc b0 o1 l1 c1 o2 l2 c2 b3 o4 l4 c4 o5 l5 c5 w R) : Calls Try.prog 132 #[(.agg #[(.bool b0), (.slice o1 l1 c1), (.slice o2 l2 c2)]), (.agg #[(.bool b3), (.slice o4 l4 c4), (.slice o5 l5 c5)])] w R := xs [] [.agg [.bool (.var b0), .slice o1 l1 c1, .slice o2 l2 c2], .agg [.bool (.var b3), .slice o4 l4 c4, .slice o5 l5 c5]] Try.func132 mixed (by kernel_rfl) h

abbrev trie_branched.n : Nat := 133
def trie_branched.Vc (o0 : Option Addr) (l0 c0 : Nat) (w : World) (R : Ending → World → Prop) : Prop :=
 ∃ d1, o0 = some d1 ∧
 ((0 : Int) ≤ 16 ∧ 16 < ((l0 : Nat) : Int)) ∧
 ∃ b2, World.cell? w (Addr.add d1 48) = some (.bool b2) ∧
 (((b2 = true →
 R (.returned (.tuple #[.nilIface, (.bool false)])) w)) ∧
 ((b2 = false →
 ∃ d3, o0 = some d3 ∧
 ((0 : Int) ≤ 16 ∧ 16 < ((l0 : Nat) : Int)) ∧
 ∃ o4 l5 l6, World.cell? w (Addr.add (Addr.add d3 48) 1) = some (.slice o4 l5 l6) ∧
 ∀ d7 w8, IsNew w 158 (setsAt #[.nilIface, .nilIface, .nilIface, .nilIface, .nilIface, .nilIface, .nilIface, .nilIface, .nilIface, .nilIface, .nilIface, .nilIface, .nilIface, .nilIface, .nilIface, .nilIface, (.slice none 0 0)] 16 [(.slice o4 l5 l6)]) d7 w8 →
 ∃ (J9 : Int → World → Prop), (∃ o10 l11 l12, World.cell? w8 (Addr.add d7 16) = some (.slice o10 l11 l12) ∧
 (((((l11 : Nat) : Int) > 0 →
 J9 1 w8)) ∧
 ((¬ ((l11 : Nat) : Int) > 0 →
 J9 0 w8)))) ∧
 (∀ (n13 : Int) (j14 : Nat → Value) (w14 : World), J9 n13 w14 →
 16 ≤ c0 ∧
 ∃ (I15 : Int → Int → World → Prop) (μ15 : Int → Int → World → Nat), I15 n13 0 w14 ∧
 (∀ (n16 : Int) (n17 : Int) (j18 : Nat → Value) (w18 : World), I15 n16 n17 w18 →
 (((n17 < ((16 : Nat) : Int) →
 ∃ d19, o0 = some d19 ∧
 ((0 : Int) ≤ n17 ∧ n17 < ((16 : Nat) : Int)) ∧
 ∃ b20 o21 l22 l23 o24 l25 l26, World.cell? w18 (Addr.add d19 ((Int.toNat n17) * 3)) = some (.bool b20) ∧
 World.cell? w18 (Addr.add (Addr.add d19 ((Int.toNat n17) * 3)) 1) = some (.slice o21 l22 l23) ∧
 World.cell? w18 (Addr.add (Addr.add d19 ((Int.toNat n17) * 3)) 2) = some (.slice o24 l25 l26) ∧
 ∀ d27 w28, IsNew w18 138 #[(.bool false), (.slice none 0 0), (.slice none 0 0)] d27 w28 →
 CanSet w28 d27 (.bool b20) ∧ ∀ w29, IsSet w28 d27 (.bool b20) w29 →
 CanSet w29 (Addr.add d27 1) (.slice o21 l22 l23) ∧ ∀ w30, IsSet w29 (Addr.add d27 1) (.slice o21 l22 l23) w30 →
 CanSet w30 (Addr.add d27 2) (.slice o24 l25 l26) ∧ ∀ w31, IsSet w30 (Addr.add d27 2) (.slice o24 l25 l26) w31 →
 ∃ (J32 : World → Prop), (∃ b33, World.cell? w31 d27 = some (.bool b33) ∧
 (((b33 = false →
 ∃ o34 l35 l36, World.cell? w31 (Addr.add d27 1) = some (.slice o34 l35 l36) ∧
 (((((l35 : Nat) : Int) = 0 →
 I15 n16 (IntKind.wrap .i64 (n17 + 1)) w31 ∧ μ15 n16 (IntKind.wrap .i64 (n17 + 1)) w31 < μ15 n16 n17 w18)) ∧
 ((((l35 : Nat) : Int) ≠ 0 →
 J32  w31))))) ∧
 ((b33 = true →
 J32  w31)))) ∧
 (∀  (j37 : Nat → Value) (w37 : World), J32  w37 →
 ∃ b38 o39 l40 l41 o42 l43 l44, World.cell? w37 d27 = some (.bool b38) ∧
 World.cell? w37 (Addr.add d27 1) = some (.slice o39 l40 l41) ∧
 World.cell? w37 (Addr.add d27 2) = some (.slice o42 l43 l44) ∧
 Calls Try.prog 140 #[(.agg #[(.bool b38), (.slice o39 l40 l41), (.slice o42 l43 l44)])] w37 (fun e45 w46 =>
 ∃ v47 b48, e45 = .returned (.tuple #[v47, (.bool b48)]) ∧
 (((b48 = false →
 R (.returned (.tuple #[.nilIface, (.bool false)])) w46)) ∧
 ((b48 = true →
 ((0 : Int) ≤ n17 ∧ n17 < ((16 : Nat) : Int)) ∧
 CanSet w46 (Addr.add d7 (Int.toNat n17)) v47 ∧ ∀ w49, IsSet w46 (Addr.add d7 (Int.toNat n17)) v47 w49 →
 I15 (IntKind.wrap .i64 (n16 + 1)) (IntKind.wrap .i64 (n17 + 1)) w49 ∧ μ15 (IntKind.wrap .i64 (n16 + 1)) (IntKind.wrap .i64 (n17 + 1)) w49 < μ15 n16 n17 w18))))))) ∧
 ((¬ n17 < ((16 : Nat) : Int) →
 R (.returned (.tuple #[(.iface 155 (.pointer (some d7))), (.bool (decide (n16 > 1)))])) w18))))))))
theorem trie_branched.vc (o0 l0 c0 w R) (h : trie_branched.Vc o0 l0 c0 w R) : Calls Try.prog 133 #[(.slice o0 l0 c0)] w R := xs [(1000007, [(5, .cell (.int .i64))]), (8, [(5, .cell (.int .i64)), (31, .cell (.int .i64))]), (1000011, [])] [.slice o0 l0 c0] Try.func133 mixed (by kernel_rfl) h

abbrev trie_referred.n : Nat := 140
def trie_referred.Vc (b0 : Bool) (o1 : Option Addr) (l1 c1 : Nat) (o2 : Option Addr) (l2 c2 : Nat) (w : World) (R : Ending → World → Prop) : Prop :=
 ∀ d3 w4, IsNew w 138 #[(.bool b0), (.slice o1 l1 c1), (.slice o2 l2 c2)] d3 w4 →
 ∃ b5, World.cell? w4 d3 = some (.bool b5) ∧
 (((b5 = false →
 ∃ o6 l7 l8, World.cell? w4 (Addr.add d3 1) = some (.slice o6 l7 l8) ∧
 (((((l7 : Nat) : Int) ≠ 32 →
 R (.returned (.tuple #[.nilIface, (.bool false)])) w4)) ∧
 ((((l7 : Nat) : Int) = 32 →
 ∃ o9 l10 l11, World.cell? w4 (Addr.add d3 1) = some (.slice o9 l10 l11) ∧
 32 ≤ l10 ∧
 ∃ d12, o9 = some d12 ∧
 ∃ L13, RowAt w4 d12 32 L13 ∧
 Array.size L13 = 32 ∧
 ∀ d14 w15, IsNew w4 151 (lputL (Array.replicate 32 (.int .u8 0)) 0 32 L13) d14 w15 →
 R (.returned (.tuple #[(.iface 149 (.pointer (some d14))), (.bool true)])) w15))))) ∧
 ((b5 = true →
 ∃ b16 o17 l18 l19 o20 l21 l22, World.cell? w4 d3 = some (.bool b16) ∧
 World.cell? w4 (Addr.add d3 1) = some (.slice o17 l18 l19) ∧
 World.cell? w4 (Addr.add d3 2) = some (.slice o20 l21 l22) ∧
 Calls Try.prog 119 #[(.agg #[(.bool b16), (.slice o17 l18 l19), (.slice o20 l21 l22)])] w4 (fun e23 w24 =>
 ∃ o25 l26 l27 n28, e23 = .returned (.tuple #[(.slice o25 l26 l27), (.int .i64 n28)]) ∧
 (((n28 ≠ 0 →
 R (.returned (.tuple #[.nilIface, (.bool false)])) w24)) ∧
 ((n28 = 0 →
 (((((l26 : Nat) : Int) ≥ 32 →
 R (.returned (.tuple #[.nilIface, (.bool false)])) w24)) ∧
 ((¬ ((l26 : Nat) : Int) ≥ 32 →
 ∃ b29 o30 l31 l32 o33 l34 l35, World.cell? w24 d3 = some (.bool b29) ∧
 World.cell? w24 (Addr.add d3 1) = some (.slice o30 l31 l32) ∧
 World.cell? w24 (Addr.add d3 2) = some (.slice o33 l34 l35) ∧
 Calls Try.prog 117 #[(.agg #[(.bool b29), (.slice o30 l31 l32), (.slice o33 l34 l35)])] w24 (fun e36 w37 =>
 ∃ v38 b39, e36 = .returned (.tuple #[v38, (.bool b39)]) ∧
 R (.returned (.tuple #[v38, (.bool b39)])) w37)))))))))))
theorem trie_referred.vc (b0 o1 l1 c1 o2 l2 c2 w R) (h : trie_referred.Vc b0 o1 l1 c1 o2 l2 c2 w R) : Calls Try.prog 140 #[(.agg #[(.bool b0), (.slice o1 l1 c1), (.slice o2 l2 c2)])] w R := xs [] [.agg [.bool (.var b0), .slice o1 l1 c1, .slice o2 l2 c2]] Try.func140 mixed (by kernel_rfl) h

abbrev trie_Check.n : Nat := 48
def trie_Check.Vc (o0 : Option Addr) (l0 c0 : Nat) (w : World) (R : Ending → World → Prop) : Prop :=
 Calls Try.prog 88 #[(.slice o0 l0 c0)] w (fun e1 w2 =>
 ∃ v3 n4, e1 = .returned (.tuple #[v3, (.int .i64 n4)]) ∧
 R (.returned (.int .i64 n4)) w2)
theorem trie_Check.vc (o0 l0 c0 w R) (h : trie_Check.Vc o0 l0 c0 w R) : Calls Try.prog 48 #[(.slice o0 l0 c0)] w R := xs [] [.slice o0 l0 c0] Try.func48 mixed (by kernel_rfl) h



end Go.Proofs.Ytfghidehlnfdiaa
end
section
namespace Go.Trie
def isE : It → Bool
  | .s [] => true
  | _ => false
def valIs : It → Bool
  | .s (_ :: _) => true
  | _ => false
end Go.Trie
namespace Go.Proofs.Ytfghidehlnfdiaa
open Go Go.Vcg Go.Trie
def headIs : It → Option (By × Bool)
  | .s p => unpack p
  | .l _ => none
def nodeN : Nat → List It → Bool
  | 0, _ => false
  | f + 1, xs =>
    let ref : It → Bool := fun x => match x with
      | .s b => decide (b.length = 32)
      | .l ys => decide ((enc (.l ys)).length < 32) && nodeN f ys
    if xs.length = 2 then
      match headIs (xs.getD 0 (.s [])) with
      | none => false
      | some (_, true) => valIs (xs.getD 1 (.s []))
      | some (p, false) => decide (p ≠ []) && ref (xs.getD 1 (.s []))
    else if xs.length = 17 then
      match xs.getD 16 (.s []) with
      | .l _ => false
      | .s v => (xs.take 16).all (fun x => isE x || ref x) && decide (2 ≤ (if v = [] then 0 else 1) + ((xs.take 16).filter (fun x => !isE x)).length)
    else false
def refN (f : Nat) (x : It) : Bool := match x with
  | .s b => decide (b.length = 32)
  | .l ys => decide ((enc (.l ys)).length < 32) && nodeN f ys
def isN (f : Nat) (x : It) : Bool := match x with
  | .s _ => false
  | .l xs => nodeN f xs
theorem nodeN_two {f : Nat} {xs : List It} (h : xs.length = 2) : nodeN (f + 1) xs = (match headIs (xs.getD 0 (.s [])) with
      | none => false
      | some (_, true) => valIs (xs.getD 1 (.s []))
      | some (p, false) => decide (p ≠ []) && refN f (xs.getD 1 (.s []))) := by
  simp only [nodeN]; rw [if_pos h]; rfl
theorem nodeN_many {f : Nat} {xs : List It} (h : xs.length = 17) : nodeN (f + 1) xs = (match xs.getD 16 (.s []) with
      | .l _ => false
      | .s v => (xs.take 16).all (fun x => isE x || refN f x) && decide (2 ≤ (if v = [] then 0 else 1) + ((xs.take 16).filter (fun x => !isE x)).length)) := by
  simp only [nodeN]; rw [if_neg (by omega), if_pos h]; rfl
theorem nodeN_no {f : Nat} {xs : List It} (h : xs.length ≠ 2) (h' : xs.length ≠ 17) : nodeN (f + 1) xs = false := by
  simp only [nodeN]; rw [if_neg h, if_neg h']
def RV (N : Nat) : Nat → World → It → Value → Prop
  | _, w, .s b, v => (b = [] ∧ v = .nilIface) ∨ (b.length = 32 ∧ ∃ D, N ≤ D ∧ v = .iface 149 (.pointer (some ⟨D, 0, none⟩)) ∧ Blk w D 151 (hashA b))
  | 0, _, .l _, _ => False
  | f + 1, w, .l xs, v =>
    (xs.length = 2 ∧ (∃ p, headIs (xs.getD 0 (.s [])) = some (p, true)) ∧ ∃ d : Addr, v = .iface 171 (.pointer (some d))) ∨
    (xs.length = 2 ∧ (∃ p, headIs (xs.getD 0 (.s [])) = some (p, false)) ∧ ∃ D s vc, N ≤ D ∧ v = .iface 152 (.pointer (some ⟨D, 0, none⟩)) ∧ Blk w D 154 #[s, vc] ∧ RV N f w (xs.getD 1 (.s [])) vc) ∨
    (xs.length = 17 ∧ ∃ D vs ov lv kv, N ≤ D ∧ v = .iface 155 (.pointer (some ⟨D, 0, none⟩)) ∧ Blk w D 158 (brA vs ov lv kv) ∧ ∀ i : Fin 16, RV N f w (xs.getD i.val (.s [])) (vs i))
theorem RV.modS {S : Nat → Prop} {N N' : Nat} {w w' : World} (M : Vcg.Mod S w w') (hS : ∀ b, S b → b < N) (hN : N' ≤ N) : ∀ {f : Nat} {x : It} {v : Value}, RV N f w x v → RV N' f w' x v
  | f, .s b, v, h => by
    simp only [RV] at h ⊢
    rcases h with h | ⟨h1, D, h0, h2, h3⟩
    · exact .inl h
    · exact .inr ⟨h1, D, by omega, h2, h3.mod M (fun h => by have := hS _ h; omega)⟩
  | 0, .l _, _, h => by simp only [RV] at h
  | f + 1, .l xs, v, h => by
    simp only [RV] at h ⊢
    rcases h with h | ⟨h1, h2, D, s, vc, h0, h3, h4, h5⟩ | ⟨h1, D, vs, ov, lv, kv, h0, h2, h3, h4⟩
    · exact .inl h
    · exact .inr (.inl ⟨h1, h2, D, s, vc, by omega, h3, h4.mod M (fun h => by have := hS _ h; omega), RV.modS M hS hN h5⟩)
    · exact .inr (.inr ⟨h1, D, vs, ov, lv, kv, by omega, h2, h3.mod M (fun h => by have := hS _ h; omega), fun i => RV.modS M hS hN (h4 i)⟩)
theorem RV.mod' {N N' : Nat} {w w' : World} (M : Vcg.Mod NoB w w') (hN : N' ≤ N) {f : Nat} {x : It} {v : Value} (h : RV N f w x v) : RV N' f w' x v := RV.modS M (fun _ h => h.elim) hN h
def Fine (x : It) : Prop := dep x ≤ 16 ∧ count x ≤ 4096 ∧ (enc x).length ≤ 65536
theorem Fine.mem {xs : List It} (h : Fine (.l xs)) {x : It} (hx : x ∈ xs) : Fine x := by
  obtain ⟨h1, h2, h3⟩ := h
  have hd := dep_mem hx
  have he := enc_mem hx
  have hc : count x ≤ counts xs := by
    clear h1 h2 h3 hd he
    induction xs with
    | nil => cases hx
    | cons y r ih =>
      simp only [counts]
      rcases List.mem_cons.1 hx with rfl | hx
      · omega
      · have := ih hx; omega
  have hl : 1 ≤ xs.length := List.length_pos_iff.2 (List.ne_nil_of_mem hx)
  simp only [dep] at h1
  simp only [count] at h2
  simp only [enc, List.length_append] at h3
  exact ⟨by omega, by omega, by omega⟩
def NodedAt (f : Nat) : Prop := ∀ (x : It) {A : Nat → Prop} {w : World} {v1 v2 v3 : Value}, dep x ≤ f → Fine x → ItC A w x v1 v2 v3 →
  Calls Try.prog trie_noded.n #[.agg #[v1, v2, v3]] w (fun e w' => ∃ v, e = .returned (.tuple #[v, .bool (isN f x)]) ∧ Vcg.Mod NoB w w' ∧ v.oneCell' = true ∧ (isN f x = true → RV w.heap.size f w' x v))
def ReferAt (f : Nat) : Prop := ∀ (x : It) {A : Nat → Prop} {w : World} {v1 v2 v3 : Value}, dep x ≤ f → Fine x → ItC A w x v1 v2 v3 →
  Calls Try.prog trie_referred.n #[.agg #[v1, v2, v3]] w (fun e w' => ∃ v, e = .returned (.tuple #[v, .bool (refN f x)]) ∧ Vcg.Mod NoB w w' ∧ v.oneCell' = true ∧ (refN f x = true → RV w.heap.size f w' x v))
theorem lput_all {Z L : Array Value} (hZ : Z.size = 32) (hL : L.size = 32) : lputL Z 0 32 L = L := by
  unfold lputL
  have ht : L.toList.take 32 = L.toList := List.take_of_length_le (by simp [hL])
  rw [ht]
  apply Array.ext_getElem?
  intro i
  rw [get_setsAt _ _ _ _ (by simp [hL, hZ])]
  by_cases hi : i < 32
  · rw [if_pos ⟨Nat.zero_le _, by simp [hL]; exact hi⟩, Nat.sub_zero, Array.getElem?_toList]
  · rw [if_neg (by simp [hL]; omega), Array.getElem?_eq_none (by omega), Array.getElem?_eq_none (by omega)]
theorem refer_of {f : Nat} (hN : NodedAt f) : ReferAt f := by
  intro x A w v1 v2 v3 hdp hf hx
  obtain ⟨b, o1, l1, c1, o2, l2, c2, rfl, rfl, rfl⟩ := hx.vals
  refine calls_gen fun R hR => trie_referred.vc _ _ _ _ _ _ _ _ _ ?_
  unfold trie_referred.Vc
  rintro d3 w1 ⟨rfl, rfl⟩
  have M1 : Vcg.Mod NoB w _ := Mod.alloc w (.cells #[.bool b, .slice o1 l1 c1, .slice o2 l2 c2] 138)
  have X1 := Blk.new w 138 #[.bool b, .slice o1 l1 c1, .slice o2 l2 c2]
  generalize w.alloc (.cells #[.bool b, .slice o1 l1 c1, .slice o2 l2 c2] 138) = w1 at *
  have hx1 := ItC.mod M1 _ hx
  cases x with
  | s bs =>
    have hx1' := hx1
    simp only [ItC] at hx1
    obtain ⟨h1, ⟨o, c, h2, h3, h4⟩, h5⟩ := hx1
    cases h1; cases h2; cases h5
    refine ⟨_, X1.rd1 rfl, fun _ => ⟨_, _, _, by rw [add_at]; exact X1.rd1 rfl, fun hn => ?_, fun hn => ⟨_, _, _, by rw [add_at]; exact X1.rd1 rfl, by omega, ?_⟩⟩, fun h => (by cases h)⟩
    · refine hR _ _ ⟨.nilIface, ?_, M1, rfl, fun h => ?_⟩
      · simp only [refN]; rw [decide_eq_false (by omega)]
      · simp only [refN, decide_eq_true_eq] at h; omega
    · obtain ⟨g, f0, rfl, hg, hc⟩ := h3 (by rintro rfl; simp at hn)
      refine ⟨_, rfl, hashA bs, ⟨size_hashA bs, fun i hi => ?_⟩, size_hashA bs, ?_⟩
      · rw [add_at, hc i (by omega)]
        simp only [hashA]
        exact (get_arrOf_lt (f := fun i => bV (bs.getD i 0)) hi).symm
      · rw [lput_all (by simp) (size_hashA bs)]
        rintro d4 w2 ⟨rfl, rfl⟩
        refine hR _ _ ⟨.iface 149 (.pointer (some ⟨w1.heap.size, 0, none⟩)), ?_, M1.step_alloc _, rfl, fun _ => ?_⟩
        · simp only [refN]; rw [decide_eq_true (by omega)]
        · simp only [RV]
          exact .inr ⟨by omega, _, M1.size, rfl, Blk.new w1 151 (hashA bs)⟩
  | l xs =>
    have hx1' := hx1
    simp only [ItC] at hx1
    obtain ⟨h1, h2, o, c, h3, h4, hcap⟩ := hx1
    cases h1; cases h2; cases h3
    refine ⟨_, X1.rd1 rfl, fun h => (by cases h), fun _ => get3 X1 ?_⟩
    refine (Encode_calls hx1' hf.1 hf.2.1 hf.2.2).mono ?_
    rintro _ w2 ⟨o', k', rfl, F⟩
    have M02 := M1.none_trans F.mod
    have X2 := X1.mod' F.mod
    refine ⟨_, _, _, _, rfl, fun h => (h rfl).elim, fun _ => ⟨fun hge => ?_, fun hlt => get3 X2 ?_⟩⟩
    · refine hR _ _ ⟨.nilIface, ?_, M02, rfl, fun h => ?_⟩
      · simp only [refN]; rw [decide_eq_false (by omega)]; rfl
      · simp only [refN, Bool.and_eq_true, decide_eq_true_eq] at h; omega
    · refine (hN (.l xs) hdp hf (ItC.mod F.mod _ hx1')).mono ?_
      rintro _ w3 ⟨v, rfl, M3, hv, hrv⟩
      have e : refN f (.l xs) = isN f (.l xs) := by
        simp only [refN, isN]; rw [decide_eq_true (by omega)]; rfl
      exact ⟨_, _, rfl, hR _ _ ⟨v, by rw [e], M02.none_trans M3, hv, fun h => RV.mod' (Mod.refl _) M02.size (hrv (by rw [← e]; exact h))⟩⟩
theorem short_calls {f : Nat} (hRf : ReferAt f) {x y : It} {A : Nat → Prop} {w : World} {v1 v2 v3 u1 u2 u3 : Value} (hdy : dep y ≤ f) (hfx : Fine x) (hfy : Fine y) (hx : ItC A w x v1 v2 v3) (hy : ItC A w y u1 u2 u3) :
    Calls Try.prog trie_short.n #[.agg #[v1, v2, v3], .agg #[u1, u2, u3]] w (fun e w' => ∃ v, e = .returned (.tuple #[v, .bool (nodeN (f + 1) [x, y])]) ∧ Vcg.Mod NoB w w' ∧ v.oneCell' = true ∧ (nodeN (f + 1) [x, y] = true → RV w.heap.size (f + 1) w' (.l [x, y]) v)) := by
  obtain ⟨b, o1, l1, c1, o2, l2, c2, rfl, rfl, rfl⟩ := hx.vals
  obtain ⟨b', p1, q1, r1, p2, q2, r2, rfl, rfl, rfl⟩ := hy.vals
  refine calls_gen fun R hR => trie_short.vc _ _ _ _ _ _ _ _ _ _ _ _ _ _ _ _ ?_
  unfold trie_short.Vc
  have hnode : nodeN (f + 1) [x, y] = (match headIs x with
      | none => false
      | some (_, true) => valIs y
      | some (p, false) => decide (p ≠ []) && refN f y) := nodeN_two rfl
  rintro d6 w1 ⟨rfl, rfl⟩
  have M1 : Vcg.Mod NoB w _ := Mod.alloc w (.cells #[.bool b, .slice o1 l1 c1, .slice o2 l2 c2] 138)
  have X1 := Blk.new w 138 #[.bool b, .slice o1 l1 c1, .slice o2 l2 c2]
  generalize w.alloc (.cells #[.bool b, .slice o1 l1 c1, .slice o2 l2 c2] 138) = w1 at *
  rintro d8 w2 ⟨rfl, rfl⟩
  have M12 : Vcg.Mod NoB w1 _ := Mod.alloc w1 (.cells #[.bool b', .slice p1 q1 r1, .slice p2 q2 r2] 138)
  have Y2 := Blk.new w1 138 #[.bool b', .slice p1 q1 r1, .slice p2 q2 r2]
  have X2 := X1.mod' M12
  have M2 := M1.none_trans M12
  generalize w1.heap.size = N' at *
  generalize w1.alloc (.cells #[.bool b', .slice p1 q1 r1, .slice p2 q2 r2] 138) = w2 at *
  have hx2 := ItC.mod M2 _ hx
  have hy2 := ItC.mod M2 _ hy
  have no : ∀ w', headIs x = none → Vcg.Mod NoB w w' → R (.returned (.tuple #[.nilIface, .bool false])) w' := fun w' h M => by
    rw [h] at hnode
    exact hR _ _ ⟨.nilIface, by rw [hnode], M, rfl, fun h => by rw [hnode] at h; cases h⟩
  refine ⟨_, X2.rd1 rfl, fun hb => no _ ?_ M2, fun hb => ⟨_, _, _, by rw [add_at]; exact X2.rd1 rfl, ?_⟩⟩
  · cases x with
    | s bs => simp only [ItC] at hx2; cases hx2.1; cases hb
    | l xs => rfl
  cases x with
  | l xs => simp only [ItC] at hx2; cases hx2.1; cases hb
  | s bs =>
    simp only [ItC] at hx2
    obtain ⟨h1, ⟨o, c, h2, h3, h4⟩, h5⟩ := hx2
    cases h1; cases h2; cases h5
    have hbl : bs.length ≤ 2 ^ 20 := by
      have : bs.length ≤ (enc (.s bs)).length := by
        simp only [enc]
        split
        · exact Nat.le_refl _
        · rw [List.length_append]; omega
      have := hfx.2.2
      omega
    simp only [headIs] at hnode no
    refine (Unpack_calls h3 hbl).mono ?_
    rintro _ w3 ⟨o', k', rfl, M3, R3, _⟩
    have M03 := M2.none_trans M3
    have Y3 := Y2.mod' M3
    have hy3 := ItC.mod M3 _ hy2
    cases hu : unpack bs with
    | none =>
      have e : upk bs = ([], false, 143) := by unfold upk; rw [hu]
      rw [e]
      exact ⟨_, _, _, _, _, rfl, fun _ => no _ hu M03, fun h => absurd h (by decide)⟩
    | some r =>
      obtain ⟨p, lf⟩ := r
      have e : upk bs = (p, lf, 0) := by unfold upk; rw [hu]
      rw [e]
      rw [hu] at hnode
      refine ⟨_, _, _, _, _, rfl, fun h => (h rfl).elim, fun _ => ⟨fun hlf => ?_, fun hlf => ?_⟩⟩
      · subst hlf
        simp only at hnode
        rintro _ rfl
        have M4 : Vcg.Mod NoB w3 w3.drew := Mod.drew w3
        have Y4 := Y3.mod' M4
        have M04 := M03.none_trans M4
        generalize w3.drew = w4 at *
        have hrv : ∀ (w' : World) (d : Addr), RV w.heap.size (f + 1) w' (.l [.s bs, y]) (.iface 171 (.pointer (some d))) := fun w' d => by
          simp only [RV]
          exact .inl ⟨rfl, ⟨p, hu⟩, d, rfl⟩
        cases y with
        | s vs =>
          simp only [ItC] at hy3
          obtain ⟨h1, ⟨oy, cy, h2, h3', h4'⟩, h5⟩ := hy3
          cases h1; cases h2; cases h5
          refine ⟨_, _, _, by rw [add_at]; exact Y4.rd1 rfl, _, Y4.rd1 rfl, fun _ => ⟨_, _, _, by rw [add_at]; exact Y4.rd1 rfl, ?_⟩, fun h => (by cases h)⟩
          rintro d5 w5 ⟨rfl, rfl⟩
          refine ⟨by rw [add_at]; exact (Y4.mod' (Mod.alloc w4 _)).rd1 rfl, (Y4.mod' (Mod.alloc w4 _)).rd1 rfl, hR _ _ ⟨.iface 171 (.pointer (some ⟨w4.heap.size, 0, none⟩)), ?_, M04.none_trans (Mod.alloc w4 _), rfl, fun _ => hrv _ _⟩⟩
          rw [hnode]
          cases vs with
          | nil => rfl
          | cons a r => rw [decide_eq_true (by simp only [List.length_cons]; omega)]; rfl
        | l ys =>
          simp only [ItC] at hy3
          obtain ⟨h1, h2, oy, cy, h3', h4', _⟩ := hy3
          cases h1; cases h2; cases h3'
          refine ⟨_, _, _, by rw [add_at]; exact Y4.rd1 rfl, _, Y4.rd1 rfl, fun h => (by cases h), fun _ => ?_⟩
          rintro d5 w5 ⟨rfl, rfl⟩
          refine ⟨(Y4.mod' (Mod.alloc w4 _)).rd1 rfl, hR _ _ ⟨.iface 171 (.pointer (some ⟨w4.heap.size, 0, none⟩)), ?_, M04.none_trans (Mod.alloc w4 _), rfl, fun _ => hrv _ _⟩⟩
          rw [hnode]; rfl
      · subst hlf
        simp only at hnode
        refine ⟨fun hz => ?_, fun hz => get3 Y3 ?_⟩
        · have hp : p = [] := List.eq_nil_of_length_eq_zero (by dsimp only at hz; omega)
          rw [hp] at hnode
          simp only [ne_eq, not_true_eq_false, decide_false, Bool.false_and] at hnode
          exact hR _ _ ⟨.nilIface, by rw [hnode], M03, rfl, fun h => by rw [hnode] at h; cases h⟩
        · have hp : p ≠ [] := by rintro rfl; simp at hz
          rw [decide_eq_true hp, Bool.true_and] at hnode
          refine (hRf y hdy hfy hy3).mono ?_
          rintro _ w4 ⟨v, rfl, M4, hv, hrv⟩
          refine ⟨_, _, rfl, hv, ?_⟩
          rintro d5 w5 ⟨rfl, rfl⟩
          have M5 : Vcg.Mod NoB w4 _ := Mod.alloc w4 (.cells #[.slice o' p.length k', v] 154)
          refine hR _ _ ⟨.iface 152 (.pointer (some ⟨w4.heap.size, 0, none⟩)), by rw [hnode], (M03.none_trans M4).none_trans M5, rfl, fun h => ?_⟩
          rw [hnode] at h
          simp only [RV]
          exact .inr (.inl ⟨rfl, ⟨p, hu⟩, _, _, v, (M03.none_trans M4).size, rfl, Blk.new w4 154 _, RV.mod' M5 M03.size (hrv h)⟩)
end Go.Proofs.Ytfghidehlnfdiaa
end
section
namespace Go.Proofs.Ytfghidehlnfdiaa
open Go Go.Vcg Go.Trie
theorem getD_at {xs : List It} {j : Nat} (h : j < xs.length) : xs.getD j (.s []) = xs[j] := by
  rw [List.getD_eq_getElem?_getD, List.getElem?_eq_getElem h]; rfl
theorem branched_calls {f : Nat} (hRf : ReferAt f) {xs : List It} {A : Nat → Prop} {w : World} {o : Option Addr} {c : Nat} (h17 : xs.length = 17) (hd : ∀ x ∈ xs, dep x ≤ f) (hf : ∀ x ∈ xs, Fine x) (hx : ItsC A w xs o 0) (hc : xs.length ≤ c) :
    Calls Try.prog trie_branched.n #[.slice o xs.length c] w (fun e w' => ∃ v, e = .returned (.tuple #[v, .bool (nodeN (f + 1) xs)]) ∧ Vcg.Mod NoB w w' ∧ v.oneCell' = true ∧ (nodeN (f + 1) xs = true → RV w.heap.size (f + 1) w' (.l xs) v)) := by
  refine calls_gen fun R hR => trie_branched.vc _ _ _ _ _ ?_
  unfold trie_branched.Vc
  have hnode := nodeN_many (f := f) h17
  rw [getD_at (by omega)] at hnode
  obtain ⟨g, f0, v1, v2, v3, rfl, hg, e1, e2, e3, hi⟩ := hx.get 16 (by omega)
  have at16 := hi
  refine ⟨_, rfl, ⟨by omega, by omega⟩, ?_⟩
  generalize hx16 : xs[16] = x16 at *
  cases x16 with
  | l ys =>
    simp only [ItC] at hi
    obtain ⟨rfl, _⟩ := hi
    refine ⟨true, by rw [add_at]; exact e1, fun _ => hR _ _ ⟨.nilIface, by rw [hnode], Mod.refl w, rfl, fun h => by rw [hnode] at h; cases h⟩, fun h => (by cases h)⟩
  | s v =>
    simp only [ItC] at hi
    obtain ⟨rfl, ⟨ov, cv, rfl, hv, _⟩, rfl⟩ := hi
    refine ⟨false, by rw [add_at]; exact e1, fun h => (by cases h), fun _ => ⟨_, rfl, ⟨by omega, by omega⟩, _, _, _, by rw [add_at, add_at]; exact e2, ?_⟩⟩
    simp only at hnode
    rintro d7 w1 ⟨rfl, rfl⟩
    have hZ : setsAt #[.nilIface, .nilIface, .nilIface, .nilIface, .nilIface, .nilIface, .nilIface, .nilIface, .nilIface, .nilIface, .nilIface, .nilIface, .nilIface, .nilIface, .nilIface, .nilIface, (.slice none 0 0)] 16 [(.slice ov v.length cv)] = brA (fun _ => .nilIface) ov v.length cv := rfl
    rw [hZ]
    have M1 : Vcg.Mod NoB w _ := Mod.alloc w (.cells (brA (fun _ => .nilIface) ov v.length cv) 158)
    have B1 := Blk.new w 158 (brA (fun _ => .nilIface) ov v.length cv)
    have hs1 := size_alloc w (.cells (brA (fun _ => .nilIface) ov v.length cv) 158)
    generalize hN : w.heap.size = N at *
    generalize w.alloc (.cells (brA (fun _ => .nilIface) ov v.length cv) 158) = w1 at *
    generalize hbase : (if v = [] then 0 else 1) = base at *
    refine ⟨fun n w' => w' = w1 ∧ n = (base : Int), ⟨_, _, _, by rw [add_at, Nat.zero_add]; exact B1.rd1 (brA_val _ _ _ _), fun h => ⟨rfl, ?_⟩, fun h => ⟨rfl, ?_⟩⟩, ?_⟩
    · rw [← hbase, if_neg (by rintro rfl; simp at h)]; rfl
    · rw [← hbase, if_pos (List.eq_nil_of_length_eq_zero (by omega))]; rfl
    rintro _ _ w1 ⟨rfl, rfl⟩
    have hb1 : base ≤ 1 := by rw [← hbase]; split <;> omega
    refine ⟨by omega, fun n i w' => ∃ (j : Nat) (vs : Fin 16 → Value), i = (j : Int) ∧ j ≤ 16 ∧ n = ((base + ((xs.take j).filter (fun x => !isE x)).length : Nat) : Int) ∧ (xs.take j).all (fun x => isE x || refN f x) = true ∧ Vcg.Mod NoB w w' ∧ w1.heap.size ≤ w'.heap.size ∧ Blk w' N 158 (brA vs ov v.length cv) ∧ (∀ q : Fin 16, q.val < j → RV w1.heap.size f w' (xs.getD q.val (.s [])) (vs q)) ∧ (∀ q : Fin 16, j ≤ q.val → vs q = .nilIface), fun _ i _ => ((16 : Int) - i).toNat, ⟨0, fun _ => .nilIface, rfl, Nat.zero_le _, by simp, by simp, M1, Nat.le_refl _, B1, fun q h => absurd h (by omega), fun _ _ => rfl⟩, ?_⟩
    rintro _ _ _ w2 ⟨j, vs, rfl, hj, rfl, hall, M2, hs2, B2, hdone, hrest⟩
    have ew : IntKind.wrap .i64 ((j : Int) + 1) = ((j + 1 : Nat) : Int) := by rw [wrap_i64_small (by omega) (by omega)]; omega
    have hcl : ((xs.take j).filter (fun x => !isE x)).length ≤ 16 := Nat.le_trans (List.length_filter_le _ _) (by rw [List.length_take]; omega)
    refine ⟨fun hlt => ?_, fun hge => ?_⟩
    · have hjl : j < xs.length := by omega
      have hj16 : j < 16 := by omega
      obtain ⟨g', f', u1, u2, u3, ho, hg', d1, d2, d3, hij⟩ := (ItsC.mod M2 _ hx).get j hjl
      cases ho
      rw [Nat.zero_add] at d1 d2 d3
      obtain ⟨b, p1, q1, r1, p2, q2, r2, rfl, rfl, rfl⟩ := hij.vals
      refine ⟨_, rfl, ⟨by omega, by omega⟩, _, _, _, _, _, _, _, by rw [add_at, Int.toNat_natCast]; exact d1, by rw [add_at, add_at, Int.toNat_natCast]; exact d2, by rw [add_at, add_at, Int.toNat_natCast]; exact d3, ?_⟩
      rintro d27 w3 ⟨rfl, rfl⟩
      have H := Blk.new w2 138 #[.bool false, .slice none 0 0, .slice none 0 0]
      have M23 : Vcg.Mod NoB w2 _ := Mod.alloc w2 (.cells #[.bool false, .slice none 0 0, .slice none 0 0] 138)
      refine set3 H rfl rfl rfl (fun w4 H4 Q4 => ?_)
      have M24 : Vcg.Mod NoB w2 w4 := mod_of M23 Q4 (Nat.le_refl _)
      have M4 := M2.none_trans M24
      have B4 := B2.mod' M24
      have hij4 := ItC.mod M24 _ hij
      have hs4 := M24.size
      have hdone4 : ∀ q : Fin 16, q.val < j → RV w1.heap.size f w4 (xs.getD q.val (.s [])) (vs q) := fun q hq => RV.mod' M24 (Nat.le_refl _) (hdone q hq)
      generalize w2.heap.size = HH at *
      clear M23 Q4 H M24 B2 hij hdone
      have htk : xs.take (j + 1) = xs.take j ++ [xs[j]] := List.take_succ_eq_append_getElem hjl
      refine ⟨fun w' => w' = w4 ∧ isE xs[j] = false, ⟨_, H4.rd1 rfl, fun hb => ⟨_, _, _, by rw [add_at]; exact H4.rd1 rfl, fun hz => ?_, fun hz => ⟨rfl, ?_⟩⟩, fun hb => ⟨rfl, ?_⟩⟩, ?_⟩
      · -- nothing there
        have he : xs[j] = .s [] := by
          cases hq : xs[j] with
          | l ys => rw [hq] at hij4; simp only [ItC] at hij4; cases hij4.1; cases hb
          | s bs =>
            rw [hq] at hij4
            simp only [ItC] at hij4
            obtain ⟨_, ⟨oo, cc, h2, _⟩, _⟩ := hij4
            cases h2
            rw [List.eq_nil_of_length_eq_zero (by omega : bs.length = 0)]
        rw [ew]
        refine ⟨⟨j + 1, vs, rfl, hj16, ?_, ?_, M4, by omega, B4, fun q hq => ?_, fun q hq => hrest q (by omega)⟩, by dsimp only; omega⟩
        · rw [htk, List.filter_append, he]; simp [isE]
        · rw [htk, List.all_append, hall, he]; simp [isE]
        · by_cases hqj : q.val < j
          · exact hdone4 q hqj
          · have hqe : q.val = j := by omega
            rw [hqe, getD_at hjl, he, hrest q (by omega)]
            simp only [RV]
            exact .inl ⟨trivial, trivial⟩
      · cases hq : xs[j] with
        | l ys => rfl
        | s bs =>
          rw [hq] at hij4
          simp only [ItC] at hij4
          obtain ⟨_, ⟨oo, cc, h2, _⟩, _⟩ := hij4
          cases h2
          cases bs with
          | nil => simp at hz
          | cons a r => rfl
      · cases hq : xs[j] with
        | l ys => rfl
        | s bs =>
          rw [hq] at hij4
          simp only [ItC] at hij4
          cases hij4.1; cases hb
      · rintro _ w4 ⟨rfl, hne⟩
        refine get3 H4 ?_
        refine (hRf xs[j] (hd _ (List.getElem_mem hjl)) (hf _ (List.getElem_mem hjl)) hij4).mono ?_
        rintro _ w5 ⟨u, rfl, M5, hu, hru⟩
        have M05 := M4.none_trans M5
        have B5 := B4.mod' M5
        have hs5 := M5.size
        refine ⟨_, _, rfl, fun hb => ?_, fun hb => ⟨⟨by omega, by omega⟩, ?_⟩⟩
        · have hfalse : nodeN (f + 1) xs = false := by
            rw [hnode]
            have : (xs.take 16).all (fun x => isE x || refN f x) = false := by
              rw [List.all_eq_false]
              refine ⟨xs[j], ?_, by rw [hne, hb]; decide⟩
              rw [List.mem_take_iff_getElem]
              exact ⟨j, by omega, rfl⟩
            rw [this, Bool.false_and]
          exact hR _ _ ⟨.nilIface, by rw [hfalse], M05, rfl, fun h => by rw [hfalse] at h; cases h⟩
        · rw [add_at, Nat.zero_add, Int.toNat_natCast]
          refine ⟨B5.canSet (by rw [brA_size]; omega) hu, ?_⟩
          rintro _ rfl
          have Q6 : Vcg.Mod (· = N) w5 _ := Mod.setCell w5 ⟨N, j, none⟩ u
          have B6 := B5.set j u
          rw [brA_set _ _ _ _ _ hj16] at B6
          have M06 : Vcg.Mod NoB w _ := mod_of M05 Q6 (by omega)
          have en : IntKind.wrap .i64 (((base + ((xs.take j).filter (fun x => !isE x)).length : Nat) : Int) + 1) = ((base + ((xs.take (j + 1)).filter (fun x => !isE x)).length : Nat) : Int) := by
            rw [wrap_i64_small (by omega) (by omega), htk, List.filter_append, List.length_append]
            simp only [List.filter_cons, hne, Bool.not_false, if_true, List.filter_nil, List.length_singleton]
            omega
          rw [ew, en]
          refine ⟨⟨j + 1, updV vs j u, rfl, hj16, rfl, ?_, M06, by rw [size_setCell]; omega, B6, fun q hq => ?_, fun q hq => ?_⟩, by dsimp only; omega⟩
          · rw [htk, List.all_append, hall]
            simp only [List.all_cons, List.all_nil, hb, Bool.or_true, Bool.and_self, Bool.and_true]
          · unfold updV
            by_cases hqj : q.val = j
            · rw [if_pos hqj, hqj, getD_at hjl]
              exact RV.modS Q6 (fun b h => by omega) (by omega) (hru hb)
            · rw [if_neg hqj]
              exact RV.modS Q6 (fun b h => by omega) (Nat.le_refl _) (RV.mod' M5 (Nat.le_refl _) (hdone4 q (by omega)))
          · unfold updV
            rw [if_neg (by omega)]
            exact hrest q (by omega)
    · obtain rfl : j = 16 := by omega
      have hdec : decide (((base + ((xs.take 16).filter (fun x => !isE x)).length : Nat) : Int) > 1) = nodeN (f + 1) xs := by
        rw [hnode, hall, Bool.true_and, Bool.eq_iff_iff, decide_eq_true_eq, decide_eq_true_eq]
        omega
      rw [hdec]
      refine hR _ _ ⟨.iface 155 (.pointer (some ⟨N, 0, none⟩)), rfl, M2, rfl, fun _ => ?_⟩
      simp only [RV]
      exact .inr (.inr ⟨h17, N, vs, ov, v.length, cv, by omega, rfl, B2, fun q => RV.mod' (Mod.refl _) (by omega) (hdone q q.isLt)⟩)
theorem noded_all : ∀ f, NodedAt f
  | 0, x, _, _, _, _, _, hd, _, _ => absurd (dep_pos x) (by omega)
  | f + 1, x, A, w, v1, v2, v3, hd, hf, hx => by
    have hRf := refer_of (noded_all f)
    obtain ⟨b, o1, l1, c1, o2, l2, c2, rfl, rfl, rfl⟩ := hx.vals
    refine calls_gen fun R hR => trie_noded.vc _ _ _ _ _ _ _ _ _ ?_
    unfold trie_noded.Vc
    rintro d3 w1 ⟨rfl, rfl⟩
    have M1 : Vcg.Mod NoB w _ := Mod.alloc w (.cells #[.bool b, .slice o1 l1 c1, .slice o2 l2 c2] 138)
    have X1 := Blk.new w 138 #[.bool b, .slice o1 l1 c1, .slice o2 l2 c2]
    generalize w.alloc (.cells #[.bool b, .slice o1 l1 c1, .slice o2 l2 c2] 138) = w1 at *
    have hx1 := ItC.mod M1 _ hx
    cases x with
    | s bs =>
      simp only [ItC] at hx1
      obtain ⟨h1, _, _⟩ := hx1
      cases h1
      exact ⟨_, X1.rd1 rfl, fun _ => hR _ _ ⟨.nilIface, rfl, M1, rfl, fun h => by cases h⟩, fun h => (by cases h)⟩
    | l xs =>
      simp only [ItC] at hx1
      obtain ⟨h1, h2, o, c, h3, h4, hc⟩ := hx1
      cases h1; cases h2; cases h3
      have hds : ∀ x ∈ xs, dep x ≤ f := fun x hx => by
        have := dep_mem hx
        simp only [dep] at hd
        omega
      refine ⟨_, X1.rd1 rfl, fun h => (by cases h), fun _ => ⟨_, _, _, by rw [add_at]; exact X1.rd1 rfl, fun h2 => ?_, fun h2 => ⟨_, _, _, by rw [add_at]; exact X1.rd1 rfl, fun h17 => ⟨_, _, _, by rw [add_at]; exact X1.rd1 rfl, ?_⟩, fun h17 => ?_⟩⟩⟩
      · obtain ⟨x, y, rfl⟩ : ∃ x y, xs = [x, y] := by
          cases xs with
          | nil => simp at h2
          | cons x r =>
            cases r with
            | nil => simp at h2
            | cons y r =>
              cases r with
              | nil => exact ⟨x, y, rfl⟩
              | cons z r => simp at h2; omega
        rintro _ rfl
        have M2 : Vcg.Mod NoB w1 w1.drew := Mod.drew w1
        have X2 := X1.mod' M2
        have h4' := ItsC.mod M2 _ h4
        have M02 := M1.none_trans M2
        generalize w1.drew = w2 at *
        obtain ⟨g, f0, u1, u2, u3, rfl, hg, e1, e2, e3, hi⟩ := h4'.get 0 (by simp)
        obtain ⟨g', f0', t1, t2, t3, ho, hg', d1, d2, d3, hi'⟩ := h4'.get 1 (by simp)
        cases ho
        have hix : ItC A w2 x u1 u2 u3 := hi
        have hiy : ItC A w2 y t1 t2 t3 := hi'
        obtain ⟨_, _, _, _, _, _, _, rfl, rfl, rfl⟩ := hix.vals
        obtain ⟨_, _, _, _, _, _, _, rfl, rfl, rfl⟩ := hiy.vals
        refine ⟨_, _, _, by rw [add_at]; exact X2.rd1 rfl, _, rfl, ⟨by decide, by simp⟩, _, _, _, _, _, _, _, by rw [add_at]; exact e1, by rw [add_at, add_at]; exact e2, by rw [add_at, add_at]; exact e3, _, _, _, by rw [add_at]; exact X2.rd1 rfl, _, rfl, ⟨by decide, by simp⟩, _, _, _, _, _, _, _, by rw [add_at]; exact d1, by rw [add_at, add_at]; exact d2, by rw [add_at, add_at]; exact d3, ?_⟩
        refine (short_calls hRf (hds y (by simp)) (hf.mem (by simp)) (hf.mem (by simp)) hix hiy).mono ?_
        rintro _ w3 ⟨v, rfl, M3, hv, hrv⟩
        exact ⟨_, _, rfl, hR _ _ ⟨v, rfl, M02.none_trans M3, hv, fun h => RV.mod' (Mod.refl _) M02.size (hrv h)⟩⟩
      · have h17' : xs.length = 17 := by omega
        refine (branched_calls hRf h17' hds (fun x hx => hf.mem hx) h4 hc).mono ?_
        rintro _ w3 ⟨v, rfl, M3, hv, hrv⟩
        exact ⟨_, _, rfl, hR _ _ ⟨v, rfl, M1.none_trans M3, hv, fun h => RV.mod' (Mod.refl _) M1.size (hrv h)⟩⟩
      · have hno : isN (f + 1) (.l xs) = false := nodeN_no (by omega) (by omega)
        exact hR _ _ ⟨.nilIface, by rw [hno], M1, rfl, fun h => by rw [hno] at h; cases h⟩
end Go.Proofs.Ytfghidehlnfdiaa
end
section
namespace Go.Proofs.Ytfghidehlnfdiaa
open Go Go.Vcg
abbrev moraineref14_is.n : Nat := 91
def moraineref14_is.Vc (b0 : Bool) (o1 : Option Addr) (l1 c1 : Nat) (o2 : Option Addr) (l2 c2 : Nat) (w : World) (R : Ending → World → Prop) : Prop :=
 ∀ d3 w4, IsNew w 138 #[(.bool b0), (.slice o1 l1 c1), (.slice o2 l2 c2)] d3 w4 →
 ∃ b5, World.cell? w4 d3 = some (.bool b5) ∧
 (((b5 = false →
 R (.returned (.bool false)) w4)) ∧
 ((b5 = true →
 ∃ o6 l7 l8, World.cell? w4 (Addr.add d3 2) = some (.slice o6 l7 l8) ∧
 (((((l7 : Nat) : Int) = 2 →
 ∃ o9 l10 l11, World.cell? w4 (Addr.add d3 2) = some (.slice o9 l10 l11) ∧
 ∃ d12, o9 = some d12 ∧
 ((0 : Int) ≤ 0 ∧ 0 < ((l10 : Nat) : Int)) ∧
 ∃ b13, World.cell? w4 (Addr.add d12 0) = some (.bool b13) ∧
 (((b13 = true →
 R (.returned (.bool false)) w4)) ∧
 ((b13 = false →
 ∃ o14 l15 l16, World.cell? w4 (Addr.add d3 2) = some (.slice o14 l15 l16) ∧
 ∃ d17, o14 = some d17 ∧
 ((0 : Int) ≤ 0 ∧ 0 < ((l15 : Nat) : Int)) ∧
 ∃ o18 l19 l20, World.cell? w4 (Addr.add (Addr.add d17 0) 1) = some (.slice o18 l19 l20) ∧
 Calls Try.prog 43 #[(.slice o18 l19 l20)] w4 (fun e21 w22 =>
 ∃ o23 l24 l25 b26 n27, e21 = .returned (.tuple #[(.slice o23 l24 l25), (.bool b26), (.int .i64 n27)]) ∧
 (((n27 ≠ 0 →
 R (.returned (.bool false)) w22)) ∧
 ((n27 = 0 →
 (((b26 = true →
 ∃ o28 l29 l30, World.cell? w22 (Addr.add d3 2) = some (.slice o28 l29 l30) ∧
 ∃ d31, o28 = some d31 ∧
 ((0 : Int) ≤ 1 ∧ 1 < ((l29 : Nat) : Int)) ∧
 ∃ b32, World.cell? w22 (Addr.add d31 3) = some (.bool b32) ∧
 (((b32 = false →
 ∃ o33 l34 l35, World.cell? w22 (Addr.add d3 2) = some (.slice o33 l34 l35) ∧
 ∃ d36, o33 = some d36 ∧
 ((0 : Int) ≤ 1 ∧ 1 < ((l34 : Nat) : Int)) ∧
 ∃ o37 l38 l39, World.cell? w22 (Addr.add (Addr.add d36 3) 1) = some (.slice o37 l38 l39) ∧
 R (.returned (.bool (decide (((l38 : Nat) : Int) > 0)))) w22)) ∧
 ((b32 = true →
 R (.returned (.bool false)) w22))))) ∧
 ((b26 = false →
 ∃ o40 l41 l42, World.cell? w22 (Addr.add d3 2) = some (.slice o40 l41 l42) ∧
 ∃ d43, o40 = some d43 ∧
 ((0 : Int) ≤ 1 ∧ 1 < ((l41 : Nat) : Int)) ∧
 ∃ b44 o45 l46 l47 o48 l49 l50, World.cell? w22 (Addr.add d43 3) = some (.bool b44) ∧
 World.cell? w22 (Addr.add (Addr.add d43 3) 1) = some (.slice o45 l46 l47) ∧
 World.cell? w22 (Addr.add (Addr.add d43 3) 2) = some (.slice o48 l49 l50) ∧
 Calls Try.prog 118 #[(.agg #[(.bool b44), (.slice o45 l46 l47), (.slice o48 l49 l50)])] w22 (fun e51 w52 =>
 ∃ b53 b54, e51 = .returned (.tuple #[(.bool b53), (.bool b54)]) ∧
 (((((l24 : Nat) : Int) > 0 →
 (((b53 = true →
 R (.returned (.bool b54)) w52)) ∧
 ((b53 = false →
 R (.returned (.bool false)) w52))))) ∧
 ((¬ ((l24 : Nat) : Int) > 0 →
 R (.returned (.bool false)) w52)))))))))))))))) ∧
 ((((l7 : Nat) : Int) ≠ 2 →
 (((((l7 : Nat) : Int) = 17 →
 ∃ (I55 : Int → Int → World → Prop) (μ55 : Int → Int → World → Nat), I55 0 0 w4 ∧
 (∀ (n56 : Int) (n57 : Int) (j58 : Nat → Value) (w58 : World), I55 n56 n57 w58 →
 (((n57 < 16 →
 ∃ o59 l60 l61, World.cell? w58 (Addr.add d3 2) = some (.slice o59 l60 l61) ∧
 ∃ d62, o59 = some d62 ∧
 ((0 : Int) ≤ n57 ∧ n57 < ((l60 : Nat) : Int)) ∧
 ∃ b63 o64 l65 l66 o67 l68 l69, World.cell? w58 (Addr.add d62 ((Int.toNat n57) * 3)) = some (.bool b63) ∧
 World.cell? w58 (Addr.add (Addr.add d62 ((Int.toNat n57) * 3)) 1) = some (.slice o64 l65 l66) ∧
 World.cell? w58 (Addr.add (Addr.add d62 ((Int.toNat n57) * 3)) 2) = some (.slice o67 l68 l69) ∧
 Calls Try.prog 118 #[(.agg #[(.bool b63), (.slice o64 l65 l66), (.slice o67 l68 l69)])] w58 (fun e70 w71 =>
 ∃ b72 b73, e70 = .returned (.tuple #[(.bool b72), (.bool b73)]) ∧
 (((b72 = false →
 R (.returned (.bool false)) w71)) ∧
 ((b72 = true →
 (((b73 = true →
 I55 (IntKind.wrap .i64 (n56 + 1)) (IntKind.wrap .i64 (n57 + 1)) w71 ∧ μ55 (IntKind.wrap .i64 (n56 + 1)) (IntKind.wrap .i64 (n57 + 1)) w71 < μ55 n56 n57 w58)) ∧
 ((b73 = false →
 I55 n56 (IntKind.wrap .i64 (n57 + 1)) w71 ∧ μ55 n56 (IntKind.wrap .i64 (n57 + 1)) w71 < μ55 n56 n57 w58))))))))) ∧
 ((¬ n57 < 16 →
 ∃ o74 l75 l76, World.cell? w58 (Addr.add d3 2) = some (.slice o74 l75 l76) ∧
 ∃ d77, o74 = some d77 ∧
 ((0 : Int) ≤ 16 ∧ 16 < ((l75 : Nat) : Int)) ∧
 ∃ b78, World.cell? w58 (Addr.add d77 48) = some (.bool b78) ∧
 (((b78 = true →
 R (.returned (.bool false)) w58)) ∧
 ((b78 = false →
 ∃ o79 l80 l81, World.cell? w58 (Addr.add d3 2) = some (.slice o79 l80 l81) ∧
 ∃ d82, o79 = some d82 ∧
 ((0 : Int) ≤ 16 ∧ 16 < ((l80 : Nat) : Int)) ∧
 ∃ o83 l84 l85, World.cell? w58 (Addr.add (Addr.add d82 48) 1) = some (.slice o83 l84 l85) ∧
 (((((l84 : Nat) : Int) > 0 →
 R (.returned (.bool (decide ((IntKind.wrap .i64 (n56 + 1)) ≥ 2)))) w58)) ∧
 ((¬ ((l84 : Nat) : Int) > 0 →
 R (.returned (.bool (decide (n56 ≥ 2)))) w58)))))))))))) ∧
 ((((l7 : Nat) : Int) ≠ 17 →
 R (.returned (.bool false)) w4)))))))))
theorem moraineref14_is.vc (b0 o1 l1 c1 o2 l2 c2 w R) (h : moraineref14_is.Vc b0 o1 l1 c1 o2 l2 c2 w R) : Calls Try.prog 91 #[(.agg #[(.bool b0), (.slice o1 l1 c1), (.slice o2 l2 c2)])] w R := xs [(17, [(8, .cell (.int .i64)), (9, .cell (.int .i64))])] [.agg [.bool (.var b0), .slice o1 l1 c1, .slice o2 l2 c2]] Try.func91 mixed (by kernel_rfl) h

abbrev moraineref14_ref.n : Nat := 118
def moraineref14_ref.Vc (b0 : Bool) (o1 : Option Addr) (l1 c1 : Nat) (o2 : Option Addr) (l2 c2 : Nat) (w : World) (R : Ending → World → Prop) : Prop :=
 ∀ d3 w4, IsNew w 138 #[(.bool b0), (.slice o1 l1 c1), (.slice o2 l2 c2)] d3 w4 →
 ∃ b5, World.cell? w4 d3 = some (.bool b5) ∧
 (((b5 = false →
 ∀ w6, IsDrew w4 w6 →
 ∃ o7 l8 l9, World.cell? w6 (Addr.add d3 1) = some (.slice o7 l8 l9) ∧
 (((((l8 : Nat) : Int) = 32 →
 ∃ o10 l11 l12, World.cell? w6 (Addr.add d3 1) = some (.slice o10 l11 l12) ∧
 R (.returned (.tuple #[(.bool true), (.bool (decide (((l11 : Nat) : Int) > 0)))])) w6)) ∧
 ((((l8 : Nat) : Int) ≠ 32 →
 ∃ o13 l14 l15, World.cell? w6 (Addr.add d3 1) = some (.slice o13 l14 l15) ∧
 ∃ o16 l17 l18, World.cell? w6 (Addr.add d3 1) = some (.slice o16 l17 l18) ∧
 R (.returned (.tuple #[(.bool (decide (((l14 : Nat) : Int) = 0))), (.bool (decide (((l17 : Nat) : Int) > 0)))])) w6))))) ∧
 ((b5 = true →
 ∃ b19 o20 l21 l22 o23 l24 l25, World.cell? w4 d3 = some (.bool b19) ∧
 World.cell? w4 (Addr.add d3 1) = some (.slice o20 l21 l22) ∧
 World.cell? w4 (Addr.add d3 2) = some (.slice o23 l24 l25) ∧
 Calls Try.prog 134 #[(.agg #[(.bool b19), (.slice o20 l21 l22), (.slice o23 l24 l25)])] w4 (fun e26 w27 =>
 ∃ o28 l29 l30, e26 = .returned (.slice o28 l29 l30) ∧
 (((((l29 : Nat) : Int) < 32 →
 ∃ b31 o32 l33 l34 o35 l36 l37, World.cell? w27 d3 = some (.bool b31) ∧
 World.cell? w27 (Addr.add d3 1) = some (.slice o32 l33 l34) ∧
 World.cell? w27 (Addr.add d3 2) = some (.slice o35 l36 l37) ∧
 Calls Try.prog 91 #[(.agg #[(.bool b31), (.slice o32 l33 l34), (.slice o35 l36 l37)])] w27 (fun e38 w39 =>
 ∃ b40, e38 = .returned (.bool b40) ∧
 R (.returned (.tuple #[(.bool b40), (.bool true)])) w39))) ∧
 ((¬ ((l29 : Nat) : Int) < 32 →
 R (.returned (.tuple #[(.bool false), (.bool true)])) w27)))))))
theorem moraineref14_ref.vc (b0 o1 l1 c1 o2 l2 c2 w R) (h : moraineref14_ref.Vc b0 o1 l1 c1 o2 l2 c2 w R) : Calls Try.prog 118 #[(.agg #[(.bool b0), (.slice o1 l1 c1), (.slice o2 l2 c2)])] w R := xs [] [.agg [.bool (.var b0), .slice o1 l1 c1, .slice o2 l2 c2]] Try.func118 mixed (by kernel_rfl) h

abbrev moraineref14_Check.n : Nat := 49
def moraineref14_Check.Vc (o0 : Option Addr) (l0 c0 : Nat) (w : World) (R : Ending → World → Prop) : Prop :=
 Calls Try.prog 84 #[(.slice o0 l0 c0)] w (fun e1 w2 =>
 ∃ b3 o4 l5 l6 o7 l8 l9 n10, e1 = .returned (.tuple #[(.agg #[(.bool b3), (.slice o4 l5 l6), (.slice o7 l8 l9)]), (.int .i64 n10)]) ∧
 ∀ d11 w12, IsNew w2 138 #[(.bool false), (.slice none 0 0), (.slice none 0 0)] d11 w12 →
 CanSet w12 d11 (.bool b3) ∧ ∀ w13, IsSet w12 d11 (.bool b3) w13 →
 CanSet w13 (Addr.add d11 1) (.slice o4 l5 l6) ∧ ∀ w14, IsSet w13 (Addr.add d11 1) (.slice o4 l5 l6) w14 →
 CanSet w14 (Addr.add d11 2) (.slice o7 l8 l9) ∧ ∀ w15, IsSet w14 (Addr.add d11 2) (.slice o7 l8 l9) w15 →
 (((n10 ≠ 0 →
 R (.returned (.int .i64 n10)) w15)) ∧
 ((n10 = 0 →
 ∃ b16 o17 l18 l19 o20 l21 l22, World.cell? w15 d11 = some (.bool b16) ∧
 World.cell? w15 (Addr.add d11 1) = some (.slice o17 l18 l19) ∧
 World.cell? w15 (Addr.add d11 2) = some (.slice o20 l21 l22) ∧
 Calls Try.prog 91 #[(.agg #[(.bool b16), (.slice o17 l18 l19), (.slice o20 l21 l22)])] w15 (fun e23 w24 =>
 ∃ b25, e23 = .returned (.bool b25) ∧
 (((b25 = false →
 R (.returned (.int .i64 143)) w24)) ∧
 ((b25 = true →
 R (.returned (.int .i64 0)) w24))))))))
theorem moraineref14_Check.vc (o0 l0 c0 w R) (h : moraineref14_Check.Vc o0 l0 c0 w R) : Calls Try.prog 49 #[(.slice o0 l0 c0)] w R := xs [] [.slice o0 l0 c0] Try.func49 mixed (by kernel_rfl) h





end Go.Proofs.Ytfghidehlnfdiaa
end
section
namespace Go.Proofs.Ytfghidehlnfdiaa
open Go Go.Vcg Go.Trie
theorem ref_notE {f : Nat} {x : It} (h : refN f x = true) : isE x = false := by
  cases x with
  | l ys => rfl
  | s bs =>
    cases bs with
    | nil => simp [refN] at h
    | cons a r => rfl
def IsAt (f : Nat) : Prop := ∀ (x : It) {A : Nat → Prop} {w : World} {v1 v2 v3 : Value}, dep x ≤ f → Fine x → ItC A w x v1 v2 v3 →
  Calls Try.prog moraineref14_is.n #[.agg #[v1, v2, v3]] w (fun e w' => e = .returned (.bool (isN f x)) ∧ Vcg.Mod NoB w w')
def RefIsAt (f : Nat) : Prop := ∀ (x : It) {A : Nat → Prop} {w : World} {v1 v2 v3 : Value}, dep x ≤ f → Fine x → ItC A w x v1 v2 v3 →
  Calls Try.prog moraineref14_ref.n #[.agg #[v1, v2, v3]] w (fun e w' => e = .returned (.tuple #[.bool (isE x || refN f x), .bool (!isE x)]) ∧ Vcg.Mod NoB w w')
theorem refis_of {f : Nat} (hN : IsAt f) : RefIsAt f := by
  intro x A w v1 v2 v3 hdp hf hx
  obtain ⟨b, o1, l1, c1, o2, l2, c2, rfl, rfl, rfl⟩ := hx.vals
  refine moraineref14_ref.vc _ _ _ _ _ _ _ _ _ ?_
  unfold moraineref14_ref.Vc
  rintro d3 w1 ⟨rfl, rfl⟩
  have M1 : Vcg.Mod NoB w _ := Mod.alloc w (.cells #[.bool b, .slice o1 l1 c1, .slice o2 l2 c2] 138)
  have X1 := Blk.new w 138 #[.bool b, .slice o1 l1 c1, .slice o2 l2 c2]
  generalize w.alloc (.cells #[.bool b, .slice o1 l1 c1, .slice o2 l2 c2] 138) = w1 at *
  have hx1 := ItC.mod M1 _ hx
  cases x with
  | s bs =>
    simp only [ItC] at hx1
    obtain ⟨h1, ⟨o, c, h2, h3, h4⟩, h5⟩ := hx1
    cases h1; cases h2; cases h5
    refine ⟨_, X1.rd1 rfl, fun _ => ?_, fun h => (by cases h)⟩
    rintro _ rfl
    have X2 := X1.drew
    have M2 := M1.step_drew
    refine ⟨_, _, _, by rw [add_at]; exact X2.rd1 rfl, fun h32 => ⟨_, _, _, by rw [add_at]; exact X2.rd1 rfl, ?_, M2⟩, fun h32 => ⟨_, _, _, by rw [add_at]; exact X2.rd1 rfl, _, _, _, by rw [add_at]; exact X2.rd1 rfl, ?_, M2⟩⟩
    · have e1 : refN f (.s bs) = true := by simp only [refN]; exact decide_eq_true (by omega)
      rw [e1, ref_notE e1, decide_eq_true (by omega)]; rfl
    · have e1 : refN f (.s bs) = false := by simp only [refN]; exact decide_eq_false (by omega)
      rw [e1]
      cases bs with
      | nil => rfl
      | cons a r => rw [decide_eq_false (by simp only [List.length_cons]; omega), decide_eq_true (by simp only [List.length_cons]; omega)]; rfl
  | l xs =>
    have hx1' := hx1
    simp only [ItC] at hx1
    obtain ⟨h1, h2, o, c, h3, h4, hcap⟩ := hx1
    cases h1; cases h2; cases h3
    refine ⟨_, X1.rd1 rfl, fun h => (by cases h), fun _ => get3 X1 ?_⟩
    refine (Of_calls' f (.l xs) hdp hx1' (Mod.refl w1) hf.2.2).mono ?_
    rintro _ w2 ⟨o', k', rfl, F⟩
    have M02 := M1.none_trans F.mod
    have X2 := X1.mod' F.mod
    refine ⟨_, _, _, rfl, fun hlt => get3 X2 ?_, fun hge => ⟨?_, M02⟩⟩
    · refine (hN (.l xs) hdp hf (ItC.mod F.mod _ hx1')).mono ?_
      rintro _ w3 ⟨rfl, M3⟩
      have e : refN f (.l xs) = isN f (.l xs) := by
        simp only [refN, isN]; rw [decide_eq_true (by omega)]; rfl
      exact ⟨_, rfl, by rw [e]; rfl, M02.none_trans M3⟩
    · have e : refN f (.l xs) = false := by simp only [refN]; rw [decide_eq_false (by omega)]; rfl
      rw [e]; rfl
theorem is_all : ∀ f, IsAt f
  | 0, x, _, _, _, _, _, hd, _, _ => absurd (dep_pos x) (by omega)
  | f + 1, x, A, w, v1, v2, v3, hd, hf, hx => by
    have hRf := refis_of (is_all f)
    obtain ⟨b, o1, l1, c1, o2, l2, c2, rfl, rfl, rfl⟩ := hx.vals
    refine moraineref14_is.vc _ _ _ _ _ _ _ _ _ ?_
    unfold moraineref14_is.Vc
    rintro d3 w1 ⟨rfl, rfl⟩
    have M1 : Vcg.Mod NoB w _ := Mod.alloc w (.cells #[.bool b, .slice o1 l1 c1, .slice o2 l2 c2] 138)
    have X1 := Blk.new w 138 #[.bool b, .slice o1 l1 c1, .slice o2 l2 c2]
    generalize w.alloc (.cells #[.bool b, .slice o1 l1 c1, .slice o2 l2 c2] 138) = w1 at *
    have hx1 := ItC.mod M1 _ hx
    cases x with
    | s bs =>
      simp only [ItC] at hx1
      obtain ⟨h1, _, _⟩ := hx1
      cases h1
      exact ⟨_, X1.rd1 rfl, fun _ => ⟨rfl, M1⟩, fun h => (by cases h)⟩
    | l xs =>
      simp only [ItC] at hx1
      obtain ⟨h1, h2, o, c, h3, h4, hc⟩ := hx1
      cases h1; cases h2; cases h3
      have hds : ∀ x ∈ xs, dep x ≤ f := fun x hx => by
        have := dep_mem hx
        simp only [dep] at hd
        omega
      refine ⟨_, X1.rd1 rfl, fun h => (by cases h), fun _ => ⟨_, _, _, by rw [add_at]; exact X1.rd1 rfl, fun h2 => ?_, fun h2 => ⟨fun h17 => ?_, fun h17 => ?_⟩⟩⟩
      · obtain ⟨x, y, rfl⟩ : ∃ x y, xs = [x, y] := by
          cases xs with
          | nil => simp at h2
          | cons x r =>
            cases r with
            | nil => simp at h2
            | cons y r =>
              cases r with
              | nil => exact ⟨x, y, rfl⟩
              | cons z r => simp at h2; omega
        have hnode0 : nodeN (f + 1) [x, y] = (match headIs x with
          | none => false
          | some (_, true) => valIs y
          | some (p, false) => decide (p ≠ []) && refN f y) := nodeN_two rfl
        have hnode : isN (f + 1) (.l [x, y]) = (match headIs x with
          | none => false
          | some (_, true) => valIs y
          | some (p, false) => decide (p ≠ []) && refN f y) := hnode0
        obtain ⟨g, f0, u1, u2, u3, rfl, hg, e1, e2, e3, hi⟩ := h4.get 0 (by simp)
        have hix : ItC A w1 x u1 u2 u3 := hi
        refine ⟨_, _, _, by rw [add_at]; exact X1.rd1 rfl, _, rfl, ⟨by decide, by simp⟩, ?_⟩
        cases x with
        | l ys =>
          simp only [ItC] at hix
          obtain ⟨rfl, _⟩ := hix
          exact ⟨true, by rw [add_at]; exact e1, fun _ => ⟨by rw [hnode]; rfl, M1⟩, fun h => (by cases h)⟩
        | s bs =>
          have hfx := hf.mem (x := .s bs) (by simp)
          simp only [ItC] at hix
          obtain ⟨rfl, ⟨ox, cx, rfl, hrx, _⟩, rfl⟩ := hix
          have hbl : bs.length ≤ 2 ^ 20 := by
            have : bs.length ≤ (enc (.s bs)).length := by
              simp only [enc]
              split
              · exact Nat.le_refl _
              · rw [List.length_append]; omega
            have := hfx.2.2
            omega
          simp only [headIs] at hnode
          refine ⟨false, by rw [add_at]; exact e1, fun h => (by cases h), fun _ => ⟨_, _, _, by rw [add_at]; exact X1.rd1 rfl, _, rfl, ⟨by decide, by simp⟩, _, _, _, by rw [add_at, add_at]; exact e2, ?_⟩⟩
          refine (rUnpack_calls hrx hbl).mono ?_
          rintro _ w2 ⟨o', k', rfl, M2, R2, _⟩
          have M02 := M1.none_trans M2
          have X2 := X1.mod' M2
          obtain ⟨g', f0', t1, t2, t3, ho, hg', d1, d2, d3, hi'⟩ := (ItsC.mod M2 _ h4).get 1 (by simp)
          cases ho
          have hiy : ItC A w2 y t1 t2 t3 := hi'
          cases hu : unpack bs with
          | none =>
            have e : upk bs = ([], false, 143) := by unfold upk; rw [hu]
            rw [hu] at hnode
            rw [e]
            exact ⟨_, _, _, _, _, rfl, fun _ => ⟨by rw [hnode], M02⟩, fun h => absurd h (by decide)⟩
          | some r =>
            obtain ⟨p, lf⟩ := r
            have e : upk bs = (p, lf, 0) := by unfold upk; rw [hu]
            rw [hu] at hnode
            rw [e]
            refine ⟨_, _, _, _, _, rfl, fun h => (h rfl).elim, fun _ => ⟨fun hlf => ?_, fun hlf => ?_⟩⟩
            · subst hlf
              simp only at hnode
              refine ⟨_, _, _, by rw [add_at]; exact X2.rd1 rfl, _, rfl, ⟨by decide, by simp⟩, ?_⟩
              cases y with
              | s vs =>
                simp only [ItC] at hiy
                obtain ⟨rfl, ⟨oy, cy, rfl, _⟩, rfl⟩ := hiy
                refine ⟨false, by rw [add_at]; exact d1, fun _ => ⟨_, _, _, by rw [add_at]; exact X2.rd1 rfl, _, rfl, ⟨by decide, by simp⟩, _, _, _, by rw [add_at, add_at]; exact d2, ?_, M02⟩, fun h => (by cases h)⟩
                rw [hnode]
                cases vs with
                | nil => rfl
                | cons a r => rw [decide_eq_true (by simp only [List.length_cons]; omega)]; rfl
              | l ys =>
                simp only [ItC] at hiy
                obtain ⟨rfl, _⟩ := hiy
                exact ⟨true, by rw [add_at]; exact d1, fun h => (by cases h), fun _ => ⟨by rw [hnode]; rfl, M02⟩⟩
            · subst hlf
              simp only at hnode
              obtain ⟨_, _, _, _, _, _, _, rfl, rfl, rfl⟩ := hiy.vals
              refine ⟨_, _, _, by rw [add_at]; exact X2.rd1 rfl, _, rfl, ⟨by decide, by simp⟩, _, _, _, _, _, _, _, by rw [add_at]; exact d1, by rw [add_at, add_at]; exact d2, by rw [add_at, add_at]; exact d3, ?_⟩
              refine (hRf y (hds y (by simp)) (hf.mem (by simp)) hiy).mono ?_
              rintro _ w3 ⟨rfl, M3⟩
              have M03 := M02.none_trans M3
              refine ⟨_, _, rfl, fun hp => ⟨fun hb => ⟨?_, M03⟩, fun hb => ⟨?_, M03⟩⟩, fun hp => ⟨?_, M03⟩⟩
              · have hpn : p ≠ [] := by rintro rfl; simp at hp
                rw [hnode, decide_eq_true hpn, Bool.true_and]
                cases hr : refN f y with
                | true => rw [ref_notE hr]; rfl
                | false => rw [hr, Bool.or_false] at hb; rw [hb]; rfl
              · rw [Bool.or_eq_false_iff] at hb
                rw [hnode, hb.2, Bool.and_false]
              · have hpn : p = [] := List.eq_nil_of_length_eq_zero (by dsimp only at hp; omega)
                rw [hnode, hpn]; rfl
      · have h17' : xs.length = 17 := by omega
        have hnode : isN (f + 1) (.l xs) = _ := nodeN_many (f := f) h17'
        rw [getD_at (by omega)] at hnode
        refine ⟨fun n i w' => ∃ j : Nat, i = (j : Int) ∧ j ≤ 16 ∧ n = ((((xs.take j).filter (fun x => !isE x)).length : Nat) : Int) ∧ (xs.take j).all (fun x => isE x || refN f x) = true ∧ Vcg.Mod NoB w1 w', fun _ i _ => ((16 : Int) - i).toNat, ⟨0, rfl, Nat.zero_le _, by simp, by simp, Mod.refl w1⟩, ?_⟩
        rintro _ _ _ w2 ⟨j, rfl, hj, rfl, hall, M2⟩
        have X2 := X1.mod' M2
        have hcl : ((xs.take j).filter (fun x => !isE x)).length ≤ 16 := Nat.le_trans (List.length_filter_le _ _) (by rw [List.length_take]; omega)
        refine ⟨fun hlt => ?_, fun hge => ?_⟩
        · have hjl : j < xs.length := by omega
          obtain ⟨g', f', u1, u2, u3, ho, hg', d1, d2, d3, hij⟩ := (ItsC.mod M2 _ h4).get j hjl
          rw [Nat.zero_add] at d1 d2 d3
          obtain ⟨_, _, _, _, _, _, _, rfl, rfl, rfl⟩ := hij.vals
          refine ⟨_, _, _, by rw [add_at]; exact X2.rd1 rfl, _, ho, ⟨by omega, by omega⟩, _, _, _, _, _, _, _, by rw [add_at, Int.toNat_natCast]; exact d1, by rw [add_at, add_at, Int.toNat_natCast]; exact d2, by rw [add_at, add_at, Int.toNat_natCast]; exact d3, ?_⟩
          refine (hRf xs[j] (hds _ (List.getElem_mem hjl)) (hf.mem (List.getElem_mem hjl)) hij).mono ?_
          rintro _ w3 ⟨rfl, M3⟩
          have htk : xs.take (j + 1) = xs.take j ++ [xs[j]] := List.take_succ_eq_append_getElem hjl
          have ew : IntKind.wrap .i64 ((j : Int) + 1) = ((j + 1 : Nat) : Int) := by rw [wrap_i64_small (by omega) (by omega)]; omega
          have en : IntKind.wrap .i64 (((((xs.take j).filter (fun x => !isE x)).length : Nat) : Int) + 1) = ((((xs.take j).filter (fun x => !isE x)).length + 1 : Nat) : Int) := by rw [wrap_i64_small (by omega) (by omega)]; omega
          rw [ew, en]
          refine ⟨_, _, rfl, fun hb => ⟨?_, M1.none_trans (M2.none_trans M3)⟩, fun hb => ⟨fun hn => ?_, fun hn => ?_⟩⟩
          · have : (xs.take 16).all (fun x => isE x || refN f x) = false := by
              rw [List.all_eq_false]
              refine ⟨xs[j], ?_, by rw [hb]; decide⟩
              rw [List.mem_take_iff_getElem]
              exact ⟨j, by omega, rfl⟩
            rw [hnode]
            cases xs[16] with
            | l ys => rfl
            | s v => simp only; rw [this, Bool.false_and]
          · refine ⟨⟨j + 1, rfl, by omega, ?_, ?_, M2.none_trans M3⟩, by dsimp only; omega⟩
            · rw [htk, List.filter_append, List.length_append]
              simp [hn]
            · rw [htk, List.all_append, hall]; simp only [List.all_cons, List.all_nil, hb, Bool.and_self]
          · refine ⟨⟨j + 1, rfl, by omega, ?_, ?_, M2.none_trans M3⟩, by dsimp only; omega⟩
            · rw [htk, List.filter_append, List.length_append]
              simp [hn]
            · rw [htk, List.all_append, hall]; simp only [List.all_cons, List.all_nil, hb, Bool.and_self]
        · obtain rfl : j = 16 := by omega
          have M02 := M1.none_trans M2
          obtain ⟨g', f', u1, u2, u3, ho, hg', d1, d2, d3, hij⟩ := (ItsC.mod M2 _ h4).get 16 (by omega)
          rw [hall] at hnode
          refine ⟨_, _, _, by rw [add_at]; exact X2.rd1 rfl, _, ho, ⟨by omega, by omega⟩, ?_⟩
          generalize hx16 : xs[16] = x16 at *
          cases x16 with
          | l ys =>
            simp only [ItC] at hij
            obtain ⟨rfl, _⟩ := hij
            exact ⟨true, by rw [add_at]; exact d1, fun _ => ⟨by rw [hnode], M02⟩, fun h => (by cases h)⟩
          | s v =>
            simp only [ItC] at hij
            obtain ⟨rfl, ⟨ov, cv, rfl, hv, _⟩, rfl⟩ := hij
            simp only [Bool.true_and] at hnode
            have en : IntKind.wrap .i64 (((((xs.take 16).filter (fun x => !isE x)).length : Nat) : Int) + 1) = ((((xs.take 16).filter (fun x => !isE x)).length + 1 : Nat) : Int) := by rw [wrap_i64_small (by omega) (by omega)]; omega
            rw [en]
            refine ⟨false, by rw [add_at]; exact d1, fun h => (by cases h), fun _ => ⟨_, _, _, by rw [add_at]; exact X2.rd1 rfl, _, ho, ⟨by omega, by omega⟩, _, _, _, by rw [add_at, add_at]; exact d2, fun hp => ⟨?_, M02⟩, fun hp => ⟨?_, M02⟩⟩⟩
            · have hvn : v ≠ [] := by rintro rfl; simp at hp
              rw [hnode, if_neg hvn]
              congr 2
              rw [Bool.eq_iff_iff, decide_eq_true_eq, decide_eq_true_eq]; omega
            · have hvn : v = [] := List.eq_nil_of_length_eq_zero (by omega)
              rw [hnode, if_pos hvn]
              congr 2
              rw [Bool.eq_iff_iff, decide_eq_true_eq, decide_eq_true_eq]; omega
      · have hno : isN (f + 1) (.l xs) = false := nodeN_no (by omega) (by omega)
        exact ⟨by rw [hno], M1⟩
end Go.Proofs.Ytfghidehlnfdiaa
end
section
namespace Go.Proofs.Ytfghidehlnfdiaa
open Go Go.Vcg Go.Trie
def checkOf (b : By) : Int := match dcod b with
  | .error x => x
  | .ok x => if isN 17 x = true then 0 else 143
theorem fine_of {b : By} {x : It} (h : dcod b = .ok x) : Fine x := by
  obtain ⟨h1, h2, h3, h4⟩ := dcod_ok h
  exact ⟨h3, h4, by omega⟩
theorem decoded_calls {w : World} {o : Option Addr} {k : Nat} {bs : By} (hr : RdB w o bs) (hk : bs.length ≤ k) :
    Calls Try.prog trie_decoded.n #[.slice o bs.length k] w (fun e w' => Vcg.Mod NoB w w' ∧ ∃ v, e = .returned (.tuple #[v, .int .i64 (checkOf bs)]) ∧ (checkOf bs = 0 → ∃ x, dcod bs = .ok x ∧ isN 17 x = true ∧ RV 0 17 w' x v)) := by
  refine calls_gen fun R hR => trie_decoded.vc _ _ _ _ _ ?_
  unfold trie_decoded.Vc
  refine (Decode_calls hr hk).mono ?_
  rintro e w1 ⟨M1, hd⟩
  unfold DecodeIs at hd
  cases hdc : dcod bs with
  | error x =>
    rw [hdc] at hd
    obtain ⟨hx, b, p1, q1, r1, p2, q2, r2, rfl⟩ := hd
    refine ⟨_, _, _, _, _, _, _, _, rfl, ?_⟩
    rintro d2 w2 ⟨rfl, rfl⟩
    have H := Blk.new w1 138 #[.bool false, .slice none 0 0, .slice none 0 0]
    refine set3 H rfl rfl rfl (fun w3 H3 Q3 => ?_)
    have M3 : Vcg.Mod NoB w w3 := M1.none_trans (mod_of (Mod.alloc w1 _) Q3 (Nat.le_refl _))
    have hck : checkOf bs = x := by unfold checkOf; rw [hdc]
    refine ⟨fun _ => hR _ _ ⟨M3, _, by rw [hck], fun h => (hx (by rw [← hck]; exact h)).elim⟩, fun h => (hx h).elim⟩
  | ok x =>
    rw [hdc] at hd
    obtain ⟨v1, v2, v3, rfl, hx⟩ := hd
    obtain ⟨b, p1, q1, r1, p2, q2, r2, rfl, rfl, rfl⟩ := hx.vals
    have hf := fine_of hdc
    refine ⟨_, _, _, _, _, _, _, _, rfl, ?_⟩
    rintro d2 w2 ⟨rfl, rfl⟩
    have H := Blk.new w1 138 #[.bool false, .slice none 0 0, .slice none 0 0]
    refine set3 H rfl rfl rfl (fun w3 H3 Q3 => ?_)
    have M13 : Vcg.Mod NoB w1 w3 := mod_of (Mod.alloc w1 _) Q3 (Nat.le_refl _)
    refine ⟨fun h => (h rfl).elim, fun _ => get3 H3 ?_⟩
    refine (noded_all 17 x (by have := hf.1; omega) hf (ItC.mod M13 _ hx)).mono ?_
    rintro _ w4 ⟨v, rfl, M4, hv, hrv⟩
    have M04 := (M1.none_trans M13).none_trans M4
    refine ⟨_, _, rfl, fun hb => hR _ _ ⟨M04, .nilIface, ?_, fun h => ?_⟩, fun hb => hR _ _ ⟨M04, v, ?_, fun _ => ⟨x, hdc, hb, RV.mod' (Mod.refl _) (Nat.zero_le _) (hrv hb)⟩⟩⟩
    · unfold checkOf; rw [hdc]; simp only [hb]; rfl
    · unfold checkOf at h; rw [hdc] at h; simp only [hb] at h; exact absurd h (by decide)
    · unfold checkOf; rw [hdc]; simp only [hb]; rfl
theorem Check_calls {w : World} {o : Option Addr} {k : Nat} {bs : By} (hr : RdB w o bs) (hk : bs.length ≤ k) :
    Calls Try.prog trie_Check.n #[.slice o bs.length k] w (fun e w' => e = .returned (.int .i64 (checkOf bs)) ∧ Vcg.Mod NoB w w') := by
  refine trie_Check.vc _ _ _ _ _ ?_
  unfold trie_Check.Vc
  refine (decoded_calls hr hk).mono ?_
  rintro _ w1 ⟨M1, v, rfl, _⟩
  exact ⟨_, _, rfl, rfl, M1⟩
theorem rCheck_calls {w : World} {o : Option Addr} {k : Nat} {bs : By} (hr : RdB w o bs) (hk : bs.length ≤ k) :
    Calls Try.prog moraineref14_Check.n #[.slice o bs.length k] w (fun e w' => e = .returned (.int .i64 (checkOf bs)) ∧ Vcg.Mod NoB w w') := by
  refine moraineref14_Check.vc _ _ _ _ _ ?_
  unfold moraineref14_Check.Vc
  refine (rDecode_calls hr hk).mono ?_
  rintro e w1 ⟨M1, hd⟩
  unfold DecodeIs at hd
  cases hdc : dcod bs with
  | error x =>
    rw [hdc] at hd
    obtain ⟨hx, b, p1, q1, r1, p2, q2, r2, rfl⟩ := hd
    refine ⟨_, _, _, _, _, _, _, _, rfl, ?_⟩
    rintro d2 w2 ⟨rfl, rfl⟩
    have H := Blk.new w1 138 #[.bool false, .slice none 0 0, .slice none 0 0]
    refine set3 H rfl rfl rfl (fun w3 H3 Q3 => ?_)
    have M3 : Vcg.Mod NoB w w3 := M1.none_trans (mod_of (Mod.alloc w1 _) Q3 (Nat.le_refl _))
    have hck : checkOf bs = x := by unfold checkOf; rw [hdc]
    exact ⟨fun _ => ⟨by rw [hck], M3⟩, fun h => (hx h).elim⟩
  | ok x =>
    rw [hdc] at hd
    obtain ⟨v1, v2, v3, rfl, hx⟩ := hd
    obtain ⟨b, p1, q1, r1, p2, q2, r2, rfl, rfl, rfl⟩ := hx.vals
    have hf := fine_of hdc
    refine ⟨_, _, _, _, _, _, _, _, rfl, ?_⟩
    rintro d2 w2 ⟨rfl, rfl⟩
    have H := Blk.new w1 138 #[.bool false, .slice none 0 0, .slice none 0 0]
    refine set3 H rfl rfl rfl (fun w3 H3 Q3 => ?_)
    have M13 : Vcg.Mod NoB w1 w3 := mod_of (Mod.alloc w1 _) Q3 (Nat.le_refl _)
    refine ⟨fun h => (h rfl).elim, fun _ => get3 H3 ?_⟩
    refine (is_all 17 x (by have := hf.1; omega) hf (ItC.mod M13 _ hx)).mono ?_
    rintro _ w4 ⟨rfl, M4⟩
    have M04 := (M1.none_trans M13).none_trans M4
    refine ⟨_, rfl, fun hb => ⟨?_, M04⟩, fun hb => ⟨?_, M04⟩⟩
    · unfold checkOf; rw [hdc]; simp only [hb]; rfl
    · unfold checkOf; rw [hdc]; simp only [hb]; rfl
end Go.Proofs.Ytfghidehlnfdiaa
end
section
namespace Go.Proofs.Ytfghidehlnfdiaa
open Go Go.Vcg Go.Trie
def kidsN : Nat → It → List By
  | _, .s b => if b.length = 32 then [b] else []
  | 0, .l _ => []
  | f + 1, .l xs => if xs.length = 2 then (match headIs (xs.getD 0 (.s [])) with
      | some (_, true) => []
      | _ => kidsN f (xs.getD 1 (.s []))) else (xs.take 16).flatMap (kidsN f)
theorem flat_len {g : It → List By} (hg : ∀ y, (g y).length ≤ count y) : ∀ (xs : List It), (xs.flatMap g).length ≤ counts xs
  | [] => by simp [counts]
  | x :: r => by
    have h1 := hg x
    have h2 := flat_len hg r
    simp only [List.flatMap_cons, List.length_append, counts]; omega
theorem kids_len : ∀ (f : Nat) (x : It), (kidsN f x).length ≤ count x
  | _, .s b => by
    simp only [kidsN, count]
    split <;> simp
  | 0, .l _ => by simp [kidsN]
  | f + 1, .l xs => by
    simp only [kidsN, count]
    split
    · rename_i h2
      split
      · simp
      · have h1 := kids_len f (xs.getD 1 (.s []))
        have hc : count (xs.getD 1 (.s [])) ≤ counts xs := by
          obtain ⟨x, y, rfl⟩ : ∃ x y, xs = [x, y] := by
            cases xs with
            | nil => simp at h2
            | cons x r =>
              cases r with
              | nil => simp at h2
              | cons y r =>
                cases r with
                | nil => exact ⟨x, y, rfl⟩
                | cons z r => simp at h2
          show count y ≤ count x + (count y + 0)
          omega
        omega
    · have h1 := flat_len (kids_len f) (xs.take 16)
      have h2 := counts_take_le xs 16
      omega
def hsC (hs : List By) : List Value := (hs.map fun h => (hashA h).toList).flatten
theorem hashL_len (h : By) : (hashA h).toList.length = 32 := by rw [Array.length_toList, size_hashA]
end Go.Proofs.Ytfghidehlnfdiaa
end
