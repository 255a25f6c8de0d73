/- Contracts: rlp's decoder. -/
/- Contracts: rlp.First, rlp.Decode. -/
/- The verification conditions of some functions, printed by a program of ours (wip/PrintVc.lean). -/
import Derived.Test.YtfghidehlnfdiaaDD2
import Derived.Test.YtfghidehlnfdiaaProg
import Derived.KernelRfl
section
set_option linter.unusedVariables false
set_option linter.unusedSimpArgs false
namespace Go.Proofs.Ytfghidehlnfdiaa
open Go Go.Vcg Go.Trie
section
variable {A : Nat → Prop} {w w' : World} {xs : List It} {o : Option Addr} {l k : Nat}
/-- A row of items of our own. -/
def ItOwn (A : Nat → Prop) (w : World) (xs : List It) (o : Option Addr) (l k : Nat) : Prop :=
  l = xs.length ∧ ∃ vs, Own w tItem 3 o l k vs ∧ ∀ j (hj : j < xs.length), ∃ v1 v2 v3, vs[j * 3]? = some v1 ∧ vs[j * 3 + 1]? = some v2 ∧ vs[j * 3 + 2]? = some v3 ∧ ItC (fun b => A b ∨ OB o b) w xs[j] v1 v2 v3
theorem ItOwn.nil (A : Nat → Prop) (w : World) : ItOwn A w [] none 0 0 := ⟨rfl, [], Own.nil _ _ _, fun j hj => absurd hj (by simp)⟩
theorem ItOwn.lt (h : ItOwn A w xs o l k) : ∀ b, OB o b → b < w.heap.size := by
  obtain ⟨_, vs, F, _⟩ := h
  exact fun b hb => F.lt hb
theorem ItOwn.cap (h : ItOwn A w xs o l k) : l ≤ k := by
  obtain ⟨_, vs, F, _⟩ := h
  exact F.cap.1
theorem ItOwn.modS {S : Nat → Prop} (h : ItOwn A w xs o l k) (M : Vcg.Mod S w w') (hS : ∀ b, S b → A b) (hO : ∀ b, OB o b → ¬ S b) : ItOwn A w' xs o l k := by
  obtain ⟨h1, vs, F, h2⟩ := h
  refine ⟨h1, vs, F.mod M hO, fun j hj => ?_⟩
  obtain ⟨v1, v2, v3, a, b, d, e⟩ := h2 j hj
  exact ⟨v1, v2, v3, a, b, d, ItC.modA M (fun b hb => .inl (hS b hb)) _ e⟩
theorem ItOwn.mod' (h : ItOwn A w xs o l k) (M : Vcg.Mod NoB w w') : ItOwn A w' xs o l k := h.modS M (fun _ h => h.elim) (fun _ _ h => h)
theorem ItOwn.push (h : ItOwn A w xs o l k) {D : Nat} {x : It} {v1 v2 v3 : Value} (B : Blk w D tItem #[v1, v2, v3]) (hx : ItC (fun b => A b ∨ OB o b) w x v1 v2 v3) (hl : xs.length ≤ 2 ^ 20) :
    ∃ o' k' w', Sem.run Try.prog (builtinV .append #[136, 136] 136 #[.slice o l k, .slice (some ⟨D, 0, none⟩) 1 1]) w = .ok (.slice o' (l + 1) k') w' ∧ ItOwn A w' (xs ++ [x]) o' (l + 1) k' ∧ Vcg.Mod (OB o) w w' ∧ (∀ b, OB o' b → OB o b ∨ w.heap.size ≤ b) := by
  obtain ⟨rfl, vs, F, hv⟩ := h
  obtain ⟨i, hi, hz, hs, hb⟩ := info_of info_item
  obtain ⟨b, p1, q1, r1, p2, q2, r2, rfl, rfl, rfl⟩ := hx.vals
  obtain ⟨o', k', w', h1, h2, h3, h4⟩ := append_own (ty := 136) und_slItem hi hz hs rfl F (src_one und_slItem B rfl (by simp [Value.oneCell'])) (by simp only [maxLen]; omega) (by rw [hb]; omega)
  have hlen : vs.length = xs.length * 3 := F.1
  have step : ∀ {y : It} {v1 v2 v3 : Value}, ItC (fun b => A b ∨ OB o b) w y v1 v2 v3 → ItC (fun b => A b ∨ OB o' b) w' y v1 v2 v3 := fun hy =>
    ItC.mono (fun b hb => hb.elim (fun h => .inl (.inl h)) (fun h => (h4 b h).elim (fun h => .inl (.inr h)) .inr)) _ (ItC.modA h3 (fun b h => .inl (.inr h)) _ (ItC.old _ hy))
  refine ⟨o', k', w', h1, ⟨by simp, _, h2, fun j hj => ?_⟩, h3, h4⟩
  rw [List.length_append, List.length_cons, List.length_nil] at hj
  by_cases hjx : j < xs.length
  · obtain ⟨v1, v2, v3, a, b, d, e⟩ := hv j hjx
    refine ⟨v1, v2, v3, ?_, ?_, ?_, ?_⟩
    · rw [List.getElem?_append_left (by omega)]; exact a
    · rw [List.getElem?_append_left (by omega)]; exact b
    · rw [List.getElem?_append_left (by omega)]; exact d
    · rw [List.getElem_append_left hjx]; exact step e
  · obtain rfl : j = xs.length := by omega
    refine ⟨.bool b, .slice p1 q1 r1, .slice p2 q2 r2, ?_, ?_, ?_, ?_⟩
    · rw [List.getElem?_append_right (by omega), hlen, Nat.sub_self]; rfl
    · rw [List.getElem?_append_right (by omega), hlen, show xs.length * 3 + 1 - xs.length * 3 = 1 by omega]; rfl
    · rw [List.getElem?_append_right (by omega), hlen, show xs.length * 3 + 2 - xs.length * 3 = 2 by omega]; rfl
    · rw [List.getElem_append_right (by omega)]
      simp only [Nat.sub_self, List.getElem_cons_zero]
      exact step hx
theorem ItOwn.its (h : ItOwn A w xs o l k) (hA : ∀ b, A b → ¬ OB o b) : ItsC A w xs o 0 := by
  obtain ⟨rfl, vs, F, hv⟩ := h
  refine its_of xs 0 (fun j hj => ?_)
  obtain ⟨v1, v2, v3, a, b, d, e⟩ := hv j hj
  obtain ⟨g, ho, hc1⟩ := F.cell a
  obtain ⟨g', ho', hc2⟩ := F.cell b
  obtain ⟨g'', ho'', hc3⟩ := F.cell d
  rw [ho] at ho' ho''
  cases ho'; cases ho''
  rw [Nat.zero_add]
  exact ⟨g, v1, v2, v3, ho, F.lt ⟨_, ho, rfl⟩, fun h => hA _ h ⟨_, ho, rfl⟩, hc1, hc2, hc3, ItC.mono (fun _ h => .inl h) _ e⟩
end
theorem meets_bad {w : World} {D n depth : Nat} (W : Blk w D 231 #[.int .i64 (n : Int)]) (h : depth > 16 ∨ n = 4096) :
    Calls Try.prog rlp_walker_meets.n #[.pointer (some ⟨D, 0, none⟩), .int .i64 (depth : Int)] w (fun e w' => e = .returned (.int .i64 43) ∧ w' = w) := by
  refine rlp_walker_meets.vc _ _ _ _ ?_
  unfold rlp_walker_meets.Vc
  exact ⟨fun _ => ⟨rfl, rfl⟩, fun hd => ⟨_, W.rd1 rfl, fun _ => ⟨rfl, rfl⟩, fun hn => by omega⟩⟩
/-- Items that stand ahead of the rest's. -/
def pre (xs : List It) (r : Except Int (List It × Nat)) : Except Int (List It × Nat) := match r with
  | .error e => .error e
  | .ok (ys, m) => .ok (xs ++ ys, m)
theorem pre_nil (r : Except Int (List It × Nat)) : pre [] r = r := by cases r <;> rfl
theorem pre_pre (xs ys : List It) (r : Except Int (List It × Nat)) : pre xs (pre ys r) = pre (xs ++ ys) r := by
  cases r <;> simp [pre]
/-- What a decoder has answered. -/
def DecIs (r : Except Int (It × Nat × Nat)) (w : World) (D : Nat) (e : Ending) (w' : World) : Prop := match r with
  | .error x => x ≠ 0 ∧ ∃ b o1 l1 k1 o2 l2 k2 n1, e = .returned (.tuple #[.agg #[.bool b, .slice o1 l1 k1, .slice o2 l2 k2], .int .i64 n1, .int .i64 x])
  | .ok (x, q, m) => Blk w' D 231 #[.int .i64 (m : Int)] ∧ ∃ v1 v2 v3, e = .returned (.tuple #[.agg #[v1, v2, v3], .int .i64 (q : Int), .int .i64 0]) ∧ ItC (fun b => b < w.heap.size) w' x v1 v2 v3
theorem sub_bytes {w : World} {o : Option Addr} {bs : By} {k a q : Nat} (h : RdB w o bs) (hk : bs.length ≤ k) : RdB w (subO o k a 1) ((bs.drop a).take q) := h.sub hk
theorem off_sub {S : Nat → Prop} {o : Option Addr} (h : Off S o) (c n : Nat) : Off S (subO o c n 1) := fun d hd => by
  unfold subO at hd
  split at hd
  · exact h d hd
  · cases o with
    | none => simp at hd
    | some a =>
      simp only [Option.map_some, Option.some.injEq] at hd
      have e : (a.add (n * 1)).block = a.block := by
        obtain ⟨b, f, s⟩ := a
        simp only [Addr.add]
        split <;> rfl
      rw [← hd, e]
      exact h a rfl
set_option maxHeartbeats 1000000 in
set_option maxRecDepth 10000 in
theorem first_calls : ∀ (f d n : Nat) (bs : By) {w : World} {D k : Nat} {o : Option Addr}, 2 * bs.length + 1 ≤ f → bs.length ≤ 65536 → RdB w o bs → bs.length ≤ k → Blk w D 231 #[.int .i64 (n : Int)] → (bs ≠ [] → Off (· = D) o) → n ≤ 4096 → d ≤ 20 →
    Calls Try.prog rlp_walker_first.n #[.pointer (some ⟨D, 0, none⟩), .slice o bs.length k, .int .i64 (d : Int)] w (fun e w' => Vcg.Mod (· = D) w w' ∧ DecIs (dcd f d n bs) w D e w')
  | 0, _, _, _, _, _, _, _, hf, _, _, _, _, _, _, _ => absurd hf (by omega)
  | f + 1, d, n, bs, w, D, k, o, hf, hlen, hr, hk, W, hoff, hn, hd20 => by
    refine calls_gen fun R hR => rlp_walker_first.vc _ _ _ _ _ _ _ ?_
    unfold rlp_walker_first.Vc
    have hD := W.lt
    rintro d3 w1 ⟨rfl, rfl⟩
    have M1 : Vcg.Mod NoB w _ := Mod.alloc w (.cells #[.bool false, .slice none 0 0, .slice none 0 0] 138)
    have X1 := Blk.new w 138 #[.bool false, .slice none 0 0, .slice none 0 0]
    have hs1 := size_alloc w (.cells #[.bool false, .slice none 0 0, .slice none 0 0] 138)
    have W1 := W.mod' M1
    have hr1 := hr.mod' M1
    generalize hN : w.heap.size = N at *
    generalize w.alloc (.cells #[.bool false, .slice none 0 0, .slice none 0 0] 138) = w1 at *
    have M1' : Vcg.Mod (· = D) w w1 := M1.mono (fun _ _ h => h.elim)
    -- an error is told
    have bad : ∀ (w' : World) (a b c : Value) (x : Int), Vcg.Mod (· = D) w w' → Blk w' N 138 #[a, b, c] → dcd (f + 1) d n bs = .error x → x ≠ 0 → ∀ w'' : World, Vcg.Mod (· = N) w' w'' → R (.returned (.tuple #[.agg #[.bool false, .slice none 0 0, .slice none 0 0], .int .i64 0, .int .i64 x])) w'' := by
      intro w' a b c x M X hx h0 w'' M'
      refine hR _ _ ⟨M.trans M' (fun i hi h => by omega), ?_⟩
      rw [hx]
      exact ⟨h0, _, _, _, _, _, _, _, _, rfl⟩
    refine ⟨fun h0 => ?_, fun h0 => ?_⟩
    · have hb : bs = [] := List.eq_nil_of_length_eq_zero (by omega)
      exact ret_3 X1 (bad w1 _ _ _ 41 M1' X1 (by rw [hb]; exact dcd_nil f d n) (by decide))
    have hbne : bs ≠ [] := by rintro rfl; simp at h0
    by_cases hdn : d > 16 ∨ n = 4096
    · refine (meets_bad W1 hdn).mono ?_
      rintro _ w1 ⟨rfl, rfl⟩
      exact ⟨_, rfl, fun _ => ret_3 X1 (bad _ _ _ _ 43 M1' X1 (dcd_deep hbne hdn) (by decide)), fun h => absurd h (by decide)⟩
    refine (meets_calls W1 (by omega) (by omega)).mono ?_
    rintro _ w2 ⟨rfl, M2, W2⟩
    have X2 := X1.mod M2 (by omega)
    have hr2 := hr1.mod M2 (hoff hbne)
    have M02 := M1'.trans M2 (fun i hi h => h)
    have hs2 := M2.size
    refine ⟨_, rfl, fun h => (h rfl).elim, fun _ => ?_⟩
    refine (reads_calls hr2 hbne hk (by omega)).mono ?_
    rintro _ w3 ⟨M3, b1, n1, n2, b2, b3, e0, rfl, hhd⟩
    have X3 := X2.mod' M3
    have W3 := W2.mod' M3
    have hr3 := hr2.mod' M3
    have M03 := M02.none_trans M3
    have hs3 := M3.size
    clear X1 X2 W1 W2 hr1 hr2 M1 M1' M02 M2 M3
    refine ⟨_, _, _, _, _, _, rfl, ?_⟩
    rintro d4 w4 ⟨rfl, rfl⟩
    have H4 := Blk.new w3 239 #[.bool false, .int .i64 0, .int .i64 0, .bool false, .bool false]
    have X4 := X3.alloc (.cells #[.bool false, .int .i64 0, .int .i64 0, .bool false, .bool false] 239)
    have W4 := W3.alloc (.cells #[.bool false, .int .i64 0, .int .i64 0, .bool false, .bool false] 239)
    have M4 : Vcg.Mod NoB w3 _ := Mod.alloc w3 (.cells #[.bool false, .int .i64 0, .int .i64 0, .bool false, .bool false] 239)
    have hr4 := hr3.mod' M4
    have M04 := M03.none_trans M4
    have hs4 := size_alloc w3 (.cells #[.bool false, .int .i64 0, .int .i64 0, .bool false, .bool false] 239)
    generalize hH : w3.heap.size = H at *
    generalize w3.alloc (.cells #[.bool false, .int .i64 0, .int .i64 0, .bool false, .bool false] 239) = w4 at *
    refine set5 H4 rfl rfl rfl rfl rfl (fun w5 H5 Q5 => ?_)
    have X5 := X4.mod Q5 (by omega)
    have W5 := W4.mod Q5 (by omega)
    have hr5 : RdB w5 o bs := hr4.mod Q5 (fun e he h => by
      obtain ⟨bb, ff, ho, hb, _⟩ := hr hbne
      rw [ho] at he; cases he
      simp only at h
      omega)
    have M05 := M04.trans Q5 (fun i hi h => by omega)
    have hs5 := Q5.size
    clear X3 X4 W3 W4 hr3 hr4 M03 M04 M4 Q5 H4
    have hdec := dcd_go (f := f) hbne hdn
    cases hh : hd bs with
    | error x =>
      rw [hh] at hhd hdec
      obtain ⟨rfl, hx0⟩ := hhd
      exact ⟨fun _ => ret_3 X5 (bad _ _ _ _ _ M05 X5 hdec hx0), fun h => (hx0 h).elim⟩
    | ok r =>
      obtain ⟨lst, a, q, ow⟩ := r
      rw [hh] at hhd hdec
      simp only at hdec
      obtain ⟨rfl, rfl, rfl, rfl, rfl⟩ := hhd
      obtain ⟨hat1, hat2⟩ := hd_at hh hbne
      have ha9 : a ≤ bs.length := by
        cases b2 with
        | true => have := (hat1 rfl).2.1; omega
        | false => exact (hat2 rfl).2.1
      have hq31 := hd_bound hh
      refine ⟨fun h => (h rfl).elim, fun _ => ⟨_, by rw [add_at]; exact H5.rd1 rfl, _, by rw [add_at]; exact H5.rd1 rfl, ?_⟩⟩
      have e1 : IntKind.wrap .i64 ((bs.length : Int) - (a : Int)) = ((bs.length - a : Nat) : Int) := by rw [wrap_i64_small (by omega) (by omega)]; omega
      have e2 : IntKind.wrap .i64 ((a : Int) + (q : Int)) = ((a + q : Nat) : Int) := by rw [wrap_i64_small (by omega) (by omega)]; omega
      rw [e1]
      refine ⟨fun hbig => ?_, fun hbig => ?_⟩
      · rw [if_pos (by omega)] at hdec
        exact ret_3 X5 (bad _ _ _ _ 41 M05 X5 hdec (by decide))
      rw [if_neg (by omega)] at hdec
      refine ⟨_, by rw [add_at]; exact H5.rd1 rfl, _, by rw [add_at]; exact H5.rd1 rfl, _, by rw [add_at]; exact H5.rd1 rfl, ?_⟩
      rw [e2]
      simp only [Int.toNat_natCast]
      refine ⟨⟨by omega, by omega⟩, ⟨by omega, by omega⟩, _, by rw [add_at]; exact H5.rd1 rfl, _, by rw [add_at]; exact H5.rd1 rfl, _, H5.rd1 rfl, ?_⟩
      rw [e2]
      have hin := sub_bytes (a := a) (q := q) hr5 hk
      have hil : ((bs.drop a).take q).length = q := by rw [List.length_take, List.length_drop]; omega
      have hoffi : Off (fun b => b = D ∨ N ≤ b) (subO o k a 1) := off_sub (fun e he h => by
        rcases h with h | h
        · exact hoff hbne e he h
        · obtain ⟨bb, ff, ho, hb, _⟩ := hr hbne
          rw [ho] at he; cases he
          simp only at h
          omega) k a
      rw [show a + q - a = ((bs.drop a).take q).length by omega]
      generalize hI : (bs.drop a).take q = inn at *
      generalize subO o k a 1 = oi at *
      -- a string is told
      have str : ∀ {w6 : World}, Vcg.Mod (· = D) w w6 → RdB w6 oi inn → Blk w6 N 138 #[.bool false, .slice none 0 0, .slice none 0 0] → Blk w6 D 231 #[.int .i64 ((n + 1 : Nat) : Int)] → dcd (f + 1) d n bs = .ok (.s inn, a + q, n + 1) →
          Calls Try.prog 78 #[(.slice oi inn.length (k - a))] w6 (fun e85 w86 => ∃ o87 : Option Addr, ∃ l88 : Nat, ∃ l89 : Nat, e85 = .returned (.slice o87 l88 l89) ∧ Blk w86 N 138 #[.bool false, .slice none 0 0, .slice none 0 0] ∧
            ∀ w' : World, Vcg.Mod (· = N) w86 w' → R (.returned (.tuple #[(.agg #[(.bool false), (.slice o87 l88 l89), (.slice none 0 0)]), (.int .i64 ((a + q : Nat) : Int)), (.int .i64 0)])) w') := by
        intro w6 M6 hin6 X6 W6 hd6
        refine (Clone_calls hin6 (by omega)).mono ?_
        rintro _ w7 ⟨o7, k7, rfl, F7⟩
        refine ⟨_, _, _, rfl, X6.mod' F7.mod, fun w8 M8 => hR _ _ ⟨(M6.none_trans F7.mod).trans M8 (fun i hi h => by omega), ?_⟩⟩
        rw [hd6]
        have hNN := X6.lt
        have hN7 : ∀ b, OB o7 b → ¬ b = N := fun b hb h => by have := F7.new b hb; omega
        refine ⟨((W6.mod' F7.mod).mod M8 (by omega)), _, _, _, rfl, ?_⟩
        simp only [ItC]
        refine ⟨trivial, ⟨o7, k7, rfl, (F7.own.mod M8 hN7).bytes, fun _ dd hdd h => ?_⟩, trivial⟩
        have := F7.new dd.block ⟨dd, hdd, rfl⟩
        have := M6.size
        omega
      refine ⟨fun hl => ⟨_, by rw [add_at]; exact H5.rd1 rfl, fun how => ?_, fun how => ?_⟩, fun hl => ?_⟩
      · refine (own_calls hin).mono ?_
        rintro _ w6 ⟨rfl, rfl⟩
        rw [if_pos hl] at hdec
        refine ⟨_, rfl, fun ho => ?_, fun ho => ?_⟩
        · rw [if_pos ⟨how, ho⟩] at hdec
          exact ret_3 X5 (bad _ _ _ _ 40 M05 X5 hdec (by decide))
        · rw [if_neg (fun h => by rw [ho] at h; exact absurd h.2 (by decide))] at hdec
          refine (str M05 hin X5 W5 hdec).mono ?_
          rintro _ w7 ⟨o7, l7, k7, rfl, X7, h7⟩
          exact ⟨_, _, _, rfl, ret_3 X7 h7⟩
      · rw [if_pos hl, if_neg (fun h => by rw [how] at h; exact absurd h.1 (by decide))] at hdec
        refine (str M05 hin X5 W5 hdec).mono ?_
        rintro _ w7 ⟨o7, l7, k7, rfl, X7, h7⟩
        exact ⟨_, _, _, rfl, ret_3 X7 h7⟩
      -- a list: items, one behind the other
      rw [if_neg (by rw [hl]; decide)] at hdec
      have hof : b2 = false := by
        cases b2 with
        | true => have := (hat1 rfl).1; rw [hl] at this; cases this
        | false => rfl
      have hinl : inn.length < bs.length := by
        have := (hat2 hof).1
        omega
      rintro dX w6 ⟨rfl, rfl⟩
      have Y6 := Blk.new w5 138 #[.bool false, .slice none 0 0, .slice none 0 0]
      have M56 : Vcg.Mod NoB w5 _ := Mod.alloc w5 (.cells #[.bool false, .slice none 0 0, .slice none 0 0] 138)
      have X6 := X5.mod' M56
      have W6 := W5.mod' M56
      have hin6 := hin.mod' M56
      have M06 := M05.none_trans M56
      have hs6 := size_alloc w5 (.cells #[.bool false, .slice none 0 0, .slice none 0 0] 138)
      generalize hY : w5.heap.size = Y at *
      generalize w5.alloc (.cells #[.bool false, .slice none 0 0, .slice none 0 0] 138) = w6 at *
      refine set3 Y6 rfl rfl rfl (fun w7 Y7 Q7 => ?_)
      have X7 := X6.mod Q7 (by omega)
      have W7 := W6.mod Q7 (by omega)
      have hin7 : RdB w7 oi inn := by
        by_cases hie : inn = []
        · rw [hie]; exact RdB.nil _ _
        · obtain ⟨bb, ff, ho, hb, _⟩ := hin hie
          refine hin6.mod Q7 (fun e he h => ?_)
          rw [ho] at he; cases he
          simp only at h
          omega
      have M07 := M06.trans Q7 (fun i hi h => by omega)
      have hs7 := Q7.size
      clear X6 W6 Y6 hin6 M06 M56 Q7 X5 W5 hin M05 H5 str
      refine ⟨fun o' l' k' w' => ∃ (rest : By) (n' : Nat) (xs : List It) (f' : Nat) (ol : Option Addr) (kl : Nat) (v : Value),
        l' = rest.length ∧ RdB w' o' rest ∧ Off (fun b => b = D ∨ N ≤ b) o' ∧ rest.length ≤ k' ∧ rest.length ≤ inn.length ∧ xs.length + rest.length ≤ inn.length ∧ Blk w' D 231 #[.int .i64 (n' : Int)] ∧ n' ≤ 4096 ∧
        Blk w' Y 138 #[.bool true, .slice none 0 0, .slice ol xs.length kl] ∧ (∃ a b c, Blk w' N 138 #[a, b, c]) ∧ ItOwn (fun b => b < w7.heap.size) w' xs ol xs.length kl ∧ (∀ b, OB ol b → w7.heap.size ≤ b) ∧ Vcg.Mod (· = D) w w' ∧ w7.heap.size ≤ w'.heap.size ∧
        dcds f (d + 1) (n + 1) inn = pre xs (dcds f' (d + 1) n' rest) ∧ 2 * rest.length + 2 ≤ f' ∧ f' ≤ f, fun _ l' _ _ => l', ?_, ?_⟩
      · exact ⟨inn, n + 1, [], f, none, 0, .nilIface, rfl, hin7, hoffi, by omega, Nat.le_refl _, by simp, W7, by omega, by rw [hl] at *; exact Y7, ⟨_, _, _, X7⟩, ItOwn.nil _ _, fun b hb => (OB_none b hb).elim, M07, Nat.le_refl _, (pre_nil _).symm, by omega, Nat.le_refl _⟩
      · rintro o8 _ c8 _ w8 ⟨rest, n', xs, f', ol, kl, _, rfl, hr8, hoff8, hc8, hrl, hxr, W8, hn', Y8, ⟨xa, xb, xc, X8⟩, I8, hnew, M08, hs8, hde, hf', hff⟩
        refine ⟨fun hpos => ?_, fun hpos => ?_⟩
        · have hrne : rest ≠ [] := by rintro rfl; simp at hpos
          obtain ⟨f2, rfl⟩ : ∃ f2, f' = f2 + 1 := ⟨f' - 1, by omega⟩
          rw [dcds_go hrne] at hde
          have ed : IntKind.wrap .i64 ((d : Int) + 1) = ((d + 1 : Nat) : Int) := by rw [wrap_i64_small (by omega) (by omega)]; omega
          rw [ed]
          refine (first_calls f2 (d + 1) n' rest (by omega) (by omega) hr8 hc8 W8 (fun _ e he h => hoff8 e he (.inl h)) hn' (by omega)).mono ?_
          rintro e w9 ⟨M9, hdi⟩
          have hs9 := M9.size
          have Y9 := Y8.mod M9 (by omega)
          have X9 := X8.mod M9 (by omega)
          have I9 := I8.modS M9 (fun b hb => by omega) (fun b hb h => by have := hnew b hb; omega)
          have M09 := M08.trans M9 (fun i hi h => h)
          have hr9 := hr8.mod M9 (fun e he h => hoff8 e he (.inl h))
          cases hd1 : dcd f2 (d + 1) n' rest with
          | error x =>
            rw [hd1] at hdi hde
            obtain ⟨hx0, bb, p1, q1, r1, p2, q2, r2, m1, rfl⟩ := hdi
            refine ⟨_, _, _, _, _, _, _, _, _, rfl, ?_⟩
            rintro dA wA ⟨rfl, rfl⟩
            have HA := Blk.new w9 138 #[.bool false, .slice none 0 0, .slice none 0 0]
            have XA := X9.alloc (.cells #[.bool false, .slice none 0 0, .slice none 0 0] 138)
            have MA := M09.step_alloc (.cells #[.bool false, .slice none 0 0, .slice none 0 0] 138)
            refine set3 HA rfl rfl rfl (fun wB HB QB => ?_)
            have XB := XA.mod QB (by omega)
            have MB := MA.trans QB (fun i hi h => by omega)
            exact ⟨fun _ => ret_3 XB (bad _ _ _ _ _ MB XB (by rw [hdec, hde]; rfl) hx0), fun h => (hx0 h).elim⟩
          | ok r =>
            obtain ⟨y, q', m'⟩ := r
            rw [hd1] at hdi hde
            simp only at hde
            obtain ⟨W9, v1, v2, v3, rfl, hy⟩ := hdi
            obtain ⟨k1, k2, k3, k4, k5, k6⟩ := (dec_ok f2 (d + 1) n' rest).1 _ _ _ hd1
            obtain ⟨bb, p1, q1, r1, p2, q2, r2, rfl, rfl, rfl⟩ := hy.vals
            refine ⟨_, _, _, _, _, _, _, _, _, rfl, ?_⟩
            rintro dA wA ⟨rfl, rfl⟩
            have HA := Blk.new w9 138 #[.bool false, .slice none 0 0, .slice none 0 0]
            have M9A : Vcg.Mod NoB w9 _ := Mod.alloc w9 (.cells #[.bool false, .slice none 0 0, .slice none 0 0] 138)
            have hsA := size_alloc w9 (.cells #[.bool false, .slice none 0 0, .slice none 0 0] 138)
            generalize hHA : w9.heap.size = HH at *
            generalize w9.alloc (.cells #[.bool false, .slice none 0 0, .slice none 0 0] 138) = wA at *
            refine set3 HA rfl rfl rfl (fun wB HB QB => ?_)
            have M9B : Vcg.Mod NoB w9 wB := mod_of M9A QB (by omega)
            have XB := X9.mod' M9B
            have YB := Y9.mod' M9B
            have WB := W9.mod' M9B
            have hyB := ItC.mod M9B _ hy
            have hrB := hr9.mod' M9B
            have IB := I9.mod' M9B
            have MB := M09.none_trans M9B
            have hsB := M9B.size
            clear HA M9A QB X9 Y9 W9 hr9 I9 M09 hy
            refine ⟨fun h => (h rfl).elim, fun _ => ?_⟩
            rintro _ rfl
            have MBC : Vcg.Mod NoB wB wB.drew := Mod.drew wB
            have XC := XB.mod' MBC
            have YC := YB.mod' MBC
            have WC := WB.mod' MBC
            have HC := HB.mod' MBC
            have hyC := ItC.mod MBC _ hyB
            have hrC := hrB.mod' MBC
            have IC := IB.mod' MBC
            have MC := MB.none_trans MBC
            have hsC := MBC.size
            clear XB YB WB HB hyB hrB IB MB MBC
            generalize wB.drew = wC at *
            refine ⟨_, _, _, by rw [add_at]; exact YC.rd1 rfl, get3 HC ⟨⟨by omega, by omega⟩, ?_⟩⟩
            rintro dD wD ⟨rfl, rfl⟩
            have MD : Vcg.Mod NoB wC _ := Mod.alloc wC (.cells #[.bool bb, .slice p1 q1 r1, .slice p2 q2 r2] 138)
            have E := Blk.new wC 138 #[.bool bb, .slice p1 q1 r1, .slice p2 q2 r2]
            have XD := XC.mod' MD
            have YD := YC.mod' MD
            have WD := WC.mod' MD
            have hyD := ItC.mod MD _ hyC
            have hrD := hrC.mod' MD
            have ID := IC.mod' MD
            have M0D := MC.none_trans MD
            have hsD := MD.size
            clear XC YC WC HC hyC hrC IC MC
            generalize wC.heap.size = HE at *
            generalize wC.alloc (.cells #[.bool bb, .slice p1 q1 r1, .slice p2 q2 r2] 138) = wD at *
            refine ⟨by rw [add_at]; exact YD.rd1 rfl, ?_⟩
            have hlt8 := I8.lt
            obtain ⟨o', k', wE, hrun, IE, QE, hOB⟩ := ID.push E (ItC.mono (fun b hb => by
              rcases hb with h | h
              · exact Nat.lt_of_lt_of_le h hs8
              · exact hlt8 b h) _ hyD) (by omega)
            have nE : ∀ b, OB o' b → w7.heap.size ≤ b := fun b hb => by
              rcases hOB b hb with h | h
              · exact hnew b h
              · omega
            have XE := XD.mod QE (fun h => by have := hnew _ h; omega)
            have YE := YD.mod QE (fun h => by have := hnew _ h; omega)
            have WE := WD.mod QE (fun h => by have := hnew _ h; omega)
            have hrE : RdB wE o8 rest := hrD.mod QE (fun e he h => hoff8 e he (.inr (by have := hnew _ h; omega)))
            have M0E := M0D.trans QE (fun i hi h => by have := hnew _ h; omega)
            have hsE := QE.size
            refine ⟨_, wE, hrun, _, _, _, rfl, ?_⟩
            rw [add_at]
            refine ⟨YE.canSet (by simp) rfl, ?_⟩
            rintro _ rfl
            have QF : Vcg.Mod (· = Y) wE _ := Mod.setCell wE ⟨Y, 0 + 2, none⟩ (.slice o' (xs.length + 1) k')
            have YF := YE.set 2 (.slice o' (xs.length + 1) k')
            have IF := IE.modS QF (fun b hb => by omega) (fun b hb h => by have := nE b hb; omega)
            have XF := XE.mod QF (by omega)
            have WF := WE.mod QF (by omega)
            have hrF : RdB _ o8 rest := hrE.mod QF (fun e he h => hoff8 e he (.inr (by omega)))
            have M0F := M0E.trans QF (fun i hi h => by omega)
            have hsF := QF.size
            rw [Int.toNat_natCast]
            refine ⟨⟨rest.drop q', m', xs ++ [y], f2, o', k', .nilIface, by rw [List.length_drop], sub_drop hrF hc8, off_sub hoff8 _ _, by rw [List.length_drop]; omega, by rw [List.length_drop]; omega, by rw [List.length_append, List.length_drop, List.length_singleton]; omega, WF, by omega, by rw [List.length_append, List.length_singleton]; exact YF, ⟨_, _, _, XF⟩, by rw [List.length_append, List.length_singleton]; exact IF, nE, M0F, by omega, ?_, by rw [List.length_drop]; omega, by omega⟩, by dsimp only; omega⟩
            rw [hde, ← pre_pre]
            congr 1
        · obtain rfl : rest = [] := List.eq_nil_of_length_eq_zero (by omega)
          obtain ⟨f2, rfl⟩ : ∃ f2, f' = f2 + 1 := ⟨f' - 1, by omega⟩
          rw [dcds_nil] at hde
          have hits := I8.its (fun b hb h => by have := hnew b h; omega)
          refine get3 Y8 (ret_3 X8 (fun w9 M9 => hR _ _ ⟨M08.trans M9 (fun i hi h => by omega), ?_⟩))
          rw [hdec, hde]
          simp only [pre, List.append_nil]
          refine ⟨W8.mod M9 (by omega), _, _, _, rfl, ?_⟩
          simp only [ItC]
          exact ⟨trivial, trivial, ol, kl, rfl, ItsC.mono (fun b hb => by omega) _ (ItsC.modA M9 (fun b hb => by omega) _ hits), I8.cap⟩
end Go.Proofs.Ytfghidehlnfdiaa
end

section
set_option linter.unusedVariables false
set_option linter.unusedSimpArgs false
namespace Go.Proofs.Ytfghidehlnfdiaa
open Go Go.Vcg Go.Trie
/-- What First has answered. -/
def FirstIs (bs : By) (w : World) (e : Ending) (w' : World) : Prop :=
  if bs.length > 65536 then ∃ b o1 l1 k1 o2 l2 k2 n1, e = .returned (.tuple #[.agg #[.bool b, .slice o1 l1 k1, .slice o2 l2 k2], .int .i64 n1, .int .i64 44])
  else match dcd (2 * bs.length + 1) 1 0 bs with
  | .error x => x ≠ 0 ∧ ∃ b o1 l1 k1 o2 l2 k2 n1, e = .returned (.tuple #[.agg #[.bool b, .slice o1 l1 k1, .slice o2 l2 k2], .int .i64 n1, .int .i64 x])
  | .ok (x, q, _) => ∃ v1 v2 v3, e = .returned (.tuple #[.agg #[v1, v2, v3], .int .i64 (q : Int), .int .i64 0]) ∧ ItC (fun b => b < w.heap.size) w' x v1 v2 v3
/-- What Decode has answered. -/
def DecodeIs (bs : By) (w : World) (e : Ending) (w' : World) : Prop := match dcod bs with
  | .error x => x ≠ 0 ∧ ∃ b o1 l1 k1 o2 l2 k2, e = .returned (.tuple #[.agg #[.bool b, .slice o1 l1 k1, .slice o2 l2 k2], .int .i64 x])
  | .ok x => ∃ v1 v2 v3, e = .returned (.tuple #[.agg #[v1, v2, v3], .int .i64 0]) ∧ ItC (fun b => b < w.heap.size) w' x v1 v2 v3
theorem First_calls {w : World} {o : Option Addr} {k : Nat} {bs : By} (hr : RdB w o bs) (hk : bs.length ≤ k) :
    Calls Try.prog rlp_First.n #[.slice o bs.length k] w (fun e w' => Vcg.Mod NoB w w' ∧ FirstIs bs w e w') := by
  refine calls_gen fun R hR => rlp_First.vc _ _ _ _ _ ?_
  unfold rlp_First.Vc
  rintro d1 w1 ⟨rfl, rfl⟩
  have M1 : Vcg.Mod NoB w _ := Mod.alloc w (.cells #[.bool false, .slice none 0 0, .slice none 0 0] 138)
  have X1 := Blk.new w 138 #[.bool false, .slice none 0 0, .slice none 0 0]
  have hs1 := size_alloc w (.cells #[.bool false, .slice none 0 0, .slice none 0 0] 138)
  have hr1 := hr.mod' M1
  generalize hN : w.heap.size = N at *
  generalize w.alloc (.cells #[.bool false, .slice none 0 0, .slice none 0 0] 138) = w1 at *
  refine ⟨fun hbig => ?_, fun hbig => ?_⟩
  · refine ret_3 X1 (fun w2 M2 => hR _ _ ⟨mod_of M1 M2 (by omega), ?_⟩)
    unfold FirstIs
    rw [if_pos (by omega)]
    exact ⟨_, _, _, _, _, _, _, _, rfl⟩
  · rintro d2 w2 ⟨rfl, rfl⟩
    have M12 : Vcg.Mod NoB w1 _ := Mod.alloc w1 (.cells #[.int .i64 0] 231)
    have W2 := Blk.new w1 231 #[.int .i64 ((0 : Nat) : Int)]
    have X2 := X1.mod' M12
    have hr2 := hr1.mod' M12
    have M2 := M1.none_trans M12
    have hs2 := size_alloc w1 (.cells #[.int .i64 0] 231)
    have hoff : bs ≠ [] → Off (· = w1.heap.size) o := fun hne e he h => by
      obtain ⟨b, f, ho, hb, _⟩ := hr hne
      rw [ho] at he; cases he
      simp only at h
      omega
    have hc := first_calls (2 * bs.length + 1) 1 0 bs (k := k) (Nat.le_refl _) (by omega) hr2 hk W2 hoff (by omega) (by omega)
    refine Calls.mono (R := fun e w' => Vcg.Mod (· = w1.heap.size) (w1.alloc (.cells #[.int .i64 0] 231)) w' ∧ DecIs (dcd (2 * bs.length + 1) 1 0 bs) (w1.alloc (.cells #[.int .i64 0] 231)) w1.heap.size e w') hc ?_
    rintro e w3 ⟨M3, hd⟩
    have M03 : Vcg.Mod NoB w w3 := mod_of M2 M3 (by omega)
    have X3 := X2.mod M3 (by omega)
    cases hdc : dcd (2 * bs.length + 1) 1 0 bs with
    | error x =>
      rw [hdc] at hd
      obtain ⟨hx, b, p1, q1, r1, p2, q2, r2, n1, rfl⟩ := hd
      refine ⟨_, _, _, _, _, _, _, _, _, rfl, ret_3 X3 (fun w4 M4 => hR _ _ ⟨mod_of M03 M4 (by omega), ?_⟩)⟩
      unfold FirstIs
      rw [if_neg (by omega), hdc]
      exact ⟨hx, _, _, _, _, _, _, _, _, rfl⟩
    | ok r =>
      obtain ⟨y, q, m⟩ := r
      rw [hdc] at hd
      obtain ⟨W3, v1, v2, v3, rfl, hy⟩ := hd
      obtain ⟨bb, p1, q1, r1, p2, q2, r2, rfl, rfl, rfl⟩ := hy.vals
      refine ⟨_, _, _, _, _, _, _, _, _, rfl, ret_3 X3 (fun w4 M4 => hR _ _ ⟨mod_of M03 M4 (by omega), ?_⟩)⟩
      unfold FirstIs
      rw [if_neg (by omega), hdc]
      refine ⟨_, _, _, rfl, ItC.mono (fun b hb => ?_) _ (ItC.modA M4 (fun b hb => ?_) _ hy)⟩
      · have : b < w.heap.size := hb
        omega
      · show b < _
        rw [hs2]; omega
theorem Decode_calls {w : World} {o : Option Addr} {k : Nat} {bs : By} (hr : RdB w o bs) (hk : bs.length ≤ k) :
    Calls Try.prog rlp_Decode.n #[.slice o bs.length k] w (fun e w' => Vcg.Mod NoB w w' ∧ DecodeIs bs w e w') := by
  refine calls_gen fun R hR => rlp_Decode.vc _ _ _ _ _ ?_
  unfold rlp_Decode.Vc
  rintro d1 w1 ⟨rfl, rfl⟩
  have M1 : Vcg.Mod NoB w _ := Mod.alloc w (.cells #[.bool false, .slice none 0 0, .slice none 0 0] 138)
  have X1 := Blk.new w 138 #[.bool false, .slice none 0 0, .slice none 0 0]
  have hs1 := size_alloc w (.cells #[.bool false, .slice none 0 0, .slice none 0 0] 138)
  have hr1 := hr.mod' M1
  generalize hN : w.heap.size = N at *
  generalize w.alloc (.cells #[.bool false, .slice none 0 0, .slice none 0 0] 138) = w1 at *
  refine (First_calls hr1 hk).mono ?_
  rintro e w2 ⟨M2, hf⟩
  have M02 := M1.none_trans M2
  have X2 := X1.mod' M2
  have hs2 := M2.size
  -- an error is told
  have bad : ∀ (w' : World) (x : Int), dcod bs = .error x → x ≠ 0 → Vcg.Mod NoB w w' → Blk w' N 138 #[.bool false, .slice none 0 0, .slice none 0 0] → ∀ w'' : World, Vcg.Mod (· = N) w' w'' → R (.returned (.tuple #[.agg #[.bool false, .slice none 0 0, .slice none 0 0], .int .i64 x])) w'' := by
    intro w' x hx h0 M X w'' M'
    refine hR _ _ ⟨mod_of M M' (by omega), ?_⟩
    unfold DecodeIs
    rw [hx]
    exact ⟨h0, _, _, _, _, _, _, _, rfl⟩
  have key : (∃ b p1 q1 r1 p2 q2 r2 n1 x, e = .returned (.tuple #[.agg #[.bool b, .slice p1 q1 r1, .slice p2 q2 r2], .int .i64 n1, .int .i64 x]) ∧ x ≠ 0 ∧ dcod bs = .error x) ∨
      (∃ y q m v1 v2 v3, ¬ bs.length > 65536 ∧ dcd (2 * bs.length + 1) 1 0 bs = .ok (y, q, m) ∧ e = .returned (.tuple #[.agg #[v1, v2, v3], .int .i64 (q : Int), .int .i64 0]) ∧ ItC (fun b => b < w1.heap.size) w2 y v1 v2 v3) := by
    unfold FirstIs at hf
    split at hf
    · rename_i hbig
      obtain ⟨b, p1, q1, r1, p2, q2, r2, n1, he⟩ := hf
      exact .inl ⟨_, _, _, _, _, _, _, _, _, he, by decide, by unfold dcod; rw [if_pos hbig]⟩
    · rename_i hbig
      split at hf
      · rename_i x hdc
        obtain ⟨hx, b, p1, q1, r1, p2, q2, r2, n1, he⟩ := hf
        exact .inl ⟨_, _, _, _, _, _, _, _, _, he, hx, by unfold dcod; rw [if_neg hbig, hdc]⟩
      · rename_i y q m hdc
        obtain ⟨v1, v2, v3, he, hy⟩ := hf
        exact .inr ⟨_, _, _, _, _, _, hbig, hdc, he, hy⟩
  rcases key with ⟨b, p1, q1, r1, p2, q2, r2, n1, x, rfl, hx, hdc⟩ | ⟨y, q, m, v1, v2, v3, hbig, hdc, rfl, hy⟩
  · refine ⟨_, _, _, _, _, _, _, _, _, rfl, ?_⟩
    rintro d3 w3 ⟨rfl, rfl⟩
    have H := Blk.new w2 138 #[.bool false, .slice none 0 0, .slice none 0 0]
    have M23 : Vcg.Mod NoB w2 _ := Mod.alloc w2 (.cells #[.bool false, .slice none 0 0, .slice none 0 0] 138)
    refine set3 H rfl rfl rfl (fun w4 H4 Q4 => ?_)
    have M24 : Vcg.Mod NoB w2 w4 := mod_of M23 Q4 (Nat.le_refl _)
    exact ⟨fun _ => ret_3 (X2.mod' M24) (bad w4 x hdc hx (M02.none_trans M24) (X2.mod' M24)), fun h => (hx h).elim⟩
  · obtain ⟨bb, p1, q1, r1, p2, q2, r2, rfl, rfl, rfl⟩ := hy.vals
    refine ⟨_, _, _, _, _, _, _, _, _, rfl, ?_⟩
    rintro d3 w3 ⟨rfl, rfl⟩
    have H := Blk.new w2 138 #[.bool false, .slice none 0 0, .slice none 0 0]
    have M23 : Vcg.Mod NoB w2 _ := Mod.alloc w2 (.cells #[.bool false, .slice none 0 0, .slice none 0 0] 138)
    refine set3 H rfl rfl rfl (fun w4 H4 Q4 => ?_)
    have M24 : Vcg.Mod NoB w2 w4 := mod_of M23 Q4 (Nat.le_refl _)
    have X4 := X2.mod' M24
    have hy4 := ItC.mod M24 _ hy
    refine ⟨fun h => (h rfl).elim, fun _ => ⟨fun hlt => ?_, fun hlt => ?_⟩⟩
    · refine ret_3 X4 (bad w4 42 ?_ (by decide) (M02.none_trans M24) X4)
      unfold dcod
      rw [if_neg hbig, hdc]
      simp only
      rw [if_pos (by omega)]
    · refine get3 H4 (ret_3 X4 (fun w5 M5 => hR _ _ ⟨mod_of (M02.none_trans M24) M5 (by omega), ?_⟩))
      have hd : dcod bs = .ok y := by
        unfold dcod
        rw [if_neg hbig, hdc]
        simp only
        rw [if_neg (by omega)]
      unfold DecodeIs
      rw [hd]
      refine ⟨_, _, _, rfl, ItC.mono (fun b hb => ?_) _ (ItC.modA M5 (fun b hb => ?_) _ hy4)⟩
      · have : b < w.heap.size := hb
        show b < w1.heap.size
        omega
      · show b < w1.heap.size
        omega
end Go.Proofs.Ytfghidehlnfdiaa
end

section
set_option linter.unusedVariables false
namespace Go.Proofs.Ytfghidehlnfdiaa
open Go Go.Vcg
abbrev moraineref4_Decode.n : Nat := 84
def moraineref4_Decode.Vc (o0 : Option Addr) (l0 : Nat) (c0 : Nat) (w : World) (R : Ending → World → Prop) : Prop :=
  ∀ (d1 : Addr) (w2 : World), IsNew w 138 #[(.bool false), (.slice none 0 0), (.slice none 0 0)] d1 w2 →
  Calls Try.prog 115 #[(.slice o0 l0 c0)] w2 (fun e3 w4 =>
    ∃ b5 : Bool, ∃ o6 : Option Addr, ∃ l7 : Nat, ∃ l8 : Nat, ∃ o9 : Option Addr, ∃ l10 : Nat, ∃ l11 : Nat, ∃ n12 : Int, ∃ n13 : Int, e3 = .returned (.tuple #[(.agg #[(.bool b5), (.slice o6 l7 l8), (.slice o9 l10 l11)]), (.int .i64 n12), (.int .i64 n13)]) ∧
    ∀ (d14 : Addr) (w15 : World), IsNew w4 138 #[(.bool false), (.slice none 0 0), (.slice none 0 0)] d14 w15 →
    CanSet w15 d14 (.bool b5) ∧ ∀ w16 : World, IsSet w15 d14 (.bool b5) w16 →
    CanSet w16 (Addr.add d14 1) (.slice o6 l7 l8) ∧ ∀ w17 : World, IsSet w16 (Addr.add d14 1) (.slice o6 l7 l8) w17 →
    CanSet w17 (Addr.add d14 2) (.slice o9 l10 l11) ∧ ∀ w18 : World, IsSet w17 (Addr.add d14 2) (.slice o9 l10 l11) w18 →
    (((n13 = 0 →
      (((n12 < ((l0 : Nat) : Int) →
        CanSet w18 d1 (.bool false) ∧ ∀ w19 : World, IsSet w18 d1 (.bool false) w19 →
        CanSet w19 (Addr.add d1 1) (.slice none 0 0) ∧ ∀ w20 : World, IsSet w19 (Addr.add d1 1) (.slice none 0 0) w20 →
        CanSet w20 (Addr.add d1 2) (.slice none 0 0) ∧ ∀ w21 : World, IsSet w20 (Addr.add d1 2) (.slice none 0 0) w21 →
        ∃ b22 : Bool, ∃ o23 : Option Addr, ∃ l24 : Nat, ∃ l25 : Nat, ∃ o26 : Option Addr, ∃ l27 : Nat, ∃ l28 : Nat, World.cell? w21 d1 = some (.bool b22) ∧
        World.cell? w21 (Addr.add d1 1) = some (.slice o23 l24 l25) ∧
        World.cell? w21 (Addr.add d1 2) = some (.slice o26 l27 l28) ∧
        R (.returned (.tuple #[(.agg #[(.bool b22), (.slice o23 l24 l25), (.slice o26 l27 l28)]), (.int .i64 42)])) w21)) ∧
       ((¬ n12 < ((l0 : Nat) : Int) →
        (((n13 ≠ 0 →
          CanSet w18 d1 (.bool false) ∧ ∀ w29 : World, IsSet w18 d1 (.bool false) w29 →
          CanSet w29 (Addr.add d1 1) (.slice none 0 0) ∧ ∀ w30 : World, IsSet w29 (Addr.add d1 1) (.slice none 0 0) w30 →
          CanSet w30 (Addr.add d1 2) (.slice none 0 0) ∧ ∀ w31 : World, IsSet w30 (Addr.add d1 2) (.slice none 0 0) w31 →
          ∃ b32 : Bool, ∃ o33 : Option Addr, ∃ l34 : Nat, ∃ l35 : Nat, ∃ o36 : Option Addr, ∃ l37 : Nat, ∃ l38 : Nat, World.cell? w31 d1 = some (.bool b32) ∧
          World.cell? w31 (Addr.add d1 1) = some (.slice o33 l34 l35) ∧
          World.cell? w31 (Addr.add d1 2) = some (.slice o36 l37 l38) ∧
          R (.returned (.tuple #[(.agg #[(.bool b32), (.slice o33 l34 l35), (.slice o36 l37 l38)]), (.int .i64 n13)])) w31)) ∧
         ((n13 = 0 →
          ∃ b39 : Bool, ∃ o40 : Option Addr, ∃ l41 : Nat, ∃ l42 : Nat, ∃ o43 : Option Addr, ∃ l44 : Nat, ∃ l45 : Nat, World.cell? w18 d14 = some (.bool b39) ∧
          World.cell? w18 (Addr.add d14 1) = some (.slice o40 l41 l42) ∧
          World.cell? w18 (Addr.add d14 2) = some (.slice o43 l44 l45) ∧
          CanSet w18 d1 (.bool b39) ∧ ∀ w46 : World, IsSet w18 d1 (.bool b39) w46 →
          CanSet w46 (Addr.add d1 1) (.slice o40 l41 l42) ∧ ∀ w47 : World, IsSet w46 (Addr.add d1 1) (.slice o40 l41 l42) w47 →
          CanSet w47 (Addr.add d1 2) (.slice o43 l44 l45) ∧ ∀ w48 : World, IsSet w47 (Addr.add d1 2) (.slice o43 l44 l45) w48 →
          ∃ b49 : Bool, ∃ o50 : Option Addr, ∃ l51 : Nat, ∃ l52 : Nat, ∃ o53 : Option Addr, ∃ l54 : Nat, ∃ l55 : Nat, World.cell? w48 d1 = some (.bool b49) ∧
          World.cell? w48 (Addr.add d1 1) = some (.slice o50 l51 l52) ∧
          World.cell? w48 (Addr.add d1 2) = some (.slice o53 l54 l55) ∧
          R (.returned (.tuple #[(.agg #[(.bool b49), (.slice o50 l51 l52), (.slice o53 l54 l55)]), (.int .i64 0)])) w48)))))))) ∧
     ((n13 ≠ 0 →
      (((n13 ≠ 0 →
        CanSet w18 d1 (.bool false) ∧ ∀ w56 : World, IsSet w18 d1 (.bool false) w56 →
        CanSet w56 (Addr.add d1 1) (.slice none 0 0) ∧ ∀ w57 : World, IsSet w56 (Addr.add d1 1) (.slice none 0 0) w57 →
        CanSet w57 (Addr.add d1 2) (.slice none 0 0) ∧ ∀ w58 : World, IsSet w57 (Addr.add d1 2) (.slice none 0 0) w58 →
        ∃ b59 : Bool, ∃ o60 : Option Addr, ∃ l61 : Nat, ∃ l62 : Nat, ∃ o63 : Option Addr, ∃ l64 : Nat, ∃ l65 : Nat, World.cell? w58 d1 = some (.bool b59) ∧
        World.cell? w58 (Addr.add d1 1) = some (.slice o60 l61 l62) ∧
        World.cell? w58 (Addr.add d1 2) = some (.slice o63 l64 l65) ∧
        R (.returned (.tuple #[(.agg #[(.bool b59), (.slice o60 l61 l62), (.slice o63 l64 l65)]), (.int .i64 n13)])) w58)) ∧
       ((n13 = 0 →
        ∃ b66 : Bool, ∃ o67 : Option Addr, ∃ l68 : Nat, ∃ l69 : Nat, ∃ o70 : Option Addr, ∃ l71 : Nat, ∃ l72 : Nat, World.cell? w18 d14 = some (.bool b66) ∧
        World.cell? w18 (Addr.add d14 1) = some (.slice o67 l68 l69) ∧
        World.cell? w18 (Addr.add d14 2) = some (.slice o70 l71 l72) ∧
        CanSet w18 d1 (.bool b66) ∧ ∀ w73 : World, IsSet w18 d1 (.bool b66) w73 →
        CanSet w73 (Addr.add d1 1) (.slice o67 l68 l69) ∧ ∀ w74 : World, IsSet w73 (Addr.add d1 1) (.slice o67 l68 l69) w74 →
        CanSet w74 (Addr.add d1 2) (.slice o70 l71 l72) ∧ ∀ w75 : World, IsSet w74 (Addr.add d1 2) (.slice o70 l71 l72) w75 →
        ∃ b76 : Bool, ∃ o77 : Option Addr, ∃ l78 : Nat, ∃ l79 : Nat, ∃ o80 : Option Addr, ∃ l81 : Nat, ∃ l82 : Nat, World.cell? w75 d1 = some (.bool b76) ∧
        World.cell? w75 (Addr.add d1 1) = some (.slice o77 l78 l79) ∧
        World.cell? w75 (Addr.add d1 2) = some (.slice o80 l81 l82) ∧
        R (.returned (.tuple #[(.agg #[(.bool b76), (.slice o77 l78 l79), (.slice o80 l81 l82)]), (.int .i64 0)])) w75)))))))
theorem moraineref4_Decode.vc (o0 : Option Addr) (l0 : Nat) (c0 : Nat) (w : World) (R : Ending → World → Prop) (h : moraineref4_Decode.Vc o0 l0 c0 w R) : Calls Try.prog 84 #[(.slice o0 l0 c0)] w R :=
  execF_sound (R := ⟨R, false⟩) (ann := []) (args := [.slice o0 l0 c0]) Try.func84 mixed (Eq.mp (by kernel_rfl : moraineref4_Decode.Vc o0 l0 c0 w R = execF (pA Try.prog ⟨R, false⟩) Try.prog [] Try.f84 [.slice o0 l0 c0] w) h)

abbrev moraineref4_First.n : Nat := 115
def moraineref4_First.Vc (o0 : Option Addr) (l0 : Nat) (c0 : Nat) (w : World) (R : Ending → World → Prop) : Prop :=
  ∀ (d1 : Addr) (w2 : World), IsNew w 138 #[(.bool false), (.slice none 0 0), (.slice none 0 0)] d1 w2 →
  (((((l0 : Nat) : Int) > 65536 →
    CanSet w2 d1 (.bool false) ∧ ∀ w3 : World, IsSet w2 d1 (.bool false) w3 →
    CanSet w3 (Addr.add d1 1) (.slice none 0 0) ∧ ∀ w4 : World, IsSet w3 (Addr.add d1 1) (.slice none 0 0) w4 →
    CanSet w4 (Addr.add d1 2) (.slice none 0 0) ∧ ∀ w5 : World, IsSet w4 (Addr.add d1 2) (.slice none 0 0) w5 →
    ∃ b6 : Bool, ∃ o7 : Option Addr, ∃ l8 : Nat, ∃ l9 : Nat, ∃ o10 : Option Addr, ∃ l11 : Nat, ∃ l12 : Nat, World.cell? w5 d1 = some (.bool b6) ∧
    World.cell? w5 (Addr.add d1 1) = some (.slice o7 l8 l9) ∧
    World.cell? w5 (Addr.add d1 2) = some (.slice o10 l11 l12) ∧
    R (.returned (.tuple #[(.agg #[(.bool b6), (.slice o7 l8 l9), (.slice o10 l11 l12)]), (.int .i64 0), (.int .i64 44)])) w5)) ∧
   ((¬ ((l0 : Nat) : Int) > 65536 →
    ∀ (d13 : Addr) (w14 : World), IsNew w2 221 #[(.slice o0 l0 c0), (.int .i64 0), (.int .i64 0)] d13 w14 →
    Calls Try.prog 130 #[(.pointer (some d13)), (.int .i64 0), (.int .i64 ((l0 : Nat) : Int)), (.int .i64 1)] w14 (fun e15 w16 =>
      ∃ b17 : Bool, ∃ o18 : Option Addr, ∃ l19 : Nat, ∃ l20 : Nat, ∃ o21 : Option Addr, ∃ l22 : Nat, ∃ l23 : Nat, ∃ n24 : Int, e15 = .returned (.tuple #[(.agg #[(.bool b17), (.slice o18 l19 l20), (.slice o21 l22 l23)]), (.int .i64 n24)]) ∧
      ∀ (d25 : Addr) (w26 : World), IsNew w16 138 #[(.bool false), (.slice none 0 0), (.slice none 0 0)] d25 w26 →
      CanSet w26 d25 (.bool b17) ∧ ∀ w27 : World, IsSet w26 d25 (.bool b17) w27 →
      CanSet w27 (Addr.add d25 1) (.slice o18 l19 l20) ∧ ∀ w28 : World, IsSet w27 (Addr.add d25 1) (.slice o18 l19 l20) w28 →
      CanSet w28 (Addr.add d25 2) (.slice o21 l22 l23) ∧ ∀ w29 : World, IsSet w28 (Addr.add d25 2) (.slice o21 l22 l23) w29 →
      ∃ n30 : Int, World.cell? w29 (Addr.add d13 2) = some (.int .i64 n30) ∧
      (((n30 ≠ 0 →
        ∀ w31 : World, IsDrew w29 w31 →
        ∃ n32 : Int, World.cell? w31 (Addr.add d13 2) = some (.int .i64 n32) ∧
        CanSet w31 d1 (.bool false) ∧ ∀ w33 : World, IsSet w31 d1 (.bool false) w33 →
        CanSet w33 (Addr.add d1 1) (.slice none 0 0) ∧ ∀ w34 : World, IsSet w33 (Addr.add d1 1) (.slice none 0 0) w34 →
        CanSet w34 (Addr.add d1 2) (.slice none 0 0) ∧ ∀ w35 : World, IsSet w34 (Addr.add d1 2) (.slice none 0 0) w35 →
        World.cell? w35 (Addr.add d13 2) = some (.int .i64 n32) ∧
        ∃ b36 : Bool, ∃ o37 : Option Addr, ∃ l38 : Nat, ∃ l39 : Nat, ∃ o40 : Option Addr, ∃ l41 : Nat, ∃ l42 : Nat, World.cell? w35 d1 = some (.bool b36) ∧
        World.cell? w35 (Addr.add d1 1) = some (.slice o37 l38 l39) ∧
        World.cell? w35 (Addr.add d1 2) = some (.slice o40 l41 l42) ∧
        R (.returned (.tuple #[(.agg #[(.bool b36), (.slice o37 l38 l39), (.slice o40 l41 l42)]), (.int .i64 0), (.int .i64 n32)])) w35)) ∧
       ((n30 = 0 →
        ∃ b43 : Bool, ∃ o44 : Option Addr, ∃ l45 : Nat, ∃ l46 : Nat, ∃ o47 : Option Addr, ∃ l48 : Nat, ∃ l49 : Nat, World.cell? w29 d25 = some (.bool b43) ∧
        World.cell? w29 (Addr.add d25 1) = some (.slice o44 l45 l46) ∧
        World.cell? w29 (Addr.add d25 2) = some (.slice o47 l48 l49) ∧
        CanSet w29 d1 (.bool b43) ∧ ∀ w50 : World, IsSet w29 d1 (.bool b43) w50 →
        CanSet w50 (Addr.add d1 1) (.slice o44 l45 l46) ∧ ∀ w51 : World, IsSet w50 (Addr.add d1 1) (.slice o44 l45 l46) w51 →
        CanSet w51 (Addr.add d1 2) (.slice o47 l48 l49) ∧ ∀ w52 : World, IsSet w51 (Addr.add d1 2) (.slice o47 l48 l49) w52 →
        ∃ b53 : Bool, ∃ o54 : Option Addr, ∃ l55 : Nat, ∃ l56 : Nat, ∃ o57 : Option Addr, ∃ l58 : Nat, ∃ l59 : Nat, World.cell? w52 d1 = some (.bool b53) ∧
        World.cell? w52 (Addr.add d1 1) = some (.slice o54 l55 l56) ∧
        World.cell? w52 (Addr.add d1 2) = some (.slice o57 l58 l59) ∧
        R (.returned (.tuple #[(.agg #[(.bool b53), (.slice o54 l55 l56), (.slice o57 l58 l59)]), (.int .i64 n24), (.int .i64 0)])) w52)))))))
theorem moraineref4_First.vc (o0 : Option Addr) (l0 : Nat) (c0 : Nat) (w : World) (R : Ending → World → Prop) (h : moraineref4_First.Vc o0 l0 c0 w R) : Calls Try.prog 115 #[(.slice o0 l0 c0)] w R :=
  execF_sound (R := ⟨R, false⟩) (ann := []) (args := [.slice o0 l0 c0]) Try.func115 mixed (Eq.mp (by kernel_rfl : moraineref4_First.Vc o0 l0 c0 w R = execF (pA Try.prog ⟨R, false⟩) Try.prog [] Try.f115 [.slice o0 l0 c0] w) h)

abbrev moraineref4_reader_item.n : Nat := 130
def moraineref4_reader_item.Vc (d0 : Addr) (n1 : Int) (n2 : Int) (n3 : Int) (w : World) (R : Ending → World → Prop) : Prop :=
  ∀ (d4 : Addr) (w5 : World), IsNew w 138 #[(.bool false), (.slice none 0 0), (.slice none 0 0)] d4 w5 →
  (((n1 ≥ n2 →
    Calls Try.prog 138 #[(.pointer (some d0)), (.int .i64 41)] w5 (fun e6 w7 =>
      ∃ b8 : Bool, ∃ o9 : Option Addr, ∃ l10 : Nat, ∃ l11 : Nat, ∃ o12 : Option Addr, ∃ l13 : Nat, ∃ l14 : Nat, ∃ n15 : Int, e6 = .returned (.tuple #[(.agg #[(.bool b8), (.slice o9 l10 l11), (.slice o12 l13 l14)]), (.int .i64 n15)]) ∧
      CanSet w7 d4 (.bool b8) ∧ ∀ w16 : World, IsSet w7 d4 (.bool b8) w16 →
      CanSet w16 (Addr.add d4 1) (.slice o9 l10 l11) ∧ ∀ w17 : World, IsSet w16 (Addr.add d4 1) (.slice o9 l10 l11) w17 →
      CanSet w17 (Addr.add d4 2) (.slice o12 l13 l14) ∧ ∀ w18 : World, IsSet w17 (Addr.add d4 2) (.slice o12 l13 l14) w18 →
      ∃ b19 : Bool, ∃ o20 : Option Addr, ∃ l21 : Nat, ∃ l22 : Nat, ∃ o23 : Option Addr, ∃ l24 : Nat, ∃ l25 : Nat, World.cell? w18 d4 = some (.bool b19) ∧
      World.cell? w18 (Addr.add d4 1) = some (.slice o20 l21 l22) ∧
      World.cell? w18 (Addr.add d4 2) = some (.slice o23 l24 l25) ∧
      R (.returned (.tuple #[(.agg #[(.bool b19), (.slice o20 l21 l22), (.slice o23 l24 l25)]), (.int .i64 n15)])) w18))) ∧
   ((¬ n1 ≥ n2 →
    (((n3 > 16 →
      Calls Try.prog 138 #[(.pointer (some d0)), (.int .i64 43)] w5 (fun e26 w27 =>
        ∃ b28 : Bool, ∃ o29 : Option Addr, ∃ l30 : Nat, ∃ l31 : Nat, ∃ o32 : Option Addr, ∃ l33 : Nat, ∃ l34 : Nat, ∃ n35 : Int, e26 = .returned (.tuple #[(.agg #[(.bool b28), (.slice o29 l30 l31), (.slice o32 l33 l34)]), (.int .i64 n35)]) ∧
        CanSet w27 d4 (.bool b28) ∧ ∀ w36 : World, IsSet w27 d4 (.bool b28) w36 →
        CanSet w36 (Addr.add d4 1) (.slice o29 l30 l31) ∧ ∀ w37 : World, IsSet w36 (Addr.add d4 1) (.slice o29 l30 l31) w37 →
        CanSet w37 (Addr.add d4 2) (.slice o32 l33 l34) ∧ ∀ w38 : World, IsSet w37 (Addr.add d4 2) (.slice o32 l33 l34) w38 →
        ∃ b39 : Bool, ∃ o40 : Option Addr, ∃ l41 : Nat, ∃ l42 : Nat, ∃ o43 : Option Addr, ∃ l44 : Nat, ∃ l45 : Nat, World.cell? w38 d4 = some (.bool b39) ∧
        World.cell? w38 (Addr.add d4 1) = some (.slice o40 l41 l42) ∧
        World.cell? w38 (Addr.add d4 2) = some (.slice o43 l44 l45) ∧
        R (.returned (.tuple #[(.agg #[(.bool b39), (.slice o40 l41 l42), (.slice o43 l44 l45)]), (.int .i64 n35)])) w38))) ∧
     ((¬ n3 > 16 →
      ∃ n46 : Int, World.cell? w5 (Addr.add d0 1) = some (.int .i64 n46) ∧
      (((n46 = 4096 →
        Calls Try.prog 138 #[(.pointer (some d0)), (.int .i64 43)] w5 (fun e47 w48 =>
          ∃ b49 : Bool, ∃ o50 : Option Addr, ∃ l51 : Nat, ∃ l52 : Nat, ∃ o53 : Option Addr, ∃ l54 : Nat, ∃ l55 : Nat, ∃ n56 : Int, e47 = .returned (.tuple #[(.agg #[(.bool b49), (.slice o50 l51 l52), (.slice o53 l54 l55)]), (.int .i64 n56)]) ∧
          CanSet w48 d4 (.bool b49) ∧ ∀ w57 : World, IsSet w48 d4 (.bool b49) w57 →
          CanSet w57 (Addr.add d4 1) (.slice o50 l51 l52) ∧ ∀ w58 : World, IsSet w57 (Addr.add d4 1) (.slice o50 l51 l52) w58 →
          CanSet w58 (Addr.add d4 2) (.slice o53 l54 l55) ∧ ∀ w59 : World, IsSet w58 (Addr.add d4 2) (.slice o53 l54 l55) w59 →
          ∃ b60 : Bool, ∃ o61 : Option Addr, ∃ l62 : Nat, ∃ l63 : Nat, ∃ o64 : Option Addr, ∃ l65 : Nat, ∃ l66 : Nat, World.cell? w59 d4 = some (.bool b60) ∧
          World.cell? w59 (Addr.add d4 1) = some (.slice o61 l62 l63) ∧
          World.cell? w59 (Addr.add d4 2) = some (.slice o64 l65 l66) ∧
          R (.returned (.tuple #[(.agg #[(.bool b60), (.slice o61 l62 l63), (.slice o64 l65 l66)]), (.int .i64 n56)])) w59))) ∧
       ((n46 ≠ 4096 →
        ∃ n67 : Int, World.cell? w5 (Addr.add d0 1) = some (.int .i64 n67) ∧
        CanSet w5 (Addr.add d0 1) (.int .i64 (IntKind.wrap .i64 (n67 + 1))) ∧ ∀ w68 : World, IsSet w5 (Addr.add d0 1) (.int .i64 (IntKind.wrap .i64 (n67 + 1))) w68 →
        ∃ o69 : Option Addr, ∃ l70 : Nat, ∃ l71 : Nat, World.cell? w68 d0 = some (.slice o69 l70 l71) ∧
        ∃ d72 : Addr, o69 = some d72 ∧
        ((0 : Int) ≤ n1 ∧ n1 < ((l70 : Nat) : Int)) ∧
        ∃ n73 : Int, World.cell? w68 (Addr.add d72 (Int.toNat n1)) = some (.int .u8 n73) ∧
        ((((IntKind.wrap .i64 n73) < 128 →
          ∀ (d74 : Addr) (w75 : World), IsNew w68 5 #[(.int .u8 (IntKind.wrap .u8 (IntKind.wrap .i64 n73)))] d74 w75 →
          CanSet w75 d4 (.bool false) ∧ ∀ w76 : World, IsSet w75 d4 (.bool false) w76 →
          CanSet w76 (Addr.add d4 1) (.slice (some d74) 1 1) ∧ ∀ w77 : World, IsSet w76 (Addr.add d4 1) (.slice (some d74) 1 1) w77 →
          CanSet w77 (Addr.add d4 2) (.slice none 0 0) ∧ ∀ w78 : World, IsSet w77 (Addr.add d4 2) (.slice none 0 0) w78 →
          ∃ b79 : Bool, ∃ o80 : Option Addr, ∃ l81 : Nat, ∃ l82 : Nat, ∃ o83 : Option Addr, ∃ l84 : Nat, ∃ l85 : Nat, World.cell? w78 d4 = some (.bool b79) ∧
          World.cell? w78 (Addr.add d4 1) = some (.slice o80 l81 l82) ∧
          World.cell? w78 (Addr.add d4 2) = some (.slice o83 l84 l85) ∧
          R (.returned (.tuple #[(.agg #[(.bool b79), (.slice o80 l81 l82), (.slice o83 l84 l85)]), (.int .i64 (IntKind.wrap .i64 (n1 + 1)))])) w78)) ∧
         ((¬ (IntKind.wrap .i64 n73) < 128 →
          ∃ (J86 : Int → World → Prop), (((((IntKind.wrap .i64 n73) ≥ 192 →
             J86 192 w68)) ∧
            ((¬ (IntKind.wrap .i64 n73) ≥ 192 →
             J86 128 w68)))) ∧
          (∀ (n87 : Int) (j88 : Nat → Value) (w88 : World), J86 n87 w88 →
            ∃ (J89 : Int → Int → World → Prop), (((((IntKind.wrap .i64 ((IntKind.wrap .i64 n73) - n87)) > 55 →
               ((((IntKind.wrap .i64 ((IntKind.wrap .i64 (n1 + 1)) + (IntKind.wrap .i64 ((IntKind.wrap .i64 ((IntKind.wrap .i64 n73) - n87)) - 55)))) > n2 →
                 Calls Try.prog 138 #[(.pointer (some d0)), (.int .i64 41)] w88 (fun e90 w91 =>
                   ∃ b92 : Bool, ∃ o93 : Option Addr, ∃ l94 : Nat, ∃ l95 : Nat, ∃ o96 : Option Addr, ∃ l97 : Nat, ∃ l98 : Nat, ∃ n99 : Int, e90 = .returned (.tuple #[(.agg #[(.bool b92), (.slice o93 l94 l95), (.slice o96 l97 l98)]), (.int .i64 n99)]) ∧
                   CanSet w91 d4 (.bool b92) ∧ ∀ w100 : World, IsSet w91 d4 (.bool b92) w100 →
                   CanSet w100 (Addr.add d4 1) (.slice o93 l94 l95) ∧ ∀ w101 : World, IsSet w100 (Addr.add d4 1) (.slice o93 l94 l95) w101 →
                   CanSet w101 (Addr.add d4 2) (.slice o96 l97 l98) ∧ ∀ w102 : World, IsSet w101 (Addr.add d4 2) (.slice o96 l97 l98) w102 →
                   ∃ b103 : Bool, ∃ o104 : Option Addr, ∃ l105 : Nat, ∃ l106 : Nat, ∃ o107 : Option Addr, ∃ l108 : Nat, ∃ l109 : Nat, World.cell? w102 d4 = some (.bool b103) ∧
                   World.cell? w102 (Addr.add d4 1) = some (.slice o104 l105 l106) ∧
                   World.cell? w102 (Addr.add d4 2) = some (.slice o107 l108 l109) ∧
                   R (.returned (.tuple #[(.agg #[(.bool b103), (.slice o104 l105 l106), (.slice o107 l108 l109)]), (.int .i64 n99)])) w102))) ∧
                ((¬ (IntKind.wrap .i64 ((IntKind.wrap .i64 (n1 + 1)) + (IntKind.wrap .i64 ((IntKind.wrap .i64 ((IntKind.wrap .i64 n73) - n87)) - 55)))) > n2 →
                 ∃ (I110 : Int → Int → World → Prop) (μ110 : Int → Int → World → Nat), I110 0 0 w88 ∧
                 (∀ (n111 : Int) (n112 : Int) (j113 : Nat → Value) (w113 : World), I110 n111 n112 w113 →
                   (((n112 < (IntKind.wrap .i64 ((IntKind.wrap .i64 ((IntKind.wrap .i64 n73) - n87)) - 55)) →
                     ∃ (J114 : Bool → World → Prop), ((((n112 < 8 →
                        J114 (decide (n111 ≤ 2147483648)) w113)) ∧
                       ((¬ n112 < 8 →
                        J114 false w113)))) ∧
                     (∀ (b115 : Bool) (j116 : Nat → Value) (w116 : World), J114 b115 w116 →
                       (((b115 = true →
                         ∃ o117 : Option Addr, ∃ l118 : Nat, ∃ l119 : Nat, World.cell? w116 d0 = some (.slice o117 l118 l119) ∧
                         ∃ d120 : Addr, o117 = some d120 ∧
                         ((0 : Int) ≤ (IntKind.wrap .i64 ((IntKind.wrap .i64 (n1 + 1)) + n112)) ∧ (IntKind.wrap .i64 ((IntKind.wrap .i64 (n1 + 1)) + n112)) < ((l118 : Nat) : Int)) ∧
                         ∃ n121 : Int, World.cell? w116 (Addr.add d120 (Int.toNat (IntKind.wrap .i64 ((IntKind.wrap .i64 (n1 + 1)) + n112)))) = some (.int .u8 n121) ∧
                         I110 (IntKind.wrap .i64 ((IntKind.wrap .i64 (256 * n111)) + (IntKind.wrap .i64 n121))) (IntKind.wrap .i64 (n112 + 1)) w116 ∧ μ110 (IntKind.wrap .i64 ((IntKind.wrap .i64 (256 * n111)) + (IntKind.wrap .i64 n121))) (IntKind.wrap .i64 (n112 + 1)) w116 < μ110 n111 n112 w113)) ∧
                        ((b115 = false →
                         I110 n111 (IntKind.wrap .i64 (n112 + 1)) w116 ∧ μ110 n111 (IntKind.wrap .i64 (n112 + 1)) w116 < μ110 n111 n112 w113)))))) ∧
                    ((¬ n112 < (IntKind.wrap .i64 ((IntKind.wrap .i64 ((IntKind.wrap .i64 n73) - n87)) - 55)) →
                     ∃ o122 : Option Addr, ∃ l123 : Nat, ∃ l124 : Nat, World.cell? w113 d0 = some (.slice o122 l123 l124) ∧
                     ∃ d125 : Addr, o122 = some d125 ∧
                     ((0 : Int) ≤ (IntKind.wrap .i64 (n1 + 1)) ∧ (IntKind.wrap .i64 (n1 + 1)) < ((l123 : Nat) : Int)) ∧
                     ∃ n126 : Int, World.cell? w113 (Addr.add d125 (Int.toNat (IntKind.wrap .i64 (n1 + 1)))) = some (.int .u8 n126) ∧
                     (((n126 = 0 →
                       Calls Try.prog 138 #[(.pointer (some d0)), (.int .i64 40)] w113 (fun e127 w128 =>
                         ∃ b129 : Bool, ∃ o130 : Option Addr, ∃ l131 : Nat, ∃ l132 : Nat, ∃ o133 : Option Addr, ∃ l134 : Nat, ∃ l135 : Nat, ∃ n136 : Int, e127 = .returned (.tuple #[(.agg #[(.bool b129), (.slice o130 l131 l132), (.slice o133 l134 l135)]), (.int .i64 n136)]) ∧
                         CanSet w128 d4 (.bool b129) ∧ ∀ w137 : World, IsSet w128 d4 (.bool b129) w137 →
                         CanSet w137 (Addr.add d4 1) (.slice o130 l131 l132) ∧ ∀ w138 : World, IsSet w137 (Addr.add d4 1) (.slice o130 l131 l132) w138 →
                         CanSet w138 (Addr.add d4 2) (.slice o133 l134 l135) ∧ ∀ w139 : World, IsSet w138 (Addr.add d4 2) (.slice o133 l134 l135) w139 →
                         ∃ b140 : Bool, ∃ o141 : Option Addr, ∃ l142 : Nat, ∃ l143 : Nat, ∃ o144 : Option Addr, ∃ l145 : Nat, ∃ l146 : Nat, World.cell? w139 d4 = some (.bool b140) ∧
                         World.cell? w139 (Addr.add d4 1) = some (.slice o141 l142 l143) ∧
                         World.cell? w139 (Addr.add d4 2) = some (.slice o144 l145 l146) ∧
                         R (.returned (.tuple #[(.agg #[(.bool b140), (.slice o141 l142 l143), (.slice o144 l145 l146)]), (.int .i64 n136)])) w139))) ∧
                      ((n126 ≠ 0 →
                       (((n111 < 56 →
                         Calls Try.prog 138 #[(.pointer (some d0)), (.int .i64 40)] w113 (fun e147 w148 =>
                           ∃ b149 : Bool, ∃ o150 : Option Addr, ∃ l151 : Nat, ∃ l152 : Nat, ∃ o153 : Option Addr, ∃ l154 : Nat, ∃ l155 : Nat, ∃ n156 : Int, e147 = .returned (.tuple #[(.agg #[(.bool b149), (.slice o150 l151 l152), (.slice o153 l154 l155)]), (.int .i64 n156)]) ∧
                           CanSet w148 d4 (.bool b149) ∧ ∀ w157 : World, IsSet w148 d4 (.bool b149) w157 →
                           CanSet w157 (Addr.add d4 1) (.slice o150 l151 l152) ∧ ∀ w158 : World, IsSet w157 (Addr.add d4 1) (.slice o150 l151 l152) w158 →
                           CanSet w158 (Addr.add d4 2) (.slice o153 l154 l155) ∧ ∀ w159 : World, IsSet w158 (Addr.add d4 2) (.slice o153 l154 l155) w159 →
                           ∃ b160 : Bool, ∃ o161 : Option Addr, ∃ l162 : Nat, ∃ l163 : Nat, ∃ o164 : Option Addr, ∃ l165 : Nat, ∃ l166 : Nat, World.cell? w159 d4 = some (.bool b160) ∧
                           World.cell? w159 (Addr.add d4 1) = some (.slice o161 l162 l163) ∧
                           World.cell? w159 (Addr.add d4 2) = some (.slice o164 l165 l166) ∧
                           R (.returned (.tuple #[(.agg #[(.bool b160), (.slice o161 l162 l163), (.slice o164 l165 l166)]), (.int .i64 n156)])) w159))) ∧
                        ((¬ n111 < 56 →
                         (((n111 > 2147483648 →
                           Calls Try.prog 138 #[(.pointer (some d0)), (.int .i64 40)] w113 (fun e167 w168 =>
                             ∃ b169 : Bool, ∃ o170 : Option Addr, ∃ l171 : Nat, ∃ l172 : Nat, ∃ o173 : Option Addr, ∃ l174 : Nat, ∃ l175 : Nat, ∃ n176 : Int, e167 = .returned (.tuple #[(.agg #[(.bool b169), (.slice o170 l171 l172), (.slice o173 l174 l175)]), (.int .i64 n176)]) ∧
                             CanSet w168 d4 (.bool b169) ∧ ∀ w177 : World, IsSet w168 d4 (.bool b169) w177 →
                             CanSet w177 (Addr.add d4 1) (.slice o170 l171 l172) ∧ ∀ w178 : World, IsSet w177 (Addr.add d4 1) (.slice o170 l171 l172) w178 →
                             CanSet w178 (Addr.add d4 2) (.slice o173 l174 l175) ∧ ∀ w179 : World, IsSet w178 (Addr.add d4 2) (.slice o173 l174 l175) w179 →
                             ∃ b180 : Bool, ∃ o181 : Option Addr, ∃ l182 : Nat, ∃ l183 : Nat, ∃ o184 : Option Addr, ∃ l185 : Nat, ∃ l186 : Nat, World.cell? w179 d4 = some (.bool b180) ∧
                             World.cell? w179 (Addr.add d4 1) = some (.slice o181 l182 l183) ∧
                             World.cell? w179 (Addr.add d4 2) = some (.slice o184 l185 l186) ∧
                             R (.returned (.tuple #[(.agg #[(.bool b180), (.slice o181 l182 l183), (.slice o184 l185 l186)]), (.int .i64 n176)])) w179))) ∧
                          ((¬ n111 > 2147483648 →
                           J89 n111 (IntKind.wrap .i64 ((IntKind.wrap .i64 (n1 + 1)) + (IntKind.wrap .i64 ((IntKind.wrap .i64 ((IntKind.wrap .i64 n73) - n87)) - 55)))) w113)))))))))))))))))) ∧
              ((¬ (IntKind.wrap .i64 ((IntKind.wrap .i64 n73) - n87)) > 55 →
               J89 (IntKind.wrap .i64 ((IntKind.wrap .i64 n73) - n87)) (IntKind.wrap .i64 (n1 + 1)) w88)))) ∧
            (∀ (n187 : Int) (n188 : Int) (j189 : Nat → Value) (w189 : World), J89 n187 n188 w189 →
              (((n187 > (IntKind.wrap .i64 (n2 - n188)) →
                Calls Try.prog 138 #[(.pointer (some d0)), (.int .i64 41)] w189 (fun e190 w191 =>
                  ∃ b192 : Bool, ∃ o193 : Option Addr, ∃ l194 : Nat, ∃ l195 : Nat, ∃ o196 : Option Addr, ∃ l197 : Nat, ∃ l198 : Nat, ∃ n199 : Int, e190 = .returned (.tuple #[(.agg #[(.bool b192), (.slice o193 l194 l195), (.slice o196 l197 l198)]), (.int .i64 n199)]) ∧
                  CanSet w191 d4 (.bool b192) ∧ ∀ w200 : World, IsSet w191 d4 (.bool b192) w200 →
                  CanSet w200 (Addr.add d4 1) (.slice o193 l194 l195) ∧ ∀ w201 : World, IsSet w200 (Addr.add d4 1) (.slice o193 l194 l195) w201 →
                  CanSet w201 (Addr.add d4 2) (.slice o196 l197 l198) ∧ ∀ w202 : World, IsSet w201 (Addr.add d4 2) (.slice o196 l197 l198) w202 →
                  ∃ b203 : Bool, ∃ o204 : Option Addr, ∃ l205 : Nat, ∃ l206 : Nat, ∃ o207 : Option Addr, ∃ l208 : Nat, ∃ l209 : Nat, World.cell? w202 d4 = some (.bool b203) ∧
                  World.cell? w202 (Addr.add d4 1) = some (.slice o204 l205 l206) ∧
                  World.cell? w202 (Addr.add d4 2) = some (.slice o207 l208 l209) ∧
                  R (.returned (.tuple #[(.agg #[(.bool b203), (.slice o204 l205 l206), (.slice o207 l208 l209)]), (.int .i64 n199)])) w202))) ∧
               ((¬ n187 > (IntKind.wrap .i64 (n2 - n188)) →
                (((n87 = 128 →
                  ∃ (J210 : World → Prop), ((((n187 = 1 →
                     ∃ o211 : Option Addr, ∃ l212 : Nat, ∃ l213 : Nat, World.cell? w189 d0 = some (.slice o211 l212 l213) ∧
                     ∃ d214 : Addr, o211 = some d214 ∧
                     ((0 : Int) ≤ n188 ∧ n188 < ((l212 : Nat) : Int)) ∧
                     ∃ n215 : Int, World.cell? w189 (Addr.add d214 (Int.toNat n188)) = some (.int .u8 n215) ∧
                     (((n215 < 128 →
                       Calls Try.prog 138 #[(.pointer (some d0)), (.int .i64 40)] w189 (fun e216 w217 =>
                         ∃ b218 : Bool, ∃ o219 : Option Addr, ∃ l220 : Nat, ∃ l221 : Nat, ∃ o222 : Option Addr, ∃ l223 : Nat, ∃ l224 : Nat, ∃ n225 : Int, e216 = .returned (.tuple #[(.agg #[(.bool b218), (.slice o219 l220 l221), (.slice o222 l223 l224)]), (.int .i64 n225)]) ∧
                         CanSet w217 d4 (.bool b218) ∧ ∀ w226 : World, IsSet w217 d4 (.bool b218) w226 →
                         CanSet w226 (Addr.add d4 1) (.slice o219 l220 l221) ∧ ∀ w227 : World, IsSet w226 (Addr.add d4 1) (.slice o219 l220 l221) w227 →
                         CanSet w227 (Addr.add d4 2) (.slice o222 l223 l224) ∧ ∀ w228 : World, IsSet w227 (Addr.add d4 2) (.slice o222 l223 l224) w228 →
                         ∃ b229 : Bool, ∃ o230 : Option Addr, ∃ l231 : Nat, ∃ l232 : Nat, ∃ o233 : Option Addr, ∃ l234 : Nat, ∃ l235 : Nat, World.cell? w228 d4 = some (.bool b229) ∧
                         World.cell? w228 (Addr.add d4 1) = some (.slice o230 l231 l232) ∧
                         World.cell? w228 (Addr.add d4 2) = some (.slice o233 l234 l235) ∧
                         R (.returned (.tuple #[(.agg #[(.bool b229), (.slice o230 l231 l232), (.slice o233 l234 l235)]), (.int .i64 n225)])) w228))) ∧
                      ((¬ n215 < 128 →
                       J210  w189))))) ∧
                    ((n187 ≠ 1 →
                     J210  w189)))) ∧
                  (∀  (j236 : Nat → Value) (w236 : World), J210  w236 →
                    ∃ o237 : Option Addr, ∃ l238 : Nat, ∃ l239 : Nat, World.cell? w236 d0 = some (.slice o237 l238 l239) ∧
                    ((0 : Int) ≤ (IntKind.wrap .i64 (n188 + n187)) ∧ (IntKind.wrap .i64 (n188 + n187)) ≤ ((l239 : Nat) : Int)) ∧
                    ((0 : Int) ≤ n188 ∧ n188 ≤ (((Int.toNat (IntKind.wrap .i64 (n188 + n187))) : Nat) : Int)) ∧
                    ∃ (v240 : Value) (w241 : World), Sem.run Try.prog (builtinV .append #[22, 22] 22 #[(.slice none 0 0), (.slice (subO o237 l239 (Int.toNat n188) 1) ((Int.toNat (IntKind.wrap .i64 (n188 + n187))) - (Int.toNat n188)) (l239 - (Int.toNat n188)))]) w236 = .ok v240 w241 ∧
                    ∃ o242 : Option Addr, ∃ l243 : Nat, ∃ l244 : Nat, v240 = (.slice o242 l243 l244) ∧
                    CanSet w241 d4 (.bool false) ∧ ∀ w245 : World, IsSet w241 d4 (.bool false) w245 →
                    CanSet w245 (Addr.add d4 1) (.slice o242 l243 l244) ∧ ∀ w246 : World, IsSet w245 (Addr.add d4 1) (.slice o242 l243 l244) w246 →
                    CanSet w246 (Addr.add d4 2) (.slice none 0 0) ∧ ∀ w247 : World, IsSet w246 (Addr.add d4 2) (.slice none 0 0) w247 →
                    ∃ b248 : Bool, ∃ o249 : Option Addr, ∃ l250 : Nat, ∃ l251 : Nat, ∃ o252 : Option Addr, ∃ l253 : Nat, ∃ l254 : Nat, World.cell? w247 d4 = some (.bool b248) ∧
                    World.cell? w247 (Addr.add d4 1) = some (.slice o249 l250 l251) ∧
                    World.cell? w247 (Addr.add d4 2) = some (.slice o252 l253 l254) ∧
                    R (.returned (.tuple #[(.agg #[(.bool b248), (.slice o249 l250 l251), (.slice o252 l253 l254)]), (.int .i64 (IntKind.wrap .i64 (n188 + n187)))])) w247))) ∧
                 ((n87 ≠ 128 →
                  ∀ (d255 : Addr) (w256 : World), IsNew w189 138 #[(.bool false), (.slice none 0 0), (.slice none 0 0)] d255 w256 →
                  CanSet w256 d255 (.bool true) ∧ ∀ w257 : World, IsSet w256 d255 (.bool true) w257 →
                  CanSet w257 (Addr.add d255 1) (.slice none 0 0) ∧ ∀ w258 : World, IsSet w257 (Addr.add d255 1) (.slice none 0 0) w258 →
                  CanSet w258 (Addr.add d255 2) (.slice none 0 0) ∧ ∀ w259 : World, IsSet w258 (Addr.add d255 2) (.slice none 0 0) w259 →
                  ∃ (J260 : World → Prop), (∃ (I261 : Int → World → Prop) (μ261 : Int → World → Nat), I261 n188 w259 ∧
                   (∀ (n262 : Int) (j263 : Nat → Value) (w263 : World), I261 n262 w263 →
                     (((n262 < (IntKind.wrap .i64 (n188 + n187)) →
                       ∃ n264 : Int, World.cell? w263 (Addr.add d0 2) = some (.int .i64 n264) ∧
                       (((n264 = 0 →
                         Calls Try.prog 130 #[(.pointer (some d0)), (.int .i64 n262), (.int .i64 (IntKind.wrap .i64 (n188 + n187))), (.int .i64 (IntKind.wrap .i64 (n3 + 1)))] w263 (fun e265 w266 =>
                           ∃ b267 : Bool, ∃ o268 : Option Addr, ∃ l269 : Nat, ∃ l270 : Nat, ∃ o271 : Option Addr, ∃ l272 : Nat, ∃ l273 : Nat, ∃ n274 : Int, e265 = .returned (.tuple #[(.agg #[(.bool b267), (.slice o268 l269 l270), (.slice o271 l272 l273)]), (.int .i64 n274)]) ∧
                           ∀ (d275 : Addr) (w276 : World), IsNew w266 138 #[(.bool false), (.slice none 0 0), (.slice none 0 0)] d275 w276 →
                           CanSet w276 d275 (.bool b267) ∧ ∀ w277 : World, IsSet w276 d275 (.bool b267) w277 →
                           CanSet w277 (Addr.add d275 1) (.slice o268 l269 l270) ∧ ∀ w278 : World, IsSet w277 (Addr.add d275 1) (.slice o268 l269 l270) w278 →
                           CanSet w278 (Addr.add d275 2) (.slice o271 l272 l273) ∧ ∀ w279 : World, IsSet w278 (Addr.add d275 2) (.slice o271 l272 l273) w279 →
                           ∃ o280 : Option Addr, ∃ l281 : Nat, ∃ l282 : Nat, World.cell? w279 (Addr.add d255 2) = some (.slice o280 l281 l282) ∧
                           ∃ b283 : Bool, ∃ o284 : Option Addr, ∃ l285 : Nat, ∃ l286 : Nat, ∃ o287 : Option Addr, ∃ l288 : Nat, ∃ l289 : Nat, World.cell? w279 d275 = some (.bool b283) ∧
                           World.cell? w279 (Addr.add d275 1) = some (.slice o284 l285 l286) ∧
                           World.cell? w279 (Addr.add d275 2) = some (.slice o287 l288 l289) ∧
                           ∀ (d290 : Addr) (w291 : World), IsNew w279 138 #[(.bool b283), (.slice o284 l285 l286), (.slice o287 l288 l289)] d290 w291 →
                           ∃ (v292 : Value) (w293 : World), Sem.run Try.prog (builtinV .append #[136, 136] 136 #[(.slice o280 l281 l282), (.slice (some d290) 1 1)]) w291 = .ok v292 w293 ∧
                           ∃ o294 : Option Addr, ∃ l295 : Nat, ∃ l296 : Nat, v292 = (.slice o294 l295 l296) ∧
                           CanSet w293 (Addr.add d255 2) (.slice o294 l295 l296) ∧ ∀ w297 : World, IsSet w293 (Addr.add d255 2) (.slice o294 l295 l296) w297 →
                           I261 n274 w297 ∧ μ261 n274 w297 < μ261 n262 w263))) ∧
                        ((n264 ≠ 0 →
                         J260  w263))))) ∧
                      ((¬ n262 < (IntKind.wrap .i64 (n188 + n187)) →
                       J260  w263))))) ∧
                  (∀  (j298 : Nat → Value) (w298 : World), J260  w298 →
                    ∃ n299 : Int, World.cell? w298 (Addr.add d0 2) = some (.int .i64 n299) ∧
                    (((n299 ≠ 0 →
                      CanSet w298 d4 (.bool false) ∧ ∀ w300 : World, IsSet w298 d4 (.bool false) w300 →
                      CanSet w300 (Addr.add d4 1) (.slice none 0 0) ∧ ∀ w301 : World, IsSet w300 (Addr.add d4 1) (.slice none 0 0) w301 →
                      CanSet w301 (Addr.add d4 2) (.slice none 0 0) ∧ ∀ w302 : World, IsSet w301 (Addr.add d4 2) (.slice none 0 0) w302 →
                      ∃ b303 : Bool, ∃ o304 : Option Addr, ∃ l305 : Nat, ∃ l306 : Nat, ∃ o307 : Option Addr, ∃ l308 : Nat, ∃ l309 : Nat, World.cell? w302 d4 = some (.bool b303) ∧
                      World.cell? w302 (Addr.add d4 1) = some (.slice o304 l305 l306) ∧
                      World.cell? w302 (Addr.add d4 2) = some (.slice o307 l308 l309) ∧
                      R (.returned (.tuple #[(.agg #[(.bool b303), (.slice o304 l305 l306), (.slice o307 l308 l309)]), (.int .i64 0)])) w302)) ∧
                     ((n299 = 0 →
                      ∃ b310 : Bool, ∃ o311 : Option Addr, ∃ l312 : Nat, ∃ l313 : Nat, ∃ o314 : Option Addr, ∃ l315 : Nat, ∃ l316 : Nat, World.cell? w298 d255 = some (.bool b310) ∧
                      World.cell? w298 (Addr.add d255 1) = some (.slice o311 l312 l313) ∧
                      World.cell? w298 (Addr.add d255 2) = some (.slice o314 l315 l316) ∧
                      CanSet w298 d4 (.bool b310) ∧ ∀ w317 : World, IsSet w298 d4 (.bool b310) w317 →
                      CanSet w317 (Addr.add d4 1) (.slice o311 l312 l313) ∧ ∀ w318 : World, IsSet w317 (Addr.add d4 1) (.slice o311 l312 l313) w318 →
                      CanSet w318 (Addr.add d4 2) (.slice o314 l315 l316) ∧ ∀ w319 : World, IsSet w318 (Addr.add d4 2) (.slice o314 l315 l316) w319 →
                      ∃ b320 : Bool, ∃ o321 : Option Addr, ∃ l322 : Nat, ∃ l323 : Nat, ∃ o324 : Option Addr, ∃ l325 : Nat, ∃ l326 : Nat, World.cell? w319 d4 = some (.bool b320) ∧
                      World.cell? w319 (Addr.add d4 1) = some (.slice o321 l322 l323) ∧
                      World.cell? w319 (Addr.add d4 2) = some (.slice o324 l325 l326) ∧
                      R (.returned (.tuple #[(.agg #[(.bool b320), (.slice o321 l322 l323), (.slice o324 l325 l326)]), (.int .i64 (IntKind.wrap .i64 (n188 + n187)))])) w319))))))))))))))))))))))))
theorem moraineref4_reader_item.vc (d0 : Addr) (n1 : Int) (n2 : Int) (n3 : Int) (w : World) (R : Ending → World → Prop) (h : moraineref4_reader_item.Vc d0 n1 n2 n3 w R) : Calls Try.prog 130 #[(.pointer (some d0)), (.int .i64 n1), (.int .i64 n2), (.int .i64 n3)] w R :=
  execF_sound (R := ⟨R, false⟩) (ann := [(1000012, [(11, .cell (.int .i64))]), (1000026, [(12, .cell (.int .i64)), (13, .cell (.int .i64))]), (19, [(12, .cell (.int .i64)), (15, .cell (.int .i64))]), (1000022, [(93, .cell (.bool))]), (1000032, []), (1000038, []), (34, [(13, .cell (.int .i64))])]) (args := [.addr d0, .int .i64 n1, .int .i64 n2, .int .i64 n3]) Try.func130 mixed (Eq.mp (by kernel_rfl : moraineref4_reader_item.Vc d0 n1 n2 n3 w R = execF (pA Try.prog ⟨R, false⟩) Try.prog [(1000012, [(11, .cell (.int .i64))]), (1000026, [(12, .cell (.int .i64)), (13, .cell (.int .i64))]), (19, [(12, .cell (.int .i64)), (15, .cell (.int .i64))]), (1000022, [(93, .cell (.bool))]), (1000032, []), (1000038, []), (34, [(13, .cell (.int .i64))])] Try.f130 [.addr d0, .int .i64 n1, .int .i64 n2, .int .i64 n3] w) h)

abbrev moraineref4_reader_fault.n : Nat := 138
def moraineref4_reader_fault.Vc (d0 : Addr) (n1 : Int) (w : World) (R : Ending → World → Prop) : Prop :=
  ∀ (d2 : Addr) (w3 : World), IsNew w 138 #[(.bool false), (.slice none 0 0), (.slice none 0 0)] d2 w3 →
  ∃ n4 : Int, World.cell? w3 (Addr.add d0 2) = some (.int .i64 n4) ∧
  (((n4 = 0 →
    CanSet w3 (Addr.add d0 2) (.int .i64 n1) ∧ ∀ w5 : World, IsSet w3 (Addr.add d0 2) (.int .i64 n1) w5 →
    CanSet w5 d2 (.bool false) ∧ ∀ w6 : World, IsSet w5 d2 (.bool false) w6 →
    CanSet w6 (Addr.add d2 1) (.slice none 0 0) ∧ ∀ w7 : World, IsSet w6 (Addr.add d2 1) (.slice none 0 0) w7 →
    CanSet w7 (Addr.add d2 2) (.slice none 0 0) ∧ ∀ w8 : World, IsSet w7 (Addr.add d2 2) (.slice none 0 0) w8 →
    ∃ b9 : Bool, ∃ o10 : Option Addr, ∃ l11 : Nat, ∃ l12 : Nat, ∃ o13 : Option Addr, ∃ l14 : Nat, ∃ l15 : Nat, World.cell? w8 d2 = some (.bool b9) ∧
    World.cell? w8 (Addr.add d2 1) = some (.slice o10 l11 l12) ∧
    World.cell? w8 (Addr.add d2 2) = some (.slice o13 l14 l15) ∧
    R (.returned (.tuple #[(.agg #[(.bool b9), (.slice o10 l11 l12), (.slice o13 l14 l15)]), (.int .i64 0)])) w8)) ∧
   ((n4 ≠ 0 →
    CanSet w3 d2 (.bool false) ∧ ∀ w16 : World, IsSet w3 d2 (.bool false) w16 →
    CanSet w16 (Addr.add d2 1) (.slice none 0 0) ∧ ∀ w17 : World, IsSet w16 (Addr.add d2 1) (.slice none 0 0) w17 →
    CanSet w17 (Addr.add d2 2) (.slice none 0 0) ∧ ∀ w18 : World, IsSet w17 (Addr.add d2 2) (.slice none 0 0) w18 →
    ∃ b19 : Bool, ∃ o20 : Option Addr, ∃ l21 : Nat, ∃ l22 : Nat, ∃ o23 : Option Addr, ∃ l24 : Nat, ∃ l25 : Nat, World.cell? w18 d2 = some (.bool b19) ∧
    World.cell? w18 (Addr.add d2 1) = some (.slice o20 l21 l22) ∧
    World.cell? w18 (Addr.add d2 2) = some (.slice o23 l24 l25) ∧
    R (.returned (.tuple #[(.agg #[(.bool b19), (.slice o20 l21 l22), (.slice o23 l24 l25)]), (.int .i64 0)])) w18)))
theorem moraineref4_reader_fault.vc (d0 : Addr) (n1 : Int) (w : World) (R : Ending → World → Prop) (h : moraineref4_reader_fault.Vc d0 n1 w R) : Calls Try.prog 138 #[(.pointer (some d0)), (.int .i64 n1)] w R :=
  execF_sound (R := ⟨R, false⟩) (ann := []) (args := [.addr d0, .int .i64 n1]) Try.func138 mixed (Eq.mp (by kernel_rfl : moraineref4_reader_fault.Vc d0 n1 w R = execF (pA Try.prog ⟨R, false⟩) Try.prog [] Try.f138 [.addr d0, .int .i64 n1] w) h)

abbrev moraineref4_Of.n : Nat := 134
def moraineref4_Of.Vc (b0 : Bool) (o1 : Option Addr) (l1 : Nat) (c1 : Nat) (o2 : Option Addr) (l2 : Nat) (c2 : Nat) (w : World) (R : Ending → World → Prop) : Prop :=
  ∀ (d3 : Addr) (w4 : World), IsNew w 138 #[(.bool b0), (.slice o1 l1 c1), (.slice o2 l2 c2)] d3 w4 →
  ∃ b5 : Bool, World.cell? w4 d3 = some (.bool b5) ∧
  (((b5 = false →
    ∃ o6 : Option Addr, ∃ l7 : Nat, ∃ l8 : Nat, World.cell? w4 (Addr.add d3 1) = some (.slice o6 l7 l8) ∧
    Calls Try.prog 64 #[(.slice o6 l7 l8)] w4 (fun e9 w10 =>
      ∃ o11 : Option Addr, ∃ l12 : Nat, ∃ l13 : Nat, e9 = .returned (.slice o11 l12 l13) ∧
      R (.returned (.slice o11 l12 l13)) w10))) ∧
   ((b5 = true →
    ∃ (I14 : Option Addr → Nat → Nat → Int → World → Prop) (μ14 : Option Addr → Nat → Nat → Int → World → Nat), I14 none 0 0 0 w4 ∧
    (∀ (o15 : Option Addr) (l15 : Nat) (c15 : Nat) (n16 : Int) (j17 : Nat → Value) (w17 : World), I14 o15 l15 c15 n16 w17 →
      ∃ o18 : Option Addr, ∃ l19 : Nat, ∃ l20 : Nat, World.cell? w17 (Addr.add d3 2) = some (.slice o18 l19 l20) ∧
      (((n16 < ((l19 : Nat) : Int) →
        (((((l15 : Nat) : Int) ≤ 65536 →
          ∃ o21 : Option Addr, ∃ l22 : Nat, ∃ l23 : Nat, World.cell? w17 (Addr.add d3 2) = some (.slice o21 l22 l23) ∧
          ∃ d24 : Addr, o21 = some d24 ∧
          ((0 : Int) ≤ n16 ∧ n16 < ((l22 : Nat) : Int)) ∧
          ∃ b25 : Bool, ∃ o26 : Option Addr, ∃ l27 : Nat, ∃ l28 : Nat, ∃ o29 : Option Addr, ∃ l30 : Nat, ∃ l31 : Nat, World.cell? w17 (Addr.add d24 ((Int.toNat n16) * 3)) = some (.bool b25) ∧
          World.cell? w17 (Addr.add (Addr.add d24 ((Int.toNat n16) * 3)) 1) = some (.slice o26 l27 l28) ∧
          World.cell? w17 (Addr.add (Addr.add d24 ((Int.toNat n16) * 3)) 2) = some (.slice o29 l30 l31) ∧
          Calls Try.prog 134 #[(.agg #[(.bool b25), (.slice o26 l27 l28), (.slice o29 l30 l31)])] w17 (fun e32 w33 =>
            ∃ o34 : Option Addr, ∃ l35 : Nat, ∃ l36 : Nat, e32 = .returned (.slice o34 l35 l36) ∧
            ∃ (v37 : Value) (w38 : World), Sem.run Try.prog (builtinV .append #[22, 22] 22 #[(.slice o15 l15 c15), (.slice o34 l35 l36)]) w33 = .ok v37 w38 ∧
            ∃ o39 : Option Addr, ∃ l40 : Nat, ∃ l41 : Nat, v37 = (.slice o39 l40 l41) ∧
            I14 o39 l40 l41 (IntKind.wrap .i64 (n16 + 1)) w38 ∧ μ14 o39 l40 l41 (IntKind.wrap .i64 (n16 + 1)) w38 < μ14 o15 l15 c15 n16 w17))) ∧
         ((¬ ((l15 : Nat) : Int) ≤ 65536 →
          Calls Try.prog 63 #[(.slice o15 l15 c15)] w17 (fun e42 w43 =>
            ∃ o44 : Option Addr, ∃ l45 : Nat, ∃ l46 : Nat, e42 = .returned (.slice o44 l45 l46) ∧
            R (.returned (.slice o44 l45 l46)) w43)))))) ∧
       ((¬ n16 < ((l19 : Nat) : Int) →
        Calls Try.prog 63 #[(.slice o15 l15 c15)] w17 (fun e47 w48 =>
          ∃ o49 : Option Addr, ∃ l50 : Nat, ∃ l51 : Nat, e47 = .returned (.slice o49 l50 l51) ∧
          R (.returned (.slice o49 l50 l51)) w48))))))))
theorem moraineref4_Of.vc (b0 : Bool) (o1 : Option Addr) (l1 : Nat) (c1 : Nat) (o2 : Option Addr) (l2 : Nat) (c2 : Nat) (w : World) (R : Ending → World → Prop) (h : moraineref4_Of.Vc b0 o1 l1 c1 o2 l2 c2 w R) : Calls Try.prog 134 #[(.agg #[(.bool b0), (.slice o1 l1 c1), (.slice o2 l2 c2)])] w R :=
  execF_sound (R := ⟨R, false⟩) (ann := [(5, [(3, .cell (.slice)), (4, .cell (.int .i64))])]) (args := [.agg [.bool (.var b0), .slice o1 l1 c1, .slice o2 l2 c2]]) Try.func134 mixed (Eq.mp (by kernel_rfl : moraineref4_Of.Vc b0 o1 l1 c1 o2 l2 c2 w R = execF (pA Try.prog ⟨R, false⟩) Try.prog [(5, [(3, .cell (.slice)), (4, .cell (.int .i64))])] Try.f134 [.agg [.bool (.var b0), .slice o1 l1 c1, .slice o2 l2 c2]] w) h)

end Go.Proofs.Ytfghidehlnfdiaa
end
