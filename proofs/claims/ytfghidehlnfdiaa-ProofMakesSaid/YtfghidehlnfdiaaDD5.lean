/- Contracts: rlp's decoder. -/
/- Contracts: rlp.First, rlp.Decode. -/
/- The verification conditions of some functions, printed by a program of ours (wip/PrintVc.lean). -/
/- Contracts: the reference's decoder (moraineref4). -/
import Derived.Test.YtfghidehlnfdiaaDD2
import Derived.Test.YtfghidehlnfdiaaProg
import Derived.KernelRfl
set_option linter.unusedVariables false
set_option linter.unusedSimpArgs false
section
namespace Go.Proofs.Ytfghidehlnfdiaa
open Go Go.Vcg Go.Trie
section
variable {A : Nat → Prop} {w w' : World} {xs : List It} {o : Option Addr} {l k : Nat}
def ItOwn (A : Nat → Prop) (w : World) (xs : List It) (o : Option Addr) (l k : Nat) : Prop :=
  l = xs.length ∧ ∃ vs, Own w tItem 3 o l k vs ∧ ∀ j (hj : j < xs.length), ∃ v1 v2 v3, vs[j * 3]? = some v1 ∧ vs[j * 3 + 1]? = some v2 ∧ vs[j * 3 + 2]? = some v3 ∧ ItC (fun b => A b ∨ OB o b) w xs[j] v1 v2 v3
theorem ItOwn.nil (A : Nat → Prop) (w : World) : ItOwn A w [] none 0 0 := ⟨rfl, [], Own.nil _ _ _, fun j hj => absurd hj (by simp)⟩
theorem ItOwn.lt (h : ItOwn A w xs o l k) : ∀ b, OB o b → b < w.heap.size := by
  obtain ⟨_, vs, F, _⟩ := h
  exact fun b hb => F.lt hb
theorem ItOwn.cap (h : ItOwn A w xs o l k) : l ≤ k := by
  obtain ⟨_, vs, F, _⟩ := h
  exact F.cap.1
theorem ItOwn.modS {S : Nat → Prop} (h : ItOwn A w xs o l k) (M : Vcg.Mod S w w') (hS : ∀ b, S b → A b) (hO : ∀ b, OB o b → ¬ S b) : ItOwn A w' xs o l k := by
  obtain ⟨h1, vs, F, h2⟩ := h
  refine ⟨h1, vs, F.mod M hO, fun j hj => ?_⟩
  obtain ⟨v1, v2, v3, a, b, d, e⟩ := h2 j hj
  exact ⟨v1, v2, v3, a, b, d, ItC.modA M (fun b hb => .inl (hS b hb)) _ e⟩
theorem ItOwn.mod' (h : ItOwn A w xs o l k) (M : Vcg.Mod NoB w w') : ItOwn A w' xs o l k := h.modS M (fun _ h => h.elim) (fun _ _ h => h)
theorem ItOwn.push (h : ItOwn A w xs o l k) {D : Nat} {x : It} {v1 v2 v3 : Value} (B : Blk w D tItem #[v1, v2, v3]) (hx : ItC (fun b => A b ∨ OB o b) w x v1 v2 v3) (hl : xs.length ≤ 2 ^ 20) :
    ∃ o' k' w', Sem.run Try.prog (builtinV .append #[136, 136] 136 #[.slice o l k, .slice (some ⟨D, 0, none⟩) 1 1]) w = .ok (.slice o' (l + 1) k') w' ∧ ItOwn A w' (xs ++ [x]) o' (l + 1) k' ∧ Vcg.Mod (OB o) w w' ∧ (∀ b, OB o' b → OB o b ∨ w.heap.size ≤ b) := by
  obtain ⟨rfl, vs, F, hv⟩ := h
  obtain ⟨i, hi, hz, hs, hb⟩ := info_of info_item
  obtain ⟨b, p1, q1, r1, p2, q2, r2, rfl, rfl, rfl⟩ := hx.vals
  obtain ⟨o', k', w', h1, h2, h3, h4⟩ := append_own (ty := 136) und_slItem hi hz hs rfl F (src_one und_slItem B rfl (by simp [Value.oneCell'])) (by simp only [maxLen]; omega) (by rw [hb]; omega)
  have hlen : vs.length = xs.length * 3 := F.1
  have step : ∀ {y : It} {v1 v2 v3 : Value}, ItC (fun b => A b ∨ OB o b) w y v1 v2 v3 → ItC (fun b => A b ∨ OB o' b) w' y v1 v2 v3 := fun hy =>
    ItC.mono (fun b hb => hb.elim (fun h => .inl (.inl h)) (fun h => (h4 b h).elim (fun h => .inl (.inr h)) .inr)) _ (ItC.modA h3 (fun b h => .inl (.inr h)) _ (ItC.old _ hy))
  refine ⟨o', k', w', h1, ⟨by simp, _, h2, fun j hj => ?_⟩, h3, h4⟩
  rw [List.length_append, List.length_cons, List.length_nil] at hj
  by_cases hjx : j < xs.length
  · obtain ⟨v1, v2, v3, a, b, d, e⟩ := hv j hjx
    refine ⟨v1, v2, v3, ?_, ?_, ?_, ?_⟩
    · rw [List.getElem?_append_left (by omega)]; exact a
    · rw [List.getElem?_append_left (by omega)]; exact b
    · rw [List.getElem?_append_left (by omega)]; exact d
    · rw [List.getElem_append_left hjx]; exact step e
  · obtain rfl : j = xs.length := by omega
    refine ⟨.bool b, .slice p1 q1 r1, .slice p2 q2 r2, ?_, ?_, ?_, ?_⟩
    · rw [List.getElem?_append_right (by omega), hlen, Nat.sub_self]; rfl
    · rw [List.getElem?_append_right (by omega), hlen, show xs.length * 3 + 1 - xs.length * 3 = 1 by omega]; rfl
    · rw [List.getElem?_append_right (by omega), hlen, show xs.length * 3 + 2 - xs.length * 3 = 2 by omega]; rfl
    · rw [List.getElem_append_right (by omega)]
      simp only [Nat.sub_self, List.getElem_cons_zero]
      exact step hx
theorem ItOwn.its (h : ItOwn A w xs o l k) (hA : ∀ b, A b → ¬ OB o b) : ItsC A w xs o 0 := by
  obtain ⟨rfl, vs, F, hv⟩ := h
  refine its_of xs 0 (fun j hj => ?_)
  obtain ⟨v1, v2, v3, a, b, d, e⟩ := hv j hj
  obtain ⟨g, ho, hc1⟩ := F.cell a
  obtain ⟨g', ho', hc2⟩ := F.cell b
  obtain ⟨g'', ho'', hc3⟩ := F.cell d
  rw [ho] at ho' ho''
  cases ho'; cases ho''
  rw [Nat.zero_add]
  exact ⟨g, v1, v2, v3, ho, F.lt ⟨_, ho, rfl⟩, fun h => hA _ h ⟨_, ho, rfl⟩, hc1, hc2, hc3, ItC.mono (fun _ h => .inl h) _ e⟩
end
theorem meets_bad {w : World} {D n depth : Nat} (W : Blk w D 231 #[.int .i64 (n : Int)]) (h : depth > 16 ∨ n = 4096) :
    Calls Try.prog rlp_walker_meets.n #[.pointer (some ⟨D, 0, none⟩), .int .i64 (depth : Int)] w (fun e w' => e = .returned (.int .i64 43) ∧ w' = w) := by
  refine rlp_walker_meets.vc _ _ _ _ ?_
  unfold rlp_walker_meets.Vc
  exact ⟨fun _ => ⟨rfl, rfl⟩, fun hd => ⟨_, W.rd1 rfl, fun _ => ⟨rfl, rfl⟩, fun hn => by omega⟩⟩
def pre (xs : List It) (r : Except Int (List It × Nat)) : Except Int (List It × Nat) := match r with
  | .error e => .error e
  | .ok (ys, m) => .ok (xs ++ ys, m)
theorem pre_nil (r : Except Int (List It × Nat)) : pre [] r = r := by cases r <;> rfl
theorem pre_pre (xs ys : List It) (r : Except Int (List It × Nat)) : pre xs (pre ys r) = pre (xs ++ ys) r := by
  cases r <;> simp [pre]
def DecIs (r : Except Int (It × Nat × Nat)) (w : World) (D : Nat) (e : Ending) (w' : World) : Prop := match r with
  | .error x => x ≠ 0 ∧ ∃ b o1 l1 k1 o2 l2 k2 n1, e = .returned (.tuple #[.agg #[.bool b, .slice o1 l1 k1, .slice o2 l2 k2], .int .i64 n1, .int .i64 x])
  | .ok (x, q, m) => Blk w' D 231 #[.int .i64 (m : Int)] ∧ ∃ v1 v2 v3, e = .returned (.tuple #[.agg #[v1, v2, v3], .int .i64 (q : Int), .int .i64 0]) ∧ ItC (fun b => b < w.heap.size) w' x v1 v2 v3
theorem sub_bytes {w : World} {o : Option Addr} {bs : By} {k a q : Nat} (h : RdB w o bs) (hk : bs.length ≤ k) : RdB w (subO o k a 1) ((bs.drop a).take q) := h.sub hk
theorem off_sub {S : Nat → Prop} {o : Option Addr} (h : Off S o) (c n : Nat) : Off S (subO o c n 1) := fun d hd => by
  unfold subO at hd
  split at hd
  · exact h d hd
  · cases o with
    | none => simp at hd
    | some a =>
      simp only [Option.map_some, Option.some.injEq] at hd
      have e : (a.add (n * 1)).block = a.block := by
        obtain ⟨b, f, s⟩ := a
        simp only [Addr.add]
        split <;> rfl
      rw [← hd, e]
      exact h a rfl
set_option maxHeartbeats 1000000 in
set_option maxRecDepth 10000 in
theorem first_calls : ∀ (f d n : Nat) (bs : By) {w : World} {D k : Nat} {o : Option Addr}, 2 * bs.length + 1 ≤ f → bs.length ≤ 65536 → RdB w o bs → bs.length ≤ k → Blk w D 231 #[.int .i64 (n : Int)] → (bs ≠ [] → Off (· = D) o) → n ≤ 4096 → d ≤ 20 →
    Calls Try.prog rlp_walker_first.n #[.pointer (some ⟨D, 0, none⟩), .slice o bs.length k, .int .i64 (d : Int)] w (fun e w' => Vcg.Mod (· = D) w w' ∧ DecIs (dcd f d n bs) w D e w')
  | 0, _, _, _, _, _, _, _, hf, _, _, _, _, _, _, _ => absurd hf (by omega)
  | f + 1, d, n, bs, w, D, k, o, hf, hlen, hr, hk, W, hoff, hn, hd20 => by
    refine calls_gen fun R hR => rlp_walker_first.vc _ _ _ _ _ _ _ ?_
    unfold rlp_walker_first.Vc
    have hD := W.lt
    rintro d3 w1 ⟨rfl, rfl⟩
    have M1 : Vcg.Mod NoB w _ := Mod.alloc w (.cells #[.bool false, .slice none 0 0, .slice none 0 0] 138)
    have X1 := Blk.new w 138 #[.bool false, .slice none 0 0, .slice none 0 0]
    have hs1 := size_alloc w (.cells #[.bool false, .slice none 0 0, .slice none 0 0] 138)
    have W1 := W.mod' M1
    have hr1 := hr.mod' M1
    generalize hN : w.heap.size = N at *
    generalize w.alloc (.cells #[.bool false, .slice none 0 0, .slice none 0 0] 138) = w1 at *
    have M1' : Vcg.Mod (· = D) w w1 := M1.mono (fun _ _ h => h.elim)
    -- an error is told
    have bad : ∀ (w' : World) (a b c : Value) (x : Int), Vcg.Mod (· = D) w w' → Blk w' N 138 #[a, b, c] → dcd (f + 1) d n bs = .error x → x ≠ 0 → ∀ w'' : World, Vcg.Mod (· = N) w' w'' → R (.returned (.tuple #[.agg #[.bool false, .slice none 0 0, .slice none 0 0], .int .i64 0, .int .i64 x])) w'' := by
      intro w' a b c x M X hx h0 w'' M'
      refine hR _ _ ⟨M.trans M' (fun i hi h => by omega), ?_⟩
      rw [hx]
      exact ⟨h0, _, _, _, _, _, _, _, _, rfl⟩
    refine ⟨fun h0 => ?_, fun h0 => ?_⟩
    · have hb : bs = [] := List.eq_nil_of_length_eq_zero (by omega)
      exact ret_3 X1 (bad w1 _ _ _ 41 M1' X1 (by rw [hb]; exact dcd_nil f d n) (by decide))
    have hbne : bs ≠ [] := by rintro rfl; simp at h0
    by_cases hdn : d > 16 ∨ n = 4096
    · refine (meets_bad W1 hdn).mono ?_
      rintro _ w1 ⟨rfl, rfl⟩
      exact ⟨_, rfl, fun _ => ret_3 X1 (bad _ _ _ _ 43 M1' X1 (dcd_deep hbne hdn) (by decide)), fun h => absurd h (by decide)⟩
    refine (meets_calls W1 (by omega) (by omega)).mono ?_
    rintro _ w2 ⟨rfl, M2, W2⟩
    have X2 := X1.mod M2 (by omega)
    have hr2 := hr1.mod M2 (hoff hbne)
    have M02 := M1'.trans M2 (fun i hi h => h)
    have hs2 := M2.size
    refine ⟨_, rfl, fun h => (h rfl).elim, fun _ => ?_⟩
    refine (reads_calls hr2 hbne hk (by omega)).mono ?_
    rintro _ w3 ⟨M3, b1, n1, n2, b2, b3, e0, rfl, hhd⟩
    have X3 := X2.mod' M3
    have W3 := W2.mod' M3
    have hr3 := hr2.mod' M3
    have M03 := M02.none_trans M3
    have hs3 := M3.size
    clear X1 X2 W1 W2 hr1 hr2 M1 M1' M02 M2 M3
    refine ⟨_, _, _, _, _, _, rfl, ?_⟩
    rintro d4 w4 ⟨rfl, rfl⟩
    have H4 := Blk.new w3 239 #[.bool false, .int .i64 0, .int .i64 0, .bool false, .bool false]
    have X4 := X3.alloc (.cells #[.bool false, .int .i64 0, .int .i64 0, .bool false, .bool false] 239)
    have W4 := W3.alloc (.cells #[.bool false, .int .i64 0, .int .i64 0, .bool false, .bool false] 239)
    have M4 : Vcg.Mod NoB w3 _ := Mod.alloc w3 (.cells #[.bool false, .int .i64 0, .int .i64 0, .bool false, .bool false] 239)
    have hr4 := hr3.mod' M4
    have M04 := M03.none_trans M4
    have hs4 := size_alloc w3 (.cells #[.bool false, .int .i64 0, .int .i64 0, .bool false, .bool false] 239)
    generalize hH : w3.heap.size = H at *
    generalize w3.alloc (.cells #[.bool false, .int .i64 0, .int .i64 0, .bool false, .bool false] 239) = w4 at *
    refine set5 H4 rfl rfl rfl rfl rfl (fun w5 H5 Q5 => ?_)
    have X5 := X4.mod Q5 (by omega)
    have W5 := W4.mod Q5 (by omega)
    have hr5 : RdB w5 o bs := hr4.mod Q5 (fun e he h => by
      obtain ⟨bb, ff, ho, hb, _⟩ := hr hbne
      rw [ho] at he; cases he
      simp only at h
      omega)
    have M05 := M04.trans Q5 (fun i hi h => by omega)
    have hs5 := Q5.size
    clear X3 X4 W3 W4 hr3 hr4 M03 M04 M4 Q5 H4
    have hdec := dcd_go (f := f) hbne hdn
    cases hh : hd bs with
    | error x =>
      rw [hh] at hhd hdec
      obtain ⟨rfl, hx0⟩ := hhd
      exact ⟨fun _ => ret_3 X5 (bad _ _ _ _ _ M05 X5 hdec hx0), fun h => (hx0 h).elim⟩
    | ok r =>
      obtain ⟨lst, a, q, ow⟩ := r
      rw [hh] at hhd hdec
      simp only at hdec
      obtain ⟨rfl, rfl, rfl, rfl, rfl⟩ := hhd
      obtain ⟨hat1, hat2⟩ := hd_at hh hbne
      have ha9 : a ≤ bs.length := by
        cases b2 with
        | true => have := (hat1 rfl).2.1; omega
        | false => exact (hat2 rfl).2.1
      have hq31 := hd_bound hh
      refine ⟨fun h => (h rfl).elim, fun _ => ⟨_, by rw [add_at]; exact H5.rd1 rfl, _, by rw [add_at]; exact H5.rd1 rfl, ?_⟩⟩
      have e1 : IntKind.wrap .i64 ((bs.length : Int) - (a : Int)) = ((bs.length - a : Nat) : Int) := by rw [wrap_i64_small (by omega) (by omega)]; omega
      have e2 : IntKind.wrap .i64 ((a : Int) + (q : Int)) = ((a + q : Nat) : Int) := by rw [wrap_i64_small (by omega) (by omega)]; omega
      rw [e1]
      refine ⟨fun hbig => ?_, fun hbig => ?_⟩
      · rw [if_pos (by omega)] at hdec
        exact ret_3 X5 (bad _ _ _ _ 41 M05 X5 hdec (by decide))
      rw [if_neg (by omega)] at hdec
      refine ⟨_, by rw [add_at]; exact H5.rd1 rfl, _, by rw [add_at]; exact H5.rd1 rfl, _, by rw [add_at]; exact H5.rd1 rfl, ?_⟩
      rw [e2]
      simp only [Int.toNat_natCast]
      refine ⟨⟨by omega, by omega⟩, ⟨by omega, by omega⟩, _, by rw [add_at]; exact H5.rd1 rfl, _, by rw [add_at]; exact H5.rd1 rfl, _, H5.rd1 rfl, ?_⟩
      rw [e2]
      have hin := sub_bytes (a := a) (q := q) hr5 hk
      have hil : ((bs.drop a).take q).length = q := by rw [List.length_take, List.length_drop]; omega
      have hoffi : Off (fun b => b = D ∨ N ≤ b) (subO o k a 1) := off_sub (fun e he h => by
        rcases h with h | h
        · exact hoff hbne e he h
        · obtain ⟨bb, ff, ho, hb, _⟩ := hr hbne
          rw [ho] at he; cases he
          simp only at h
          omega) k a
      rw [show a + q - a = ((bs.drop a).take q).length by omega]
      generalize hI : (bs.drop a).take q = inn at *
      generalize subO o k a 1 = oi at *
      -- a string is told
      have str : ∀ {w6 : World}, Vcg.Mod (· = D) w w6 → RdB w6 oi inn → Blk w6 N 138 #[.bool false, .slice none 0 0, .slice none 0 0] → Blk w6 D 231 #[.int .i64 ((n + 1 : Nat) : Int)] → dcd (f + 1) d n bs = .ok (.s inn, a + q, n + 1) →
          Calls Try.prog 78 #[(.slice oi inn.length (k - a))] w6 (fun e85 w86 => ∃ o87 : Option Addr, ∃ l88 : Nat, ∃ l89 : Nat, e85 = .returned (.slice o87 l88 l89) ∧ Blk w86 N 138 #[.bool false, .slice none 0 0, .slice none 0 0] ∧
            ∀ w' : World, Vcg.Mod (· = N) w86 w' → R (.returned (.tuple #[(.agg #[(.bool false), (.slice o87 l88 l89), (.slice none 0 0)]), (.int .i64 ((a + q : Nat) : Int)), (.int .i64 0)])) w') := by
        intro w6 M6 hin6 X6 W6 hd6
        refine (Clone_calls hin6 (by omega)).mono ?_
        rintro _ w7 ⟨o7, k7, rfl, F7⟩
        refine ⟨_, _, _, rfl, X6.mod' F7.mod, fun w8 M8 => hR _ _ ⟨(M6.none_trans F7.mod).trans M8 (fun i hi h => by omega), ?_⟩⟩
        rw [hd6]
        have hNN := X6.lt
        have hN7 : ∀ b, OB o7 b → ¬ b = N := fun b hb h => by have := F7.new b hb; omega
        refine ⟨((W6.mod' F7.mod).mod M8 (by omega)), _, _, _, rfl, ?_⟩
        simp only [ItC]
        refine ⟨trivial, ⟨o7, k7, rfl, (F7.own.mod M8 hN7).bytes, fun _ dd hdd h => ?_⟩, trivial⟩
        have := F7.new dd.block ⟨dd, hdd, rfl⟩
        have := M6.size
        omega
      refine ⟨fun hl => ⟨_, by rw [add_at]; exact H5.rd1 rfl, fun how => ?_, fun how => ?_⟩, fun hl => ?_⟩
      · refine (own_calls hin).mono ?_
        rintro _ w6 ⟨rfl, rfl⟩
        rw [if_pos hl] at hdec
        refine ⟨_, rfl, fun ho => ?_, fun ho => ?_⟩
        · rw [if_pos ⟨how, ho⟩] at hdec
          exact ret_3 X5 (bad _ _ _ _ 40 M05 X5 hdec (by decide))
        · rw [if_neg (fun h => by rw [ho] at h; exact absurd h.2 (by decide))] at hdec
          refine (str M05 hin X5 W5 hdec).mono ?_
          rintro _ w7 ⟨o7, l7, k7, rfl, X7, h7⟩
          exact ⟨_, _, _, rfl, ret_3 X7 h7⟩
      · rw [if_pos hl, if_neg (fun h => by rw [how] at h; exact absurd h.1 (by decide))] at hdec
        refine (str M05 hin X5 W5 hdec).mono ?_
        rintro _ w7 ⟨o7, l7, k7, rfl, X7, h7⟩
        exact ⟨_, _, _, rfl, ret_3 X7 h7⟩
      -- a list: items, one behind the other
      rw [if_neg (by rw [hl]; decide)] at hdec
      have hof : b2 = false := by
        cases b2 with
        | true => have := (hat1 rfl).1; rw [hl] at this; cases this
        | false => rfl
      have hinl : inn.length < bs.length := by
        have := (hat2 hof).1
        omega
      rintro dX w6 ⟨rfl, rfl⟩
      have Y6 := Blk.new w5 138 #[.bool false, .slice none 0 0, .slice none 0 0]
      have M56 : Vcg.Mod NoB w5 _ := Mod.alloc w5 (.cells #[.bool false, .slice none 0 0, .slice none 0 0] 138)
      have X6 := X5.mod' M56
      have W6 := W5.mod' M56
      have hin6 := hin.mod' M56
      have M06 := M05.none_trans M56
      have hs6 := size_alloc w5 (.cells #[.bool false, .slice none 0 0, .slice none 0 0] 138)
      generalize hY : w5.heap.size = Y at *
      generalize w5.alloc (.cells #[.bool false, .slice none 0 0, .slice none 0 0] 138) = w6 at *
      refine set3 Y6 rfl rfl rfl (fun w7 Y7 Q7 => ?_)
      have X7 := X6.mod Q7 (by omega)
      have W7 := W6.mod Q7 (by omega)
      have hin7 : RdB w7 oi inn := by
        by_cases hie : inn = []
        · rw [hie]; exact RdB.nil _ _
        · obtain ⟨bb, ff, ho, hb, _⟩ := hin hie
          refine hin6.mod Q7 (fun e he h => ?_)
          rw [ho] at he; cases he
          simp only at h
          omega
      have M07 := M06.trans Q7 (fun i hi h => by omega)
      have hs7 := Q7.size
      clear X6 W6 Y6 hin6 M06 M56 Q7 X5 W5 hin M05 H5 str
      refine ⟨fun o' l' k' w' => ∃ (rest : By) (n' : Nat) (xs : List It) (f' : Nat) (ol : Option Addr) (kl : Nat) (v : Value),
        l' = rest.length ∧ RdB w' o' rest ∧ Off (fun b => b = D ∨ N ≤ b) o' ∧ rest.length ≤ k' ∧ rest.length ≤ inn.length ∧ xs.length + rest.length ≤ inn.length ∧ Blk w' D 231 #[.int .i64 (n' : Int)] ∧ n' ≤ 4096 ∧
        Blk w' Y 138 #[.bool true, .slice none 0 0, .slice ol xs.length kl] ∧ (∃ a b c, Blk w' N 138 #[a, b, c]) ∧ ItOwn (fun b => b < w7.heap.size) w' xs ol xs.length kl ∧ (∀ b, OB ol b → w7.heap.size ≤ b) ∧ Vcg.Mod (· = D) w w' ∧ w7.heap.size ≤ w'.heap.size ∧
        dcds f (d + 1) (n + 1) inn = pre xs (dcds f' (d + 1) n' rest) ∧ 2 * rest.length + 2 ≤ f' ∧ f' ≤ f, fun _ l' _ _ => l', ?_, ?_⟩
      · exact ⟨inn, n + 1, [], f, none, 0, .nilIface, rfl, hin7, hoffi, by omega, Nat.le_refl _, by simp, W7, by omega, by rw [hl] at *; exact Y7, ⟨_, _, _, X7⟩, ItOwn.nil _ _, fun b hb => (OB_none b hb).elim, M07, Nat.le_refl _, (pre_nil _).symm, by omega, Nat.le_refl _⟩
      · rintro o8 _ c8 _ w8 ⟨rest, n', xs, f', ol, kl, _, rfl, hr8, hoff8, hc8, hrl, hxr, W8, hn', Y8, ⟨xa, xb, xc, X8⟩, I8, hnew, M08, hs8, hde, hf', hff⟩
        refine ⟨fun hpos => ?_, fun hpos => ?_⟩
        · have hrne : rest ≠ [] := by rintro rfl; simp at hpos
          obtain ⟨f2, rfl⟩ : ∃ f2, f' = f2 + 1 := ⟨f' - 1, by omega⟩
          rw [dcds_go hrne] at hde
          have ed : IntKind.wrap .i64 ((d : Int) + 1) = ((d + 1 : Nat) : Int) := by rw [wrap_i64_small (by omega) (by omega)]; omega
          rw [ed]
          refine (first_calls f2 (d + 1) n' rest (by omega) (by omega) hr8 hc8 W8 (fun _ e he h => hoff8 e he (.inl h)) hn' (by omega)).mono ?_
          rintro e w9 ⟨M9, hdi⟩
          have hs9 := M9.size
          have Y9 := Y8.mod M9 (by omega)
          have X9 := X8.mod M9 (by omega)
          have I9 := I8.modS M9 (fun b hb => by omega) (fun b hb h => by have := hnew b hb; omega)
          have M09 := M08.trans M9 (fun i hi h => h)
          have hr9 := hr8.mod M9 (fun e he h => hoff8 e he (.inl h))
          cases hd1 : dcd f2 (d + 1) n' rest with
          | error x =>
            rw [hd1] at hdi hde
            obtain ⟨hx0, bb, p1, q1, r1, p2, q2, r2, m1, rfl⟩ := hdi
            refine ⟨_, _, _, _, _, _, _, _, _, rfl, ?_⟩
            rintro dA wA ⟨rfl, rfl⟩
            have HA := Blk.new w9 138 #[.bool false, .slice none 0 0, .slice none 0 0]
            have XA := X9.alloc (.cells #[.bool false, .slice none 0 0, .slice none 0 0] 138)
            have MA := M09.step_alloc (.cells #[.bool false, .slice none 0 0, .slice none 0 0] 138)
            refine set3 HA rfl rfl rfl (fun wB HB QB => ?_)
            have XB := XA.mod QB (by omega)
            have MB := MA.trans QB (fun i hi h => by omega)
            exact ⟨fun _ => ret_3 XB (bad _ _ _ _ _ MB XB (by rw [hdec, hde]; rfl) hx0), fun h => (hx0 h).elim⟩
          | ok r =>
            obtain ⟨y, q', m'⟩ := r
            rw [hd1] at hdi hde
            simp only at hde
            obtain ⟨W9, v1, v2, v3, rfl, hy⟩ := hdi
            obtain ⟨k1, k2, k3, k4, k5, k6⟩ := (dec_ok f2 (d + 1) n' rest).1 _ _ _ hd1
            obtain ⟨bb, p1, q1, r1, p2, q2, r2, rfl, rfl, rfl⟩ := hy.vals
            refine ⟨_, _, _, _, _, _, _, _, _, rfl, ?_⟩
            rintro dA wA ⟨rfl, rfl⟩
            have HA := Blk.new w9 138 #[.bool false, .slice none 0 0, .slice none 0 0]
            have M9A : Vcg.Mod NoB w9 _ := Mod.alloc w9 (.cells #[.bool false, .slice none 0 0, .slice none 0 0] 138)
            have hsA := size_alloc w9 (.cells #[.bool false, .slice none 0 0, .slice none 0 0] 138)
            generalize hHA : w9.heap.size = HH at *
            generalize w9.alloc (.cells #[.bool false, .slice none 0 0, .slice none 0 0] 138) = wA at *
            refine set3 HA rfl rfl rfl (fun wB HB QB => ?_)
            have M9B : Vcg.Mod NoB w9 wB := mod_of M9A QB (by omega)
            have XB := X9.mod' M9B
            have YB := Y9.mod' M9B
            have WB := W9.mod' M9B
            have hyB := ItC.mod M9B _ hy
            have hrB := hr9.mod' M9B
            have IB := I9.mod' M9B
            have MB := M09.none_trans M9B
            have hsB := M9B.size
            clear HA M9A QB X9 Y9 W9 hr9 I9 M09 hy
            refine ⟨fun h => (h rfl).elim, fun _ => ?_⟩
            rintro _ rfl
            have MBC : Vcg.Mod NoB wB wB.drew := Mod.drew wB
            have XC := XB.mod' MBC
            have YC := YB.mod' MBC
            have WC := WB.mod' MBC
            have HC := HB.mod' MBC
            have hyC := ItC.mod MBC _ hyB
            have hrC := hrB.mod' MBC
            have IC := IB.mod' MBC
            have MC := MB.none_trans MBC
            have hsC := MBC.size
            clear XB YB WB HB hyB hrB IB MB MBC
            generalize wB.drew = wC at *
            refine ⟨_, _, _, by rw [add_at]; exact YC.rd1 rfl, get3 HC ⟨⟨by omega, by omega⟩, ?_⟩⟩
            rintro dD wD ⟨rfl, rfl⟩
            have MD : Vcg.Mod NoB wC _ := Mod.alloc wC (.cells #[.bool bb, .slice p1 q1 r1, .slice p2 q2 r2] 138)
            have E := Blk.new wC 138 #[.bool bb, .slice p1 q1 r1, .slice p2 q2 r2]
            have XD := XC.mod' MD
            have YD := YC.mod' MD
            have WD := WC.mod' MD
            have hyD := ItC.mod MD _ hyC
            have hrD := hrC.mod' MD
            have ID := IC.mod' MD
            have M0D := MC.none_trans MD
            have hsD := MD.size
            clear XC YC WC HC hyC hrC IC MC
            generalize wC.heap.size = HE at *
            generalize wC.alloc (.cells #[.bool bb, .slice p1 q1 r1, .slice p2 q2 r2] 138) = wD at *
            refine ⟨by rw [add_at]; exact YD.rd1 rfl, ?_⟩
            have hlt8 := I8.lt
            obtain ⟨o', k', wE, hrun, IE, QE, hOB⟩ := ID.push E (ItC.mono (fun b hb => by
              rcases hb with h | h
              · exact Nat.lt_of_lt_of_le h hs8
              · exact hlt8 b h) _ hyD) (by omega)
            have nE : ∀ b, OB o' b → w7.heap.size ≤ b := fun b hb => by
              rcases hOB b hb with h | h
              · exact hnew b h
              · omega
            have XE := XD.mod QE (fun h => by have := hnew _ h; omega)
            have YE := YD.mod QE (fun h => by have := hnew _ h; omega)
            have WE := WD.mod QE (fun h => by have := hnew _ h; omega)
            have hrE : RdB wE o8 rest := hrD.mod QE (fun e he h => hoff8 e he (.inr (by have := hnew _ h; omega)))
            have M0E := M0D.trans QE (fun i hi h => by have := hnew _ h; omega)
            have hsE := QE.size
            refine ⟨_, wE, hrun, _, _, _, rfl, ?_⟩
            rw [add_at]
            refine ⟨YE.canSet (by simp) rfl, ?_⟩
            rintro _ rfl
            have QF : Vcg.Mod (· = Y) wE _ := Mod.setCell wE ⟨Y, 0 + 2, none⟩ (.slice o' (xs.length + 1) k')
            have YF := YE.set 2 (.slice o' (xs.length + 1) k')
            have IF := IE.modS QF (fun b hb => by omega) (fun b hb h => by have := nE b hb; omega)
            have XF := XE.mod QF (by omega)
            have WF := WE.mod QF (by omega)
            have hrF : RdB _ o8 rest := hrE.mod QF (fun e he h => hoff8 e he (.inr (by omega)))
            have M0F := M0E.trans QF (fun i hi h => by omega)
            have hsF := QF.size
            rw [Int.toNat_natCast]
            refine ⟨⟨rest.drop q', m', xs ++ [y], f2, o', k', .nilIface, by rw [List.length_drop], sub_drop hrF hc8, off_sub hoff8 _ _, by rw [List.length_drop]; omega, by rw [List.length_drop]; omega, by rw [List.length_append, List.length_drop, List.length_singleton]; omega, WF, by omega, by rw [List.length_append, List.length_singleton]; exact YF, ⟨_, _, _, XF⟩, by rw [List.length_append, List.length_singleton]; exact IF, nE, M0F, by omega, ?_, by rw [List.length_drop]; omega, by omega⟩, by dsimp only; omega⟩
            rw [hde, ← pre_pre]
            congr 1
        · obtain rfl : rest = [] := List.eq_nil_of_length_eq_zero (by omega)
          obtain ⟨f2, rfl⟩ : ∃ f2, f' = f2 + 1 := ⟨f' - 1, by omega⟩
          rw [dcds_nil] at hde
          have hits := I8.its (fun b hb h => by have := hnew b h; omega)
          refine get3 Y8 (ret_3 X8 (fun w9 M9 => hR _ _ ⟨M08.trans M9 (fun i hi h => by omega), ?_⟩))
          rw [hdec, hde]
          simp only [pre, List.append_nil]
          refine ⟨W8.mod M9 (by omega), _, _, _, rfl, ?_⟩
          simp only [ItC]
          exact ⟨trivial, trivial, ol, kl, rfl, ItsC.mono (fun b hb => by omega) _ (ItsC.modA M9 (fun b hb => by omega) _ hits), I8.cap⟩
end Go.Proofs.Ytfghidehlnfdiaa
end
section
namespace Go.Proofs.Ytfghidehlnfdiaa
open Go Go.Vcg Go.Trie
def FirstIs (bs : By) (w : World) (e : Ending) (w' : World) : Prop :=
  if bs.length > 65536 then ∃ b o1 l1 k1 o2 l2 k2 n1, e = .returned (.tuple #[.agg #[.bool b, .slice o1 l1 k1, .slice o2 l2 k2], .int .i64 n1, .int .i64 44])
  else match dcd (2 * bs.length + 1) 1 0 bs with
  | .error x => x ≠ 0 ∧ ∃ b o1 l1 k1 o2 l2 k2 n1, e = .returned (.tuple #[.agg #[.bool b, .slice o1 l1 k1, .slice o2 l2 k2], .int .i64 n1, .int .i64 x])
  | .ok (x, q, _) => ∃ v1 v2 v3, e = .returned (.tuple #[.agg #[v1, v2, v3], .int .i64 (q : Int), .int .i64 0]) ∧ ItC (fun b => b < w.heap.size) w' x v1 v2 v3
def DecodeIs (bs : By) (w : World) (e : Ending) (w' : World) : Prop := match dcod bs with
  | .error x => x ≠ 0 ∧ ∃ b o1 l1 k1 o2 l2 k2, e = .returned (.tuple #[.agg #[.bool b, .slice o1 l1 k1, .slice o2 l2 k2], .int .i64 x])
  | .ok x => ∃ v1 v2 v3, e = .returned (.tuple #[.agg #[v1, v2, v3], .int .i64 0]) ∧ ItC (fun b => b < w.heap.size) w' x v1 v2 v3
theorem First_calls {w : World} {o : Option Addr} {k : Nat} {bs : By} (hr : RdB w o bs) (hk : bs.length ≤ k) :
    Calls Try.prog rlp_First.n #[.slice o bs.length k] w (fun e w' => Vcg.Mod NoB w w' ∧ FirstIs bs w e w') := by
  refine calls_gen fun R hR => rlp_First.vc _ _ _ _ _ ?_
  unfold rlp_First.Vc
  rintro d1 w1 ⟨rfl, rfl⟩
  have M1 : Vcg.Mod NoB w _ := Mod.alloc w (.cells #[.bool false, .slice none 0 0, .slice none 0 0] 138)
  have X1 := Blk.new w 138 #[.bool false, .slice none 0 0, .slice none 0 0]
  have hs1 := size_alloc w (.cells #[.bool false, .slice none 0 0, .slice none 0 0] 138)
  have hr1 := hr.mod' M1
  generalize hN : w.heap.size = N at *
  generalize w.alloc (.cells #[.bool false, .slice none 0 0, .slice none 0 0] 138) = w1 at *
  refine ⟨fun hbig => ?_, fun hbig => ?_⟩
  · refine ret_3 X1 (fun w2 M2 => hR _ _ ⟨mod_of M1 M2 (by omega), ?_⟩)
    unfold FirstIs
    rw [if_pos (by omega)]
    exact ⟨_, _, _, _, _, _, _, _, rfl⟩
  · rintro d2 w2 ⟨rfl, rfl⟩
    have M12 : Vcg.Mod NoB w1 _ := Mod.alloc w1 (.cells #[.int .i64 0] 231)
    have W2 := Blk.new w1 231 #[.int .i64 ((0 : Nat) : Int)]
    have X2 := X1.mod' M12
    have hr2 := hr1.mod' M12
    have M2 := M1.none_trans M12
    have hs2 := size_alloc w1 (.cells #[.int .i64 0] 231)
    have hoff : bs ≠ [] → Off (· = w1.heap.size) o := fun hne e he h => by
      obtain ⟨b, f, ho, hb, _⟩ := hr hne
      rw [ho] at he; cases he
      simp only at h
      omega
    have hc := first_calls (2 * bs.length + 1) 1 0 bs (k := k) (Nat.le_refl _) (by omega) hr2 hk W2 hoff (by omega) (by omega)
    refine Calls.mono (R := fun e w' => Vcg.Mod (· = w1.heap.size) (w1.alloc (.cells #[.int .i64 0] 231)) w' ∧ DecIs (dcd (2 * bs.length + 1) 1 0 bs) (w1.alloc (.cells #[.int .i64 0] 231)) w1.heap.size e w') hc ?_
    rintro e w3 ⟨M3, hd⟩
    have M03 : Vcg.Mod NoB w w3 := mod_of M2 M3 (by omega)
    have X3 := X2.mod M3 (by omega)
    cases hdc : dcd (2 * bs.length + 1) 1 0 bs with
    | error x =>
      rw [hdc] at hd
      obtain ⟨hx, b, p1, q1, r1, p2, q2, r2, n1, rfl⟩ := hd
      refine ⟨_, _, _, _, _, _, _, _, _, rfl, ret_3 X3 (fun w4 M4 => hR _ _ ⟨mod_of M03 M4 (by omega), ?_⟩)⟩
      unfold FirstIs
      rw [if_neg (by omega), hdc]
      exact ⟨hx, _, _, _, _, _, _, _, _, rfl⟩
    | ok r =>
      obtain ⟨y, q, m⟩ := r
      rw [hdc] at hd
      obtain ⟨W3, v1, v2, v3, rfl, hy⟩ := hd
      obtain ⟨bb, p1, q1, r1, p2, q2, r2, rfl, rfl, rfl⟩ := hy.vals
      refine ⟨_, _, _, _, _, _, _, _, _, rfl, ret_3 X3 (fun w4 M4 => hR _ _ ⟨mod_of M03 M4 (by omega), ?_⟩)⟩
      unfold FirstIs
      rw [if_neg (by omega), hdc]
      refine ⟨_, _, _, rfl, ItC.mono (fun b hb => ?_) _ (ItC.modA M4 (fun b hb => ?_) _ hy)⟩
      · have : b < w.heap.size := hb
        omega
      · show b < _
        rw [hs2]; omega
theorem Decode_calls {w : World} {o : Option Addr} {k : Nat} {bs : By} (hr : RdB w o bs) (hk : bs.length ≤ k) :
    Calls Try.prog rlp_Decode.n #[.slice o bs.length k] w (fun e w' => Vcg.Mod NoB w w' ∧ DecodeIs bs w e w') := by
  refine calls_gen fun R hR => rlp_Decode.vc _ _ _ _ _ ?_
  unfold rlp_Decode.Vc
  rintro d1 w1 ⟨rfl, rfl⟩
  have M1 : Vcg.Mod NoB w _ := Mod.alloc w (.cells #[.bool false, .slice none 0 0, .slice none 0 0] 138)
  have X1 := Blk.new w 138 #[.bool false, .slice none 0 0, .slice none 0 0]
  have hs1 := size_alloc w (.cells #[.bool false, .slice none 0 0, .slice none 0 0] 138)
  have hr1 := hr.mod' M1
  generalize hN : w.heap.size = N at *
  generalize w.alloc (.cells #[.bool false, .slice none 0 0, .slice none 0 0] 138) = w1 at *
  refine (First_calls hr1 hk).mono ?_
  rintro e w2 ⟨M2, hf⟩
  have M02 := M1.none_trans M2
  have X2 := X1.mod' M2
  have hs2 := M2.size
  -- an error is told
  have bad : ∀ (w' : World) (x : Int), dcod bs = .error x → x ≠ 0 → Vcg.Mod NoB w w' → Blk w' N 138 #[.bool false, .slice none 0 0, .slice none 0 0] → ∀ w'' : World, Vcg.Mod (· = N) w' w'' → R (.returned (.tuple #[.agg #[.bool false, .slice none 0 0, .slice none 0 0], .int .i64 x])) w'' := by
    intro w' x hx h0 M X w'' M'
    refine hR _ _ ⟨mod_of M M' (by omega), ?_⟩
    unfold DecodeIs
    rw [hx]
    exact ⟨h0, _, _, _, _, _, _, _, rfl⟩
  have key : (∃ b p1 q1 r1 p2 q2 r2 n1 x, e = .returned (.tuple #[.agg #[.bool b, .slice p1 q1 r1, .slice p2 q2 r2], .int .i64 n1, .int .i64 x]) ∧ x ≠ 0 ∧ dcod bs = .error x) ∨
      (∃ y q m v1 v2 v3, ¬ bs.length > 65536 ∧ dcd (2 * bs.length + 1) 1 0 bs = .ok (y, q, m) ∧ e = .returned (.tuple #[.agg #[v1, v2, v3], .int .i64 (q : Int), .int .i64 0]) ∧ ItC (fun b => b < w1.heap.size) w2 y v1 v2 v3) := by
    unfold FirstIs at hf
    split at hf
    · rename_i hbig
      obtain ⟨b, p1, q1, r1, p2, q2, r2, n1, he⟩ := hf
      exact .inl ⟨_, _, _, _, _, _, _, _, _, he, by decide, by unfold dcod; rw [if_pos hbig]⟩
    · rename_i hbig
      split at hf
      · rename_i x hdc
        obtain ⟨hx, b, p1, q1, r1, p2, q2, r2, n1, he⟩ := hf
        exact .inl ⟨_, _, _, _, _, _, _, _, _, he, hx, by unfold dcod; rw [if_neg hbig, hdc]⟩
      · rename_i y q m hdc
        obtain ⟨v1, v2, v3, he, hy⟩ := hf
        exact .inr ⟨_, _, _, _, _, _, hbig, hdc, he, hy⟩
  rcases key with ⟨b, p1, q1, r1, p2, q2, r2, n1, x, rfl, hx, hdc⟩ | ⟨y, q, m, v1, v2, v3, hbig, hdc, rfl, hy⟩
  · refine ⟨_, _, _, _, _, _, _, _, _, rfl, ?_⟩
    rintro d3 w3 ⟨rfl, rfl⟩
    have H := Blk.new w2 138 #[.bool false, .slice none 0 0, .slice none 0 0]
    have M23 : Vcg.Mod NoB w2 _ := Mod.alloc w2 (.cells #[.bool false, .slice none 0 0, .slice none 0 0] 138)
    refine set3 H rfl rfl rfl (fun w4 H4 Q4 => ?_)
    have M24 : Vcg.Mod NoB w2 w4 := mod_of M23 Q4 (Nat.le_refl _)
    exact ⟨fun _ => ret_3 (X2.mod' M24) (bad w4 x hdc hx (M02.none_trans M24) (X2.mod' M24)), fun h => (hx h).elim⟩
  · obtain ⟨bb, p1, q1, r1, p2, q2, r2, rfl, rfl, rfl⟩ := hy.vals
    refine ⟨_, _, _, _, _, _, _, _, _, rfl, ?_⟩
    rintro d3 w3 ⟨rfl, rfl⟩
    have H := Blk.new w2 138 #[.bool false, .slice none 0 0, .slice none 0 0]
    have M23 : Vcg.Mod NoB w2 _ := Mod.alloc w2 (.cells #[.bool false, .slice none 0 0, .slice none 0 0] 138)
    refine set3 H rfl rfl rfl (fun w4 H4 Q4 => ?_)
    have M24 : Vcg.Mod NoB w2 w4 := mod_of M23 Q4 (Nat.le_refl _)
    have X4 := X2.mod' M24
    have hy4 := ItC.mod M24 _ hy
    refine ⟨fun h => (h rfl).elim, fun _ => ⟨fun hlt => ?_, fun hlt => ?_⟩⟩
    · refine ret_3 X4 (bad w4 42 ?_ (by decide) (M02.none_trans M24) X4)
      unfold dcod
      rw [if_neg hbig, hdc]
      simp only
      rw [if_pos (by omega)]
    · refine get3 H4 (ret_3 X4 (fun w5 M5 => hR _ _ ⟨mod_of (M02.none_trans M24) M5 (by omega), ?_⟩))
      have hd : dcod bs = .ok y := by
        unfold dcod
        rw [if_neg hbig, hdc]
        simp only
        rw [if_neg (by omega)]
      unfold DecodeIs
      rw [hd]
      refine ⟨_, _, _, rfl, ItC.mono (fun b hb => ?_) _ (ItC.modA M5 (fun b hb => ?_) _ hy4)⟩
      · have : b < w.heap.size := hb
        show b < w1.heap.size
        omega
      · show b < w1.heap.size
        omega
end Go.Proofs.Ytfghidehlnfdiaa
end
section
namespace Go.Proofs.Ytfghidehlnfdiaa
open Go Go.Vcg
abbrev moraineref4_Decode.n : Nat := 84
def moraineref4_Decode.Vc (o0 : Option Addr) (l0 c0 : Nat) (w : World) (R : Ending → World → Prop) : Prop :=
 ∀ d1 w2, IsNew w 138 #[(.bool false), (.slice none 0 0), (.slice none 0 0)] d1 w2 →
 Calls Try.prog 115 #[(.slice o0 l0 c0)] w2 (fun e3 w4 =>
 ∃ b5 o6 l7 l8 o9 l10 l11 n12 n13, e3 = .returned (.tuple #[(.agg #[(.bool b5), (.slice o6 l7 l8), (.slice o9 l10 l11)]), (.int .i64 n12), (.int .i64 n13)]) ∧
 ∀ d14 w15, IsNew w4 138 #[(.bool false), (.slice none 0 0), (.slice none 0 0)] d14 w15 →
 CanSet w15 d14 (.bool b5) ∧ ∀ w16, IsSet w15 d14 (.bool b5) w16 →
 CanSet w16 (Addr.add d14 1) (.slice o6 l7 l8) ∧ ∀ w17, IsSet w16 (Addr.add d14 1) (.slice o6 l7 l8) w17 →
 CanSet w17 (Addr.add d14 2) (.slice o9 l10 l11) ∧ ∀ w18, IsSet w17 (Addr.add d14 2) (.slice o9 l10 l11) w18 →
 (((n13 = 0 →
 (((n12 < ((l0 : Nat) : Int) →
 CanSet w18 d1 (.bool false) ∧ ∀ w19, IsSet w18 d1 (.bool false) w19 →
 CanSet w19 (Addr.add d1 1) (.slice none 0 0) ∧ ∀ w20, IsSet w19 (Addr.add d1 1) (.slice none 0 0) w20 →
 CanSet w20 (Addr.add d1 2) (.slice none 0 0) ∧ ∀ w21, IsSet w20 (Addr.add d1 2) (.slice none 0 0) w21 →
 ∃ b22 o23 l24 l25 o26 l27 l28, World.cell? w21 d1 = some (.bool b22) ∧
 World.cell? w21 (Addr.add d1 1) = some (.slice o23 l24 l25) ∧
 World.cell? w21 (Addr.add d1 2) = some (.slice o26 l27 l28) ∧
 R (.returned (.tuple #[(.agg #[(.bool b22), (.slice o23 l24 l25), (.slice o26 l27 l28)]), (.int .i64 42)])) w21)) ∧
 ((¬ n12 < ((l0 : Nat) : Int) →
 (((n13 ≠ 0 →
 CanSet w18 d1 (.bool false) ∧ ∀ w29, IsSet w18 d1 (.bool false) w29 →
 CanSet w29 (Addr.add d1 1) (.slice none 0 0) ∧ ∀ w30, IsSet w29 (Addr.add d1 1) (.slice none 0 0) w30 →
 CanSet w30 (Addr.add d1 2) (.slice none 0 0) ∧ ∀ w31, IsSet w30 (Addr.add d1 2) (.slice none 0 0) w31 →
 ∃ b32 o33 l34 l35 o36 l37 l38, World.cell? w31 d1 = some (.bool b32) ∧
 World.cell? w31 (Addr.add d1 1) = some (.slice o33 l34 l35) ∧
 World.cell? w31 (Addr.add d1 2) = some (.slice o36 l37 l38) ∧
 R (.returned (.tuple #[(.agg #[(.bool b32), (.slice o33 l34 l35), (.slice o36 l37 l38)]), (.int .i64 n13)])) w31)) ∧
 ((n13 = 0 →
 ∃ b39 o40 l41 l42 o43 l44 l45, World.cell? w18 d14 = some (.bool b39) ∧
 World.cell? w18 (Addr.add d14 1) = some (.slice o40 l41 l42) ∧
 World.cell? w18 (Addr.add d14 2) = some (.slice o43 l44 l45) ∧
 CanSet w18 d1 (.bool b39) ∧ ∀ w46, IsSet w18 d1 (.bool b39) w46 →
 CanSet w46 (Addr.add d1 1) (.slice o40 l41 l42) ∧ ∀ w47, IsSet w46 (Addr.add d1 1) (.slice o40 l41 l42) w47 →
 CanSet w47 (Addr.add d1 2) (.slice o43 l44 l45) ∧ ∀ w48, IsSet w47 (Addr.add d1 2) (.slice o43 l44 l45) w48 →
 ∃ b49 o50 l51 l52 o53 l54 l55, World.cell? w48 d1 = some (.bool b49) ∧
 World.cell? w48 (Addr.add d1 1) = some (.slice o50 l51 l52) ∧
 World.cell? w48 (Addr.add d1 2) = some (.slice o53 l54 l55) ∧
 R (.returned (.tuple #[(.agg #[(.bool b49), (.slice o50 l51 l52), (.slice o53 l54 l55)]), (.int .i64 0)])) w48)))))))) ∧
 ((n13 ≠ 0 →
 (((n13 ≠ 0 →
 CanSet w18 d1 (.bool false) ∧ ∀ w56, IsSet w18 d1 (.bool false) w56 →
 CanSet w56 (Addr.add d1 1) (.slice none 0 0) ∧ ∀ w57, IsSet w56 (Addr.add d1 1) (.slice none 0 0) w57 →
 CanSet w57 (Addr.add d1 2) (.slice none 0 0) ∧ ∀ w58, IsSet w57 (Addr.add d1 2) (.slice none 0 0) w58 →
 ∃ b59 o60 l61 l62 o63 l64 l65, World.cell? w58 d1 = some (.bool b59) ∧
 World.cell? w58 (Addr.add d1 1) = some (.slice o60 l61 l62) ∧
 World.cell? w58 (Addr.add d1 2) = some (.slice o63 l64 l65) ∧
 R (.returned (.tuple #[(.agg #[(.bool b59), (.slice o60 l61 l62), (.slice o63 l64 l65)]), (.int .i64 n13)])) w58)) ∧
 ((n13 = 0 →
 ∃ b66 o67 l68 l69 o70 l71 l72, World.cell? w18 d14 = some (.bool b66) ∧
 World.cell? w18 (Addr.add d14 1) = some (.slice o67 l68 l69) ∧
 World.cell? w18 (Addr.add d14 2) = some (.slice o70 l71 l72) ∧
 CanSet w18 d1 (.bool b66) ∧ ∀ w73, IsSet w18 d1 (.bool b66) w73 →
 CanSet w73 (Addr.add d1 1) (.slice o67 l68 l69) ∧ ∀ w74, IsSet w73 (Addr.add d1 1) (.slice o67 l68 l69) w74 →
 CanSet w74 (Addr.add d1 2) (.slice o70 l71 l72) ∧ ∀ w75, IsSet w74 (Addr.add d1 2) (.slice o70 l71 l72) w75 →
 ∃ b76 o77 l78 l79 o80 l81 l82, World.cell? w75 d1 = some (.bool b76) ∧
 World.cell? w75 (Addr.add d1 1) = some (.slice o77 l78 l79) ∧
 World.cell? w75 (Addr.add d1 2) = some (.slice o80 l81 l82) ∧
 R (.returned (.tuple #[(.agg #[(.bool b76), (.slice o77 l78 l79), (.slice o80 l81 l82)]), (.int .i64 0)])) w75)))))))
theorem moraineref4_Decode.vc (o0 l0 c0 w R) (h : moraineref4_Decode.Vc o0 l0 c0 w R) : Calls Try.prog 84 #[(.slice o0 l0 c0)] w R := xs [] [.slice o0 l0 c0] Try.func84 mixed (by kernel_rfl) h

abbrev moraineref4_First.n : Nat := 115
def moraineref4_First.Vc (o0 : Option Addr) (l0 c0 : Nat) (w : World) (R : Ending → World → Prop) : Prop :=
 ∀ d1 w2, IsNew w 138 #[(.bool false), (.slice none 0 0), (.slice none 0 0)] d1 w2 →
 (((((l0 : Nat) : Int) > 65536 →
 CanSet w2 d1 (.bool false) ∧ ∀ w3, IsSet w2 d1 (.bool false) w3 →
 CanSet w3 (Addr.add d1 1) (.slice none 0 0) ∧ ∀ w4, IsSet w3 (Addr.add d1 1) (.slice none 0 0) w4 →
 CanSet w4 (Addr.add d1 2) (.slice none 0 0) ∧ ∀ w5, IsSet w4 (Addr.add d1 2) (.slice none 0 0) w5 →
 ∃ b6 o7 l8 l9 o10 l11 l12, World.cell? w5 d1 = some (.bool b6) ∧
 World.cell? w5 (Addr.add d1 1) = some (.slice o7 l8 l9) ∧
 World.cell? w5 (Addr.add d1 2) = some (.slice o10 l11 l12) ∧
 R (.returned (.tuple #[(.agg #[(.bool b6), (.slice o7 l8 l9), (.slice o10 l11 l12)]), (.int .i64 0), (.int .i64 44)])) w5)) ∧
 ((¬ ((l0 : Nat) : Int) > 65536 →
 ∀ d13 w14, IsNew w2 221 #[(.slice o0 l0 c0), (.int .i64 0), (.int .i64 0)] d13 w14 →
 Calls Try.prog 130 #[(.pointer (some d13)), (.int .i64 0), (.int .i64 ((l0 : Nat) : Int)), (.int .i64 1)] w14 (fun e15 w16 =>
 ∃ b17 o18 l19 l20 o21 l22 l23 n24, e15 = .returned (.tuple #[(.agg #[(.bool b17), (.slice o18 l19 l20), (.slice o21 l22 l23)]), (.int .i64 n24)]) ∧
 ∀ d25 w26, IsNew w16 138 #[(.bool false), (.slice none 0 0), (.slice none 0 0)] d25 w26 →
 CanSet w26 d25 (.bool b17) ∧ ∀ w27, IsSet w26 d25 (.bool b17) w27 →
 CanSet w27 (Addr.add d25 1) (.slice o18 l19 l20) ∧ ∀ w28, IsSet w27 (Addr.add d25 1) (.slice o18 l19 l20) w28 →
 CanSet w28 (Addr.add d25 2) (.slice o21 l22 l23) ∧ ∀ w29, IsSet w28 (Addr.add d25 2) (.slice o21 l22 l23) w29 →
 ∃ n30, World.cell? w29 (Addr.add d13 2) = some (.int .i64 n30) ∧
 (((n30 ≠ 0 →
 ∀ w31, IsDrew w29 w31 →
 ∃ n32, World.cell? w31 (Addr.add d13 2) = some (.int .i64 n32) ∧
 CanSet w31 d1 (.bool false) ∧ ∀ w33, IsSet w31 d1 (.bool false) w33 →
 CanSet w33 (Addr.add d1 1) (.slice none 0 0) ∧ ∀ w34, IsSet w33 (Addr.add d1 1) (.slice none 0 0) w34 →
 CanSet w34 (Addr.add d1 2) (.slice none 0 0) ∧ ∀ w35, IsSet w34 (Addr.add d1 2) (.slice none 0 0) w35 →
 World.cell? w35 (Addr.add d13 2) = some (.int .i64 n32) ∧
 ∃ b36 o37 l38 l39 o40 l41 l42, World.cell? w35 d1 = some (.bool b36) ∧
 World.cell? w35 (Addr.add d1 1) = some (.slice o37 l38 l39) ∧
 World.cell? w35 (Addr.add d1 2) = some (.slice o40 l41 l42) ∧
 R (.returned (.tuple #[(.agg #[(.bool b36), (.slice o37 l38 l39), (.slice o40 l41 l42)]), (.int .i64 0), (.int .i64 n32)])) w35)) ∧
 ((n30 = 0 →
 ∃ b43 o44 l45 l46 o47 l48 l49, World.cell? w29 d25 = some (.bool b43) ∧
 World.cell? w29 (Addr.add d25 1) = some (.slice o44 l45 l46) ∧
 World.cell? w29 (Addr.add d25 2) = some (.slice o47 l48 l49) ∧
 CanSet w29 d1 (.bool b43) ∧ ∀ w50, IsSet w29 d1 (.bool b43) w50 →
 CanSet w50 (Addr.add d1 1) (.slice o44 l45 l46) ∧ ∀ w51, IsSet w50 (Addr.add d1 1) (.slice o44 l45 l46) w51 →
 CanSet w51 (Addr.add d1 2) (.slice o47 l48 l49) ∧ ∀ w52, IsSet w51 (Addr.add d1 2) (.slice o47 l48 l49) w52 →
 ∃ b53 o54 l55 l56 o57 l58 l59, World.cell? w52 d1 = some (.bool b53) ∧
 World.cell? w52 (Addr.add d1 1) = some (.slice o54 l55 l56) ∧
 World.cell? w52 (Addr.add d1 2) = some (.slice o57 l58 l59) ∧
 R (.returned (.tuple #[(.agg #[(.bool b53), (.slice o54 l55 l56), (.slice o57 l58 l59)]), (.int .i64 n24), (.int .i64 0)])) w52)))))))
theorem moraineref4_First.vc (o0 l0 c0 w R) (h : moraineref4_First.Vc o0 l0 c0 w R) : Calls Try.prog 115 #[(.slice o0 l0 c0)] w R := xs [] [.slice o0 l0 c0] Try.func115 mixed (by kernel_rfl) h

abbrev moraineref4_reader_item.n : Nat := 130
def moraineref4_reader_item.Vc (d0 : Addr) (n1 n2 n3 : Int) (w : World) (R : Ending → World → Prop) : Prop :=
 ∀ d4 w5, IsNew w 138 #[(.bool false), (.slice none 0 0), (.slice none 0 0)] d4 w5 →
 (((n1 ≥ n2 →
 Calls Try.prog 138 #[(.pointer (some d0)), (.int .i64 41)] w5 (fun e6 w7 =>
 ∃ b8 o9 l10 l11 o12 l13 l14 n15, e6 = .returned (.tuple #[(.agg #[(.bool b8), (.slice o9 l10 l11), (.slice o12 l13 l14)]), (.int .i64 n15)]) ∧
 CanSet w7 d4 (.bool b8) ∧ ∀ w16, IsSet w7 d4 (.bool b8) w16 →
 CanSet w16 (Addr.add d4 1) (.slice o9 l10 l11) ∧ ∀ w17, IsSet w16 (Addr.add d4 1) (.slice o9 l10 l11) w17 →
 CanSet w17 (Addr.add d4 2) (.slice o12 l13 l14) ∧ ∀ w18, IsSet w17 (Addr.add d4 2) (.slice o12 l13 l14) w18 →
 ∃ b19 o20 l21 l22 o23 l24 l25, World.cell? w18 d4 = some (.bool b19) ∧
 World.cell? w18 (Addr.add d4 1) = some (.slice o20 l21 l22) ∧
 World.cell? w18 (Addr.add d4 2) = some (.slice o23 l24 l25) ∧
 R (.returned (.tuple #[(.agg #[(.bool b19), (.slice o20 l21 l22), (.slice o23 l24 l25)]), (.int .i64 n15)])) w18))) ∧
 ((¬ n1 ≥ n2 →
 (((n3 > 16 →
 Calls Try.prog 138 #[(.pointer (some d0)), (.int .i64 43)] w5 (fun e26 w27 =>
 ∃ b28 o29 l30 l31 o32 l33 l34 n35, e26 = .returned (.tuple #[(.agg #[(.bool b28), (.slice o29 l30 l31), (.slice o32 l33 l34)]), (.int .i64 n35)]) ∧
 CanSet w27 d4 (.bool b28) ∧ ∀ w36, IsSet w27 d4 (.bool b28) w36 →
 CanSet w36 (Addr.add d4 1) (.slice o29 l30 l31) ∧ ∀ w37, IsSet w36 (Addr.add d4 1) (.slice o29 l30 l31) w37 →
 CanSet w37 (Addr.add d4 2) (.slice o32 l33 l34) ∧ ∀ w38, IsSet w37 (Addr.add d4 2) (.slice o32 l33 l34) w38 →
 ∃ b39 o40 l41 l42 o43 l44 l45, World.cell? w38 d4 = some (.bool b39) ∧
 World.cell? w38 (Addr.add d4 1) = some (.slice o40 l41 l42) ∧
 World.cell? w38 (Addr.add d4 2) = some (.slice o43 l44 l45) ∧
 R (.returned (.tuple #[(.agg #[(.bool b39), (.slice o40 l41 l42), (.slice o43 l44 l45)]), (.int .i64 n35)])) w38))) ∧
 ((¬ n3 > 16 →
 ∃ n46, World.cell? w5 (Addr.add d0 1) = some (.int .i64 n46) ∧
 (((n46 = 4096 →
 Calls Try.prog 138 #[(.pointer (some d0)), (.int .i64 43)] w5 (fun e47 w48 =>
 ∃ b49 o50 l51 l52 o53 l54 l55 n56, e47 = .returned (.tuple #[(.agg #[(.bool b49), (.slice o50 l51 l52), (.slice o53 l54 l55)]), (.int .i64 n56)]) ∧
 CanSet w48 d4 (.bool b49) ∧ ∀ w57, IsSet w48 d4 (.bool b49) w57 →
 CanSet w57 (Addr.add d4 1) (.slice o50 l51 l52) ∧ ∀ w58, IsSet w57 (Addr.add d4 1) (.slice o50 l51 l52) w58 →
 CanSet w58 (Addr.add d4 2) (.slice o53 l54 l55) ∧ ∀ w59, IsSet w58 (Addr.add d4 2) (.slice o53 l54 l55) w59 →
 ∃ b60 o61 l62 l63 o64 l65 l66, World.cell? w59 d4 = some (.bool b60) ∧
 World.cell? w59 (Addr.add d4 1) = some (.slice o61 l62 l63) ∧
 World.cell? w59 (Addr.add d4 2) = some (.slice o64 l65 l66) ∧
 R (.returned (.tuple #[(.agg #[(.bool b60), (.slice o61 l62 l63), (.slice o64 l65 l66)]), (.int .i64 n56)])) w59))) ∧
 ((n46 ≠ 4096 →
 ∃ n67, World.cell? w5 (Addr.add d0 1) = some (.int .i64 n67) ∧
 CanSet w5 (Addr.add d0 1) (.int .i64 (IntKind.wrap .i64 (n67 + 1))) ∧ ∀ w68, IsSet w5 (Addr.add d0 1) (.int .i64 (IntKind.wrap .i64 (n67 + 1))) w68 →
 ∃ o69 l70 l71, World.cell? w68 d0 = some (.slice o69 l70 l71) ∧
 ∃ d72, o69 = some d72 ∧
 ((0 : Int) ≤ n1 ∧ n1 < ((l70 : Nat) : Int)) ∧
 ∃ n73, World.cell? w68 (Addr.add d72 (Int.toNat n1)) = some (.int .u8 n73) ∧
 ((((IntKind.wrap .i64 n73) < 128 →
 ∀ d74 w75, IsNew w68 5 #[(.int .u8 (IntKind.wrap .u8 (IntKind.wrap .i64 n73)))] d74 w75 →
 CanSet w75 d4 (.bool false) ∧ ∀ w76, IsSet w75 d4 (.bool false) w76 →
 CanSet w76 (Addr.add d4 1) (.slice (some d74) 1 1) ∧ ∀ w77, IsSet w76 (Addr.add d4 1) (.slice (some d74) 1 1) w77 →
 CanSet w77 (Addr.add d4 2) (.slice none 0 0) ∧ ∀ w78, IsSet w77 (Addr.add d4 2) (.slice none 0 0) w78 →
 ∃ b79 o80 l81 l82 o83 l84 l85, World.cell? w78 d4 = some (.bool b79) ∧
 World.cell? w78 (Addr.add d4 1) = some (.slice o80 l81 l82) ∧
 World.cell? w78 (Addr.add d4 2) = some (.slice o83 l84 l85) ∧
 R (.returned (.tuple #[(.agg #[(.bool b79), (.slice o80 l81 l82), (.slice o83 l84 l85)]), (.int .i64 (IntKind.wrap .i64 (n1 + 1)))])) w78)) ∧
 ((¬ (IntKind.wrap .i64 n73) < 128 →
 ∃ (J86 : Int → World → Prop), (((((IntKind.wrap .i64 n73) ≥ 192 →
 J86 192 w68)) ∧
 ((¬ (IntKind.wrap .i64 n73) ≥ 192 →
 J86 128 w68)))) ∧
 (∀ (n87 : Int) (j88 : Nat → Value) (w88 : World), J86 n87 w88 →
 ∃ (J89 : Int → Int → World → Prop), (((((IntKind.wrap .i64 ((IntKind.wrap .i64 n73) - n87)) > 55 →
 ((((IntKind.wrap .i64 ((IntKind.wrap .i64 (n1 + 1)) + (IntKind.wrap .i64 ((IntKind.wrap .i64 ((IntKind.wrap .i64 n73) - n87)) - 55)))) > n2 →
 Calls Try.prog 138 #[(.pointer (some d0)), (.int .i64 41)] w88 (fun e90 w91 =>
 ∃ b92 o93 l94 l95 o96 l97 l98 n99, e90 = .returned (.tuple #[(.agg #[(.bool b92), (.slice o93 l94 l95), (.slice o96 l97 l98)]), (.int .i64 n99)]) ∧
 CanSet w91 d4 (.bool b92) ∧ ∀ w100, IsSet w91 d4 (.bool b92) w100 →
 CanSet w100 (Addr.add d4 1) (.slice o93 l94 l95) ∧ ∀ w101, IsSet w100 (Addr.add d4 1) (.slice o93 l94 l95) w101 →
 CanSet w101 (Addr.add d4 2) (.slice o96 l97 l98) ∧ ∀ w102, IsSet w101 (Addr.add d4 2) (.slice o96 l97 l98) w102 →
 ∃ b103 o104 l105 l106 o107 l108 l109, World.cell? w102 d4 = some (.bool b103) ∧
 World.cell? w102 (Addr.add d4 1) = some (.slice o104 l105 l106) ∧
 World.cell? w102 (Addr.add d4 2) = some (.slice o107 l108 l109) ∧
 R (.returned (.tuple #[(.agg #[(.bool b103), (.slice o104 l105 l106), (.slice o107 l108 l109)]), (.int .i64 n99)])) w102))) ∧
 ((¬ (IntKind.wrap .i64 ((IntKind.wrap .i64 (n1 + 1)) + (IntKind.wrap .i64 ((IntKind.wrap .i64 ((IntKind.wrap .i64 n73) - n87)) - 55)))) > n2 →
 ∃ (I110 : Int → Int → World → Prop) (μ110 : Int → Int → World → Nat), I110 0 0 w88 ∧
 (∀ (n111 : Int) (n112 : Int) (j113 : Nat → Value) (w113 : World), I110 n111 n112 w113 →
 (((n112 < (IntKind.wrap .i64 ((IntKind.wrap .i64 ((IntKind.wrap .i64 n73) - n87)) - 55)) →
 ∃ (J114 : Bool → World → Prop), ((((n112 < 8 →
 J114 (decide (n111 ≤ 2147483648)) w113)) ∧
 ((¬ n112 < 8 →
 J114 false w113)))) ∧
 (∀ (b115 : Bool) (j116 : Nat → Value) (w116 : World), J114 b115 w116 →
 (((b115 = true →
 ∃ o117 l118 l119, World.cell? w116 d0 = some (.slice o117 l118 l119) ∧
 ∃ d120, o117 = some d120 ∧
 ((0 : Int) ≤ (IntKind.wrap .i64 ((IntKind.wrap .i64 (n1 + 1)) + n112)) ∧ (IntKind.wrap .i64 ((IntKind.wrap .i64 (n1 + 1)) + n112)) < ((l118 : Nat) : Int)) ∧
 ∃ n121, World.cell? w116 (Addr.add d120 (Int.toNat (IntKind.wrap .i64 ((IntKind.wrap .i64 (n1 + 1)) + n112)))) = some (.int .u8 n121) ∧
 I110 (IntKind.wrap .i64 ((IntKind.wrap .i64 (256 * n111)) + (IntKind.wrap .i64 n121))) (IntKind.wrap .i64 (n112 + 1)) w116 ∧ μ110 (IntKind.wrap .i64 ((IntKind.wrap .i64 (256 * n111)) + (IntKind.wrap .i64 n121))) (IntKind.wrap .i64 (n112 + 1)) w116 < μ110 n111 n112 w113)) ∧
 ((b115 = false →
 I110 n111 (IntKind.wrap .i64 (n112 + 1)) w116 ∧ μ110 n111 (IntKind.wrap .i64 (n112 + 1)) w116 < μ110 n111 n112 w113)))))) ∧
 ((¬ n112 < (IntKind.wrap .i64 ((IntKind.wrap .i64 ((IntKind.wrap .i64 n73) - n87)) - 55)) →
 ∃ o122 l123 l124, World.cell? w113 d0 = some (.slice o122 l123 l124) ∧
 ∃ d125, o122 = some d125 ∧
 ((0 : Int) ≤ (IntKind.wrap .i64 (n1 + 1)) ∧ (IntKind.wrap .i64 (n1 + 1)) < ((l123 : Nat) : Int)) ∧
 ∃ n126, World.cell? w113 (Addr.add d125 (Int.toNat (IntKind.wrap .i64 (n1 + 1)))) = some (.int .u8 n126) ∧
 (((n126 = 0 →
 Calls Try.prog 138 #[(.pointer (some d0)), (.int .i64 40)] w113 (fun e127 w128 =>
 ∃ b129 o130 l131 l132 o133 l134 l135 n136, e127 = .returned (.tuple #[(.agg #[(.bool b129), (.slice o130 l131 l132), (.slice o133 l134 l135)]), (.int .i64 n136)]) ∧
 CanSet w128 d4 (.bool b129) ∧ ∀ w137, IsSet w128 d4 (.bool b129) w137 →
 CanSet w137 (Addr.add d4 1) (.slice o130 l131 l132) ∧ ∀ w138, IsSet w137 (Addr.add d4 1) (.slice o130 l131 l132) w138 →
 CanSet w138 (Addr.add d4 2) (.slice o133 l134 l135) ∧ ∀ w139, IsSet w138 (Addr.add d4 2) (.slice o133 l134 l135) w139 →
 ∃ b140 o141 l142 l143 o144 l145 l146, World.cell? w139 d4 = some (.bool b140) ∧
 World.cell? w139 (Addr.add d4 1) = some (.slice o141 l142 l143) ∧
 World.cell? w139 (Addr.add d4 2) = some (.slice o144 l145 l146) ∧
 R (.returned (.tuple #[(.agg #[(.bool b140), (.slice o141 l142 l143), (.slice o144 l145 l146)]), (.int .i64 n136)])) w139))) ∧
 ((n126 ≠ 0 →
 (((n111 < 56 →
 Calls Try.prog 138 #[(.pointer (some d0)), (.int .i64 40)] w113 (fun e147 w148 =>
 ∃ b149 o150 l151 l152 o153 l154 l155 n156, e147 = .returned (.tuple #[(.agg #[(.bool b149), (.slice o150 l151 l152), (.slice o153 l154 l155)]), (.int .i64 n156)]) ∧
 CanSet w148 d4 (.bool b149) ∧ ∀ w157, IsSet w148 d4 (.bool b149) w157 →
 CanSet w157 (Addr.add d4 1) (.slice o150 l151 l152) ∧ ∀ w158, IsSet w157 (Addr.add d4 1) (.slice o150 l151 l152) w158 →
 CanSet w158 (Addr.add d4 2) (.slice o153 l154 l155) ∧ ∀ w159, IsSet w158 (Addr.add d4 2) (.slice o153 l154 l155) w159 →
 ∃ b160 o161 l162 l163 o164 l165 l166, World.cell? w159 d4 = some (.bool b160) ∧
 World.cell? w159 (Addr.add d4 1) = some (.slice o161 l162 l163) ∧
 World.cell? w159 (Addr.add d4 2) = some (.slice o164 l165 l166) ∧
 R (.returned (.tuple #[(.agg #[(.bool b160), (.slice o161 l162 l163), (.slice o164 l165 l166)]), (.int .i64 n156)])) w159))) ∧
 ((¬ n111 < 56 →
 (((n111 > 2147483648 →
 Calls Try.prog 138 #[(.pointer (some d0)), (.int .i64 40)] w113 (fun e167 w168 =>
 ∃ b169 o170 l171 l172 o173 l174 l175 n176, e167 = .returned (.tuple #[(.agg #[(.bool b169), (.slice o170 l171 l172), (.slice o173 l174 l175)]), (.int .i64 n176)]) ∧
 CanSet w168 d4 (.bool b169) ∧ ∀ w177, IsSet w168 d4 (.bool b169) w177 →
 CanSet w177 (Addr.add d4 1) (.slice o170 l171 l172) ∧ ∀ w178, IsSet w177 (Addr.add d4 1) (.slice o170 l171 l172) w178 →
 CanSet w178 (Addr.add d4 2) (.slice o173 l174 l175) ∧ ∀ w179, IsSet w178 (Addr.add d4 2) (.slice o173 l174 l175) w179 →
 ∃ b180 o181 l182 l183 o184 l185 l186, World.cell? w179 d4 = some (.bool b180) ∧
 World.cell? w179 (Addr.add d4 1) = some (.slice o181 l182 l183) ∧
 World.cell? w179 (Addr.add d4 2) = some (.slice o184 l185 l186) ∧
 R (.returned (.tuple #[(.agg #[(.bool b180), (.slice o181 l182 l183), (.slice o184 l185 l186)]), (.int .i64 n176)])) w179))) ∧
 ((¬ n111 > 2147483648 →
 J89 n111 (IntKind.wrap .i64 ((IntKind.wrap .i64 (n1 + 1)) + (IntKind.wrap .i64 ((IntKind.wrap .i64 ((IntKind.wrap .i64 n73) - n87)) - 55)))) w113)))))))))))))))))) ∧
 ((¬ (IntKind.wrap .i64 ((IntKind.wrap .i64 n73) - n87)) > 55 →
 J89 (IntKind.wrap .i64 ((IntKind.wrap .i64 n73) - n87)) (IntKind.wrap .i64 (n1 + 1)) w88)))) ∧
 (∀ (n187 : Int) (n188 : Int) (j189 : Nat → Value) (w189 : World), J89 n187 n188 w189 →
 (((n187 > (IntKind.wrap .i64 (n2 - n188)) →
 Calls Try.prog 138 #[(.pointer (some d0)), (.int .i64 41)] w189 (fun e190 w191 =>
 ∃ b192 o193 l194 l195 o196 l197 l198 n199, e190 = .returned (.tuple #[(.agg #[(.bool b192), (.slice o193 l194 l195), (.slice o196 l197 l198)]), (.int .i64 n199)]) ∧
 CanSet w191 d4 (.bool b192) ∧ ∀ w200, IsSet w191 d4 (.bool b192) w200 →
 CanSet w200 (Addr.add d4 1) (.slice o193 l194 l195) ∧ ∀ w201, IsSet w200 (Addr.add d4 1) (.slice o193 l194 l195) w201 →
 CanSet w201 (Addr.add d4 2) (.slice o196 l197 l198) ∧ ∀ w202, IsSet w201 (Addr.add d4 2) (.slice o196 l197 l198) w202 →
 ∃ b203 o204 l205 l206 o207 l208 l209, World.cell? w202 d4 = some (.bool b203) ∧
 World.cell? w202 (Addr.add d4 1) = some (.slice o204 l205 l206) ∧
 World.cell? w202 (Addr.add d4 2) = some (.slice o207 l208 l209) ∧
 R (.returned (.tuple #[(.agg #[(.bool b203), (.slice o204 l205 l206), (.slice o207 l208 l209)]), (.int .i64 n199)])) w202))) ∧
 ((¬ n187 > (IntKind.wrap .i64 (n2 - n188)) →
 (((n87 = 128 →
 ∃ (J210 : World → Prop), ((((n187 = 1 →
 ∃ o211 l212 l213, World.cell? w189 d0 = some (.slice o211 l212 l213) ∧
 ∃ d214, o211 = some d214 ∧
 ((0 : Int) ≤ n188 ∧ n188 < ((l212 : Nat) : Int)) ∧
 ∃ n215, World.cell? w189 (Addr.add d214 (Int.toNat n188)) = some (.int .u8 n215) ∧
 (((n215 < 128 →
 Calls Try.prog 138 #[(.pointer (some d0)), (.int .i64 40)] w189 (fun e216 w217 =>
 ∃ b218 o219 l220 l221 o222 l223 l224 n225, e216 = .returned (.tuple #[(.agg #[(.bool b218), (.slice o219 l220 l221), (.slice o222 l223 l224)]), (.int .i64 n225)]) ∧
 CanSet w217 d4 (.bool b218) ∧ ∀ w226, IsSet w217 d4 (.bool b218) w226 →
 CanSet w226 (Addr.add d4 1) (.slice o219 l220 l221) ∧ ∀ w227, IsSet w226 (Addr.add d4 1) (.slice o219 l220 l221) w227 →
 CanSet w227 (Addr.add d4 2) (.slice o222 l223 l224) ∧ ∀ w228, IsSet w227 (Addr.add d4 2) (.slice o222 l223 l224) w228 →
 ∃ b229 o230 l231 l232 o233 l234 l235, World.cell? w228 d4 = some (.bool b229) ∧
 World.cell? w228 (Addr.add d4 1) = some (.slice o230 l231 l232) ∧
 World.cell? w228 (Addr.add d4 2) = some (.slice o233 l234 l235) ∧
 R (.returned (.tuple #[(.agg #[(.bool b229), (.slice o230 l231 l232), (.slice o233 l234 l235)]), (.int .i64 n225)])) w228))) ∧
 ((¬ n215 < 128 →
 J210  w189))))) ∧
 ((n187 ≠ 1 →
 J210  w189)))) ∧
 (∀  (j236 : Nat → Value) (w236 : World), J210  w236 →
 ∃ o237 l238 l239, World.cell? w236 d0 = some (.slice o237 l238 l239) ∧
 ((0 : Int) ≤ (IntKind.wrap .i64 (n188 + n187)) ∧ (IntKind.wrap .i64 (n188 + n187)) ≤ ((l239 : Nat) : Int)) ∧
 ((0 : Int) ≤ n188 ∧ n188 ≤ (((Int.toNat (IntKind.wrap .i64 (n188 + n187))) : Nat) : Int)) ∧
 ∃ v240 w241, Sem.run Try.prog (builtinV .append #[22, 22] 22 #[(.slice none 0 0), (.slice (subO o237 l239 (Int.toNat n188) 1) ((Int.toNat (IntKind.wrap .i64 (n188 + n187))) - (Int.toNat n188)) (l239 - (Int.toNat n188)))]) w236 = .ok v240 w241 ∧
 ∃ o242 l243 l244, v240 = (.slice o242 l243 l244) ∧
 CanSet w241 d4 (.bool false) ∧ ∀ w245, IsSet w241 d4 (.bool false) w245 →
 CanSet w245 (Addr.add d4 1) (.slice o242 l243 l244) ∧ ∀ w246, IsSet w245 (Addr.add d4 1) (.slice o242 l243 l244) w246 →
 CanSet w246 (Addr.add d4 2) (.slice none 0 0) ∧ ∀ w247, IsSet w246 (Addr.add d4 2) (.slice none 0 0) w247 →
 ∃ b248 o249 l250 l251 o252 l253 l254, World.cell? w247 d4 = some (.bool b248) ∧
 World.cell? w247 (Addr.add d4 1) = some (.slice o249 l250 l251) ∧
 World.cell? w247 (Addr.add d4 2) = some (.slice o252 l253 l254) ∧
 R (.returned (.tuple #[(.agg #[(.bool b248), (.slice o249 l250 l251), (.slice o252 l253 l254)]), (.int .i64 (IntKind.wrap .i64 (n188 + n187)))])) w247))) ∧
 ((n87 ≠ 128 →
 ∀ d255 w256, IsNew w189 138 #[(.bool false), (.slice none 0 0), (.slice none 0 0)] d255 w256 →
 CanSet w256 d255 (.bool true) ∧ ∀ w257, IsSet w256 d255 (.bool true) w257 →
 CanSet w257 (Addr.add d255 1) (.slice none 0 0) ∧ ∀ w258, IsSet w257 (Addr.add d255 1) (.slice none 0 0) w258 →
 CanSet w258 (Addr.add d255 2) (.slice none 0 0) ∧ ∀ w259, IsSet w258 (Addr.add d255 2) (.slice none 0 0) w259 →
 ∃ (J260 : World → Prop), (∃ (I261 : Int → World → Prop) (μ261 : Int → World → Nat), I261 n188 w259 ∧
 (∀ (n262 : Int) (j263 : Nat → Value) (w263 : World), I261 n262 w263 →
 (((n262 < (IntKind.wrap .i64 (n188 + n187)) →
 ∃ n264, World.cell? w263 (Addr.add d0 2) = some (.int .i64 n264) ∧
 (((n264 = 0 →
 Calls Try.prog 130 #[(.pointer (some d0)), (.int .i64 n262), (.int .i64 (IntKind.wrap .i64 (n188 + n187))), (.int .i64 (IntKind.wrap .i64 (n3 + 1)))] w263 (fun e265 w266 =>
 ∃ b267 o268 l269 l270 o271 l272 l273 n274, e265 = .returned (.tuple #[(.agg #[(.bool b267), (.slice o268 l269 l270), (.slice o271 l272 l273)]), (.int .i64 n274)]) ∧
 ∀ d275 w276, IsNew w266 138 #[(.bool false), (.slice none 0 0), (.slice none 0 0)] d275 w276 →
 CanSet w276 d275 (.bool b267) ∧ ∀ w277, IsSet w276 d275 (.bool b267) w277 →
 CanSet w277 (Addr.add d275 1) (.slice o268 l269 l270) ∧ ∀ w278, IsSet w277 (Addr.add d275 1) (.slice o268 l269 l270) w278 →
 CanSet w278 (Addr.add d275 2) (.slice o271 l272 l273) ∧ ∀ w279, IsSet w278 (Addr.add d275 2) (.slice o271 l272 l273) w279 →
 ∃ o280 l281 l282, World.cell? w279 (Addr.add d255 2) = some (.slice o280 l281 l282) ∧
 ∃ b283 o284 l285 l286 o287 l288 l289, World.cell? w279 d275 = some (.bool b283) ∧
 World.cell? w279 (Addr.add d275 1) = some (.slice o284 l285 l286) ∧
 World.cell? w279 (Addr.add d275 2) = some (.slice o287 l288 l289) ∧
 ∀ d290 w291, IsNew w279 138 #[(.bool b283), (.slice o284 l285 l286), (.slice o287 l288 l289)] d290 w291 →
 ∃ v292 w293, Sem.run Try.prog (builtinV .append #[136, 136] 136 #[(.slice o280 l281 l282), (.slice (some d290) 1 1)]) w291 = .ok v292 w293 ∧
 ∃ o294 l295 l296, v292 = (.slice o294 l295 l296) ∧
 CanSet w293 (Addr.add d255 2) (.slice o294 l295 l296) ∧ ∀ w297, IsSet w293 (Addr.add d255 2) (.slice o294 l295 l296) w297 →
 I261 n274 w297 ∧ μ261 n274 w297 < μ261 n262 w263))) ∧
 ((n264 ≠ 0 →
 J260  w263))))) ∧
 ((¬ n262 < (IntKind.wrap .i64 (n188 + n187)) →
 J260  w263))))) ∧
 (∀  (j298 : Nat → Value) (w298 : World), J260  w298 →
 ∃ n299, World.cell? w298 (Addr.add d0 2) = some (.int .i64 n299) ∧
 (((n299 ≠ 0 →
 CanSet w298 d4 (.bool false) ∧ ∀ w300, IsSet w298 d4 (.bool false) w300 →
 CanSet w300 (Addr.add d4 1) (.slice none 0 0) ∧ ∀ w301, IsSet w300 (Addr.add d4 1) (.slice none 0 0) w301 →
 CanSet w301 (Addr.add d4 2) (.slice none 0 0) ∧ ∀ w302, IsSet w301 (Addr.add d4 2) (.slice none 0 0) w302 →
 ∃ b303 o304 l305 l306 o307 l308 l309, World.cell? w302 d4 = some (.bool b303) ∧
 World.cell? w302 (Addr.add d4 1) = some (.slice o304 l305 l306) ∧
 World.cell? w302 (Addr.add d4 2) = some (.slice o307 l308 l309) ∧
 R (.returned (.tuple #[(.agg #[(.bool b303), (.slice o304 l305 l306), (.slice o307 l308 l309)]), (.int .i64 0)])) w302)) ∧
 ((n299 = 0 →
 ∃ b310 o311 l312 l313 o314 l315 l316, World.cell? w298 d255 = some (.bool b310) ∧
 World.cell? w298 (Addr.add d255 1) = some (.slice o311 l312 l313) ∧
 World.cell? w298 (Addr.add d255 2) = some (.slice o314 l315 l316) ∧
 CanSet w298 d4 (.bool b310) ∧ ∀ w317, IsSet w298 d4 (.bool b310) w317 →
 CanSet w317 (Addr.add d4 1) (.slice o311 l312 l313) ∧ ∀ w318, IsSet w317 (Addr.add d4 1) (.slice o311 l312 l313) w318 →
 CanSet w318 (Addr.add d4 2) (.slice o314 l315 l316) ∧ ∀ w319, IsSet w318 (Addr.add d4 2) (.slice o314 l315 l316) w319 →
 ∃ b320 o321 l322 l323 o324 l325 l326, World.cell? w319 d4 = some (.bool b320) ∧
 World.cell? w319 (Addr.add d4 1) = some (.slice o321 l322 l323) ∧
 World.cell? w319 (Addr.add d4 2) = some (.slice o324 l325 l326) ∧
 R (.returned (.tuple #[(.agg #[(.bool b320), (.slice o321 l322 l323), (.slice o324 l325 l326)]), (.int .i64 (IntKind.wrap .i64 (n188 + n187)))])) w319))))))))))))))))))))))))
theorem moraineref4_reader_item.vc (d0 n1 n2 n3 w R) (h : moraineref4_reader_item.Vc d0 n1 n2 n3 w R) : Calls Try.prog 130 #[(.pointer (some d0)), (.int .i64 n1), (.int .i64 n2), (.int .i64 n3)] w R := xs [(1000012, [(11, .cell (.int .i64))]), (1000026, [(12, .cell (.int .i64)), (13, .cell (.int .i64))]), (19, [(12, .cell (.int .i64)), (15, .cell (.int .i64))]), (1000022, [(93, .cell (.bool))]), (1000032, []), (1000038, []), (34, [(13, .cell (.int .i64))])] [.addr d0, .int .i64 n1, .int .i64 n2, .int .i64 n3] Try.func130 mixed (by kernel_rfl) h

abbrev moraineref4_reader_fault.n : Nat := 138
def moraineref4_reader_fault.Vc (d0 : Addr) (n1 : Int) (w : World) (R : Ending → World → Prop) : Prop :=
 ∀ d2 w3, IsNew w 138 #[(.bool false), (.slice none 0 0), (.slice none 0 0)] d2 w3 →
 ∃ n4, World.cell? w3 (Addr.add d0 2) = some (.int .i64 n4) ∧
 (((n4 = 0 →
 CanSet w3 (Addr.add d0 2) (.int .i64 n1) ∧ ∀ w5, IsSet w3 (Addr.add d0 2) (.int .i64 n1) w5 →
 CanSet w5 d2 (.bool false) ∧ ∀ w6, IsSet w5 d2 (.bool false) w6 →
 CanSet w6 (Addr.add d2 1) (.slice none 0 0) ∧ ∀ w7, IsSet w6 (Addr.add d2 1) (.slice none 0 0) w7 →
 CanSet w7 (Addr.add d2 2) (.slice none 0 0) ∧ ∀ w8, IsSet w7 (Addr.add d2 2) (.slice none 0 0) w8 →
 ∃ b9 o10 l11 l12 o13 l14 l15, World.cell? w8 d2 = some (.bool b9) ∧
 World.cell? w8 (Addr.add d2 1) = some (.slice o10 l11 l12) ∧
 World.cell? w8 (Addr.add d2 2) = some (.slice o13 l14 l15) ∧
 R (.returned (.tuple #[(.agg #[(.bool b9), (.slice o10 l11 l12), (.slice o13 l14 l15)]), (.int .i64 0)])) w8)) ∧
 ((n4 ≠ 0 →
 CanSet w3 d2 (.bool false) ∧ ∀ w16, IsSet w3 d2 (.bool false) w16 →
 CanSet w16 (Addr.add d2 1) (.slice none 0 0) ∧ ∀ w17, IsSet w16 (Addr.add d2 1) (.slice none 0 0) w17 →
 CanSet w17 (Addr.add d2 2) (.slice none 0 0) ∧ ∀ w18, IsSet w17 (Addr.add d2 2) (.slice none 0 0) w18 →
 ∃ b19 o20 l21 l22 o23 l24 l25, World.cell? w18 d2 = some (.bool b19) ∧
 World.cell? w18 (Addr.add d2 1) = some (.slice o20 l21 l22) ∧
 World.cell? w18 (Addr.add d2 2) = some (.slice o23 l24 l25) ∧
 R (.returned (.tuple #[(.agg #[(.bool b19), (.slice o20 l21 l22), (.slice o23 l24 l25)]), (.int .i64 0)])) w18)))
theorem moraineref4_reader_fault.vc (d0 n1 w R) (h : moraineref4_reader_fault.Vc d0 n1 w R) : Calls Try.prog 138 #[(.pointer (some d0)), (.int .i64 n1)] w R := xs [] [.addr d0, .int .i64 n1] Try.func138 mixed (by kernel_rfl) h

abbrev moraineref4_Of.n : Nat := 134
def moraineref4_Of.Vc (b0 : Bool) (o1 : Option Addr) (l1 c1 : Nat) (o2 : Option Addr) (l2 c2 : Nat) (w : World) (R : Ending → World → Prop) : Prop :=
 ∀ d3 w4, IsNew w 138 #[(.bool b0), (.slice o1 l1 c1), (.slice o2 l2 c2)] d3 w4 →
 ∃ b5, World.cell? w4 d3 = some (.bool b5) ∧
 (((b5 = false →
 ∃ o6 l7 l8, World.cell? w4 (Addr.add d3 1) = some (.slice o6 l7 l8) ∧
 Calls Try.prog 64 #[(.slice o6 l7 l8)] w4 (fun e9 w10 =>
 ∃ o11 l12 l13, e9 = .returned (.slice o11 l12 l13) ∧
 R (.returned (.slice o11 l12 l13)) w10))) ∧
 ((b5 = true →
 ∃ (I14 : Option Addr → Nat → Nat → Int → World → Prop) (μ14 : Option Addr → Nat → Nat → Int → World → Nat), I14 none 0 0 0 w4 ∧
 (∀ (o15 : Option Addr) (l15 : Nat) (c15 : Nat) (n16 : Int) (j17 : Nat → Value) (w17 : World), I14 o15 l15 c15 n16 w17 →
 ∃ o18 l19 l20, World.cell? w17 (Addr.add d3 2) = some (.slice o18 l19 l20) ∧
 (((n16 < ((l19 : Nat) : Int) →
 (((((l15 : Nat) : Int) ≤ 65536 →
 ∃ o21 l22 l23, World.cell? w17 (Addr.add d3 2) = some (.slice o21 l22 l23) ∧
 ∃ d24, o21 = some d24 ∧
 ((0 : Int) ≤ n16 ∧ n16 < ((l22 : Nat) : Int)) ∧
 ∃ b25 o26 l27 l28 o29 l30 l31, World.cell? w17 (Addr.add d24 ((Int.toNat n16) * 3)) = some (.bool b25) ∧
 World.cell? w17 (Addr.add (Addr.add d24 ((Int.toNat n16) * 3)) 1) = some (.slice o26 l27 l28) ∧
 World.cell? w17 (Addr.add (Addr.add d24 ((Int.toNat n16) * 3)) 2) = some (.slice o29 l30 l31) ∧
 Calls Try.prog 134 #[(.agg #[(.bool b25), (.slice o26 l27 l28), (.slice o29 l30 l31)])] w17 (fun e32 w33 =>
 ∃ o34 l35 l36, e32 = .returned (.slice o34 l35 l36) ∧
 ∃ v37 w38, Sem.run Try.prog (builtinV .append #[22, 22] 22 #[(.slice o15 l15 c15), (.slice o34 l35 l36)]) w33 = .ok v37 w38 ∧
 ∃ o39 l40 l41, v37 = (.slice o39 l40 l41) ∧
 I14 o39 l40 l41 (IntKind.wrap .i64 (n16 + 1)) w38 ∧ μ14 o39 l40 l41 (IntKind.wrap .i64 (n16 + 1)) w38 < μ14 o15 l15 c15 n16 w17))) ∧
 ((¬ ((l15 : Nat) : Int) ≤ 65536 →
 Calls Try.prog 63 #[(.slice o15 l15 c15)] w17 (fun e42 w43 =>
 ∃ o44 l45 l46, e42 = .returned (.slice o44 l45 l46) ∧
 R (.returned (.slice o44 l45 l46)) w43)))))) ∧
 ((¬ n16 < ((l19 : Nat) : Int) →
 Calls Try.prog 63 #[(.slice o15 l15 c15)] w17 (fun e47 w48 =>
 ∃ o49 l50 l51, e47 = .returned (.slice o49 l50 l51) ∧
 R (.returned (.slice o49 l50 l51)) w48))))))))
theorem moraineref4_Of.vc (b0 o1 l1 c1 o2 l2 c2 w R) (h : moraineref4_Of.Vc b0 o1 l1 c1 o2 l2 c2 w R) : Calls Try.prog 134 #[(.agg #[(.bool b0), (.slice o1 l1 c1), (.slice o2 l2 c2)])] w R := xs [(5, [(3, .cell (.slice)), (4, .cell (.int .i64))])] [.agg [.bool (.var b0), .slice o1 l1 c1, .slice o2 l2 c2]] Try.func134 mixed (by kernel_rfl) h

end Go.Proofs.Ytfghidehlnfdiaa
end
section
namespace Go.Proofs.Ytfghidehlnfdiaa
open Go Go.Vcg Go.Trie
def sg (B : By) (i j : Nat) : By := (B.drop i).take (j - i)
theorem sg_len {B : By} {i j : Nat} (h : j ≤ B.length) : (sg B i j).length = j - i := by unfold sg; rw [List.length_take, List.length_drop]; omega
theorem sg_get {B : By} {i j t : Nat} (h : i + t < j) : (sg B i j).getD t 0 = B.getD (i + t) 0 := by
  unfold sg
  simp only [List.getD_eq_getElem?_getD]
  rw [List.getElem?_take_of_lt (by omega), List.getElem?_drop]
theorem sg_sub {B : By} {i j a q : Nat} (h : i + a + q ≤ j) : ((sg B i j).drop a).take q = sg B (i + a) (i + a + q) := by
  unfold sg
  rw [List.drop_take, List.drop_drop, List.take_take]
  congr 1
  omega
theorem sg_drop {B : By} {i j a : Nat} : (sg B i j).drop a = sg B (i + a) j := by
  unfold sg
  rw [List.drop_take, List.drop_drop]
  congr 1
  omega
theorem sg_nil (B : By) (i : Nat) : sg B i i = [] := by simp [sg]
theorem sg_one {B : By} {i : Nat} (h : i < B.length) : sg B i (i + 1) = [B.getD i 0] := by
  unfold sg
  rw [Nat.add_sub_cancel_left, List.drop_eq_getElem_cons h, List.take_succ_cons, List.take_zero, List.getD_eq_getElem?_getD, List.getElem?_eq_getElem h]
  rfl
section
variable {w : World} {D n : Nat} {S : Value}
theorem fault_calls (X : Blk w D 221 #[S, .int .i64 (n : Int), .int .i64 0]) (x : Int) :
    Calls Try.prog moraineref4_reader_fault.n #[.pointer (some ⟨D, 0, none⟩), .int .i64 x] w (fun e w' => e = .returned (.tuple #[.agg #[.bool false, .slice none 0 0, .slice none 0 0], .int .i64 0]) ∧ Vcg.Mod (· = D) w w' ∧ Blk w' D 221 #[S, .int .i64 (n : Int), .int .i64 x]) := by
  refine moraineref4_reader_fault.vc _ _ _ _ ?_
  unfold moraineref4_reader_fault.Vc
  have hD := X.lt
  rintro d1 w1 ⟨rfl, rfl⟩
  have M1 : Vcg.Mod NoB w _ := Mod.alloc w (.cells #[.bool false, .slice none 0 0, .slice none 0 0] 138)
  have Y1 := Blk.new w 138 #[.bool false, .slice none 0 0, .slice none 0 0]
  have X1 := X.mod' M1
  generalize hN : w.heap.size = N at *
  generalize w.alloc (.cells #[.bool false, .slice none 0 0, .slice none 0 0] 138) = w1 at *
  refine ⟨0, by rw [add_at]; exact X1.rd1 rfl, fun _ => ?_, fun h => (h rfl).elim⟩
  rw [add_at]
  refine ⟨X1.canSet (by simp) rfl, ?_⟩
  rintro _ rfl
  have X2 := X1.set 2 (.int .i64 x)
  have Y2 := Y1.set_ne (a := ⟨D, 0 + 2, none⟩) (v := .int .i64 x) (by simp; omega)
  have M2 : Vcg.Mod (· = D) w _ := (M1.mono (fun _ _ h => h.elim)).step_set (a := ⟨D, 0 + 2, none⟩) (v := .int .i64 x) (fun _ => rfl)
  exact ret_3 Y2 (fun w3 M3 => ⟨rfl, M2.trans M3 (fun i hi h => by omega), X2.mod M3 (by omega)⟩)
end
def RdIs (r : Except Int (It × Nat × Nat)) (S : Value) (i : Nat) (w : World) (D : Nat) (e : Ending) (w' : World) : Prop := match r with
  | .error x => x ≠ 0 ∧ e = .returned (.tuple #[.agg #[.bool false, .slice none 0 0, .slice none 0 0], .int .i64 0]) ∧ ∃ n' : Nat, Blk w' D 221 #[S, .int .i64 (n' : Int), .int .i64 x]
  | .ok (x, q, m) => Blk w' D 221 #[S, .int .i64 (m : Int), .int .i64 0] ∧ ∃ v1 v2 v3, e = .returned (.tuple #[.agg #[v1, v2, v3], .int .i64 ((i + q : Nat) : Int)]) ∧ ItC (fun b => b < w.heap.size) w' x v1 v2 v3
theorem its_nil_s (A : Nat → Prop) (w : World) : ItC A w (.s []) (.bool false) (.slice none 0 0) (.slice none 0 0) := by
  simp only [ItC]
  exact ⟨trivial, ⟨none, 0, rfl, RdB.nil _ _, fun h => (h rfl).elim⟩, trivial⟩
def CapIs (v : Int) (b : By) : Prop := 0 ≤ v ∧ v ≤ 1099511627776 ∧ (v = (be b : Int) ∨ (v > 2147483648 ∧ be b > 2147483648))
set_option maxHeartbeats 2000000 in
set_option maxRecDepth 10000 in
theorem item_calls : ∀ (f d n i j : Nat) (B : By) {w : World} {D k : Nat} {o : Option Addr}, 2 * (j - i) + 1 ≤ f → i ≤ j → j ≤ B.length → B.length ≤ 65536 → RdB w o B → B.length ≤ k → Blk w D 221 #[.slice o B.length k, .int .i64 (n : Int), .int .i64 0] → (B ≠ [] → Off (· = D) o) → n ≤ 4096 → d ≤ 20 →
    Calls Try.prog moraineref4_reader_item.n #[.pointer (some ⟨D, 0, none⟩), .int .i64 (i : Int), .int .i64 (j : Int), .int .i64 (d : Int)] w (fun e w' => Vcg.Mod (· = D) w w' ∧ RdIs (dcd f d n (sg B i j)) (.slice o B.length k) i w D e w')
  | 0, _, _, _, _, _, _, _, _, _, hf, _, _, _, _, _, _, _, _, _ => absurd hf (by omega)
  | f + 1, d, n, i, j, B, w, D, k, o, hf, hij, hjB, hlen, hr, hk, W, hoff, hn, hd20 => by
    refine calls_gen fun R hR => moraineref4_reader_item.vc _ _ _ _ _ _ ?_
    unfold moraineref4_reader_item.Vc
    have hD := W.lt
    rintro d3 w1 ⟨rfl, rfl⟩
    have M1 : Vcg.Mod NoB w _ := Mod.alloc w (.cells #[.bool false, .slice none 0 0, .slice none 0 0] 138)
    have X1 := Blk.new w 138 #[.bool false, .slice none 0 0, .slice none 0 0]
    have hs1 := size_alloc w (.cells #[.bool false, .slice none 0 0, .slice none 0 0] 138)
    have W1 := W.mod' M1
    have hr1 := hr.mod' M1
    generalize hN : w.heap.size = N at *
    generalize w.alloc (.cells #[.bool false, .slice none 0 0, .slice none 0 0] 138) = w1 at *
    have M1' : Vcg.Mod (· = D) w w1 := M1.mono (fun _ _ h => h.elim)
    generalize hS : Value.slice o B.length k = S at *
    have hbl : (sg B i j).length = j - i := sg_len hjB
    -- an error is told
    have bad : ∀ (w' : World) (n' : Nat) (a b c : Value) (x : Int), Vcg.Mod (· = D) w w' → Blk w' D 221 #[S, .int .i64 (n' : Int), .int .i64 0] → Blk w' N 138 #[a, b, c] → dcd (f + 1) d n (sg B i j) = .error x → x ≠ 0 →
        Calls Try.prog 138 #[.pointer (some ⟨D, 0, none⟩), .int .i64 x] w' (fun e w'' => e = .returned (.tuple #[.agg #[.bool false, .slice none 0 0, .slice none 0 0], .int .i64 0]) ∧ Blk w'' N 138 #[a, b, c] ∧
          ∀ w3, Vcg.Mod (· = N) w'' w3 → R (.returned (.tuple #[.agg #[.bool false, .slice none 0 0, .slice none 0 0], .int .i64 0])) w3) := by
      intro w' n' a b c x M X' Y hx h0
      refine (fault_calls X' x).mono ?_
      rintro _ w2 ⟨rfl, M2, X2⟩
      refine ⟨rfl, Y.mod M2 (by omega), fun w3 M3 => hR _ _ ⟨(M.trans M2 (fun i hi h => h)).trans M3 (fun i hi h => by omega), ?_⟩⟩
      rw [hx]
      exact ⟨h0, rfl, n', X2.mod M3 (by omega)⟩
    refine ⟨fun h0 => ?_, fun h0 => ?_⟩
    · have hb : sg B i j = [] := List.eq_nil_of_length_eq_zero (by omega)
      refine (bad w1 n _ _ _ 41 M1' W1 X1 (by rw [hb]; exact dcd_nil f d n) (by decide)).mono ?_
      rintro _ w2 ⟨rfl, X2, h2⟩
      exact ⟨_, _, _, _, _, _, _, _, rfl, ret_3 X2 h2⟩
    have hlt : i < j := by omega
    have hbne : sg B i j ≠ [] := fun h => by rw [h] at hbl; simp at hbl; omega
    have hBne : B ≠ [] := by rintro rfl; simp at hjB; omega
    refine ⟨fun hdeep => ?_, fun hdeep => ⟨_, by rw [add_at]; exact W1.rd1 rfl, fun hful => ?_, fun hful => ⟨_, by rw [add_at]; exact W1.rd1 rfl, ?_⟩⟩⟩
    · refine (bad w1 n _ _ _ 43 M1' W1 X1 (dcd_deep hbne (.inl (by omega))) (by decide)).mono ?_
      rintro _ w2 ⟨rfl, X2, h2⟩
      exact ⟨_, _, _, _, _, _, _, _, rfl, ret_3 X2 h2⟩
    · refine (bad w1 n _ _ _ 43 M1' W1 X1 (dcd_deep hbne (.inr (by omega))) (by decide)).mono ?_
      rintro _ w2 ⟨rfl, X2, h2⟩
      exact ⟨_, _, _, _, _, _, _, _, rfl, ret_3 X2 h2⟩
    have ewn : IntKind.wrap .i64 ((n : Int) + 1) = ((n + 1 : Nat) : Int) := by rw [wrap_i64_small (by omega) (by omega)]; omega
    rw [ewn, add_at]
    refine ⟨W1.canSet (by simp) rfl, ?_⟩
    rintro _ rfl
    have W2 := W1.set 1 (.int .i64 ((n + 1 : Nat) : Int))
    have X2 := X1.set_ne (a := ⟨D, 0 + 1, none⟩) (v := .int .i64 ((n + 1 : Nat) : Int)) (by simp; omega)
    have M2 : Vcg.Mod (· = D) w _ := M1'.step_set (a := ⟨D, 0 + 1, none⟩) (v := .int .i64 ((n + 1 : Nat) : Int)) (fun _ => rfl)
    have hr2 : RdB _ o B := hr1.mod (Mod.setCell w1 ⟨D, 0 + 1, none⟩ (.int .i64 ((n + 1 : Nat) : Int))) (hoff hBne)
    have hs2 : (w1.setCell ⟨D, 0 + 1, none⟩ (.int .i64 ((n + 1 : Nat) : Int))).heap.size = N + 1 := by rw [size_setCell]; exact hs1
    generalize w1.setCell ⟨D, 0 + 1, none⟩ (.int .i64 ((n + 1 : Nat) : Int)) = w2 at *
    clear X1 W1 hr1 M1 M1' hs1
    subst hS
    have hN2 : ∀ {w' : World}, Vcg.Mod (· = D) w w' → RdB w' o B := fun M => hr.mod M (hoff hBne)
    obtain ⟨b0, f0, rfl, hb0, hcells⟩ := hr2 hBne
    have hb0N : b0 < N := by
      obtain ⟨b1, f1, h1, h2, _⟩ := hr hBne
      cases h1
      omega
    have cell : ∀ {w' : World}, Vcg.Mod (· = D) w w' → ∀ t, t < B.length → w'.cell? ⟨b0, f0 + t, none⟩ = some (bV (B.getD t 0)) := fun M t ht => by
      obtain ⟨b1, f1, h1, h2, h3⟩ := hN2 M hBne
      cases h1
      exact h3 t ht
    have hdn : ¬ (d > 16 ∨ n = 4096) := by omega
    have hdec := dcd_go (f := f) hbne hdn
    have hg0 : (sg B i j).getD 0 0 = B.getD i 0 := by rw [sg_get (by omega), Nat.add_zero]
    generalize hcv : (B.getD i 0).toNat = c at *
    have hc255 : c ≤ 255 := by have := (B.getD i 0).toNat_lt; omega
    refine ⟨_, _, _, W2.rd1 rfl, _, rfl, ⟨by omega, by omega⟩, (c : Int), by rw [add_at, Int.toNat_natCast]; have := cell M2 i (by omega); simp only [bV, hcv] at this; exact this, ?_⟩
    have ec : IntKind.wrap .i64 (c : Int) = (c : Int) := wrap_i64_small (by omega) (by omega)
    have ei1 : IntKind.wrap .i64 ((i : Int) + 1) = ((i + 1 : Nat) : Int) := by rw [wrap_i64_small (by omega) (by omega)]; omega
    rw [ec, ei1]
    have hhd : hd (sg B i j) = (if c < 128 then .ok (false, 0, 1, true) else
      if c - (if c ≥ 192 then 192 else 128) ≤ 55 then .ok (decide (c ≥ 192), 1, c - (if c ≥ 192 then 192 else 128), false)
      else if j - i < 1 + (c - (if c ≥ 192 then 192 else 128) - 55) then .error 41
      else if (sg B i j).getD 1 0 = 0 ∨ be (((sg B i j).drop 1).take (c - (if c ≥ 192 then 192 else 128) - 55)) ≤ 55 ∨ be (((sg B i j).drop 1).take (c - (if c ≥ 192 then 192 else 128) - 55)) > 2147483648 then .error 40
      else .ok (decide (c ≥ 192), 1 + (c - (if c ≥ 192 then 192 else 128) - 55), be (((sg B i j).drop 1).take (c - (if c ≥ 192 then 192 else 128) - 55)), false)) := by
      unfold hd
      simp only [hg0, hcv, hbl]
    refine ⟨fun hc => ?_, fun hc => ?_⟩
    · rw [show hd (sg B i j) = .ok (false, 0, 1, true) by rw [hhd, if_pos (by omega)]] at hdec
      simp only at hdec
      rw [if_neg (by omega), if_pos trivial, if_neg (fun h => by exact absurd h.1 (by decide))] at hdec
      have e8 : IntKind.wrap .u8 (c : Int) = (c : Int) := by rw [wrap_u8]; omega
      rw [e8]
      rintro d4 w3 ⟨rfl, rfl⟩
      have M23 : Vcg.Mod NoB w2 _ := Mod.alloc w2 (.cells #[.int .u8 (c : Int)] 5)
      have Z := Blk.new w2 5 #[.int .u8 (c : Int)]
      refine ret_3 (X2.mod' M23) (fun w4 M4 => hR _ _ ⟨(M2.none_trans M23).trans M4 (fun i hi h => by omega), ?_⟩)
      rw [hdec]
      refine ⟨(W2.mod' M23).mod M4 (by omega), _, _, _, rfl, ?_⟩
      have e1 : ((sg B i j).drop 0).take 1 = [B.getD i 0] := by
        rw [sg_sub (by omega), Nat.add_zero]
        exact sg_one (by omega)
      rw [e1]
      simp only [ItC]
      refine ⟨trivial, ⟨_, _, rfl, RdB.of_blk (Z.mod M4 (by omega)) (fun t ht => ?_), fun _ dd hdd h => ?_⟩, trivial⟩
      · simp only [List.length_singleton] at ht
        obtain rfl : t = 0 := by omega
        simp only [Nat.zero_add, bV, List.getD_cons_zero, hcv]
        rfl
      · cases hdd
        have h' : w2.heap.size < w.heap.size := h
        omega
    generalize hbase : (if c ≥ 192 then 192 else 128) = base at *
    have hb1 : 128 ≤ base ∧ base ≤ c := by rw [← hbase]; split <;> omega
    have hkk8 : c - base - 55 ≤ 8 := by rw [← hbase]; split <;> omega
    rw [if_neg (by omega)] at hhd
    refine ⟨fun v w' => w' = w2 ∧ v = (base : Int), ⟨fun h => ⟨rfl, ?_⟩, fun h => ⟨rfl, ?_⟩⟩, ?_⟩
    · rw [← hbase, if_pos (by omega)]; rfl
    · rw [← hbase, if_neg (by omega)]; rfl
    rintro _ _ w2 ⟨rfl, rfl⟩
    have ecb : IntKind.wrap .i64 ((c : Int) - (base : Int)) = ((c - base : Nat) : Int) := by rw [wrap_i64_small (by omega) (by omega)]; omega
    rw [ecb]
    refine ⟨fun v t w' => w' = w2 ∧ ∃ a q : Nat, hd (sg B i j) = .ok (decide (c ≥ 192), a, q, false) ∧ v = (q : Int) ∧ t = ((i + a : Nat) : Int) ∧ 1 ≤ a ∧ a ≤ j - i, ⟨fun hgt => ?_, fun hle => ?_⟩, ?_⟩
    · have e55 : IntKind.wrap .i64 (((c - base : Nat) : Int) - 55) = ((c - base - 55 : Nat) : Int) := by rw [wrap_i64_small (by omega) (by omega)]; omega
      rw [e55]
      rw [if_neg (by omega)] at hhd
      generalize hkk : c - base - 55 = kk at *
      have efk : IntKind.wrap .i64 (((i + 1 : Nat) : Int) + (kk : Int)) = ((i + 1 + kk : Nat) : Int) := by rw [wrap_i64_small (by omega) (by omega)]; omega
      rw [efk]
      refine ⟨fun hsh => ?_, fun hsh => ?_⟩
      · rw [if_pos (by omega)] at hhd
        rw [hhd] at hdec
        refine (bad w2 (n + 1) _ _ _ 41 M2 W2 X2 hdec (by decide)).mono ?_
        rintro _ w3 ⟨rfl, X3, h3⟩
        exact ⟨_, _, _, _, _, _, _, _, rfl, ret_3 X3 h3⟩
      rw [if_neg (by omega)] at hhd
      refine ⟨fun v t w' => w' = w2 ∧ ∃ u : Nat, t = (u : Int) ∧ u ≤ kk ∧ CapIs v (((sg B i j).drop 1).take u), fun _ t _ => ((kk : Int) - t).toNat, ⟨rfl, 0, rfl, Nat.zero_le _, by decide, by decide, .inl (by simp [be])⟩, ?_⟩
      rintro v _ _ w2 ⟨rfl, u, rfl, hu, hv0, hv1, hv⟩
      have ew : IntKind.wrap .i64 ((u : Int) + 1) = ((u + 1 : Nat) : Int) := by rw [wrap_i64_small (by omega) (by omega)]; omega
      refine ⟨fun hlt => ?_, fun hge => ?_⟩
      · have huk : u < kk := by omega
        have hstep := be_step (sg B i j) (j := u) (by omega)
        have hgu : ((sg B i j).drop 1).getD u 0 = B.getD (i + 1 + u) 0 := by rw [sg_drop, sg_get (by omega)]
        rw [hgu] at hstep
        refine ⟨fun b w' => w' = w2 ∧ b = decide (v ≤ 2147483648), ⟨fun _ => ⟨rfl, rfl⟩, fun h8 => by omega⟩, ?_⟩
        rintro _ _ w2 ⟨rfl, rfl⟩
        rw [ew]
        have efu : IntKind.wrap .i64 (((i + 1 : Nat) : Int) + (u : Int)) = ((i + 1 + u : Nat) : Int) := by rw [wrap_i64_small (by omega) (by omega)]; omega
        rw [efu]
        refine ⟨fun hb => ?_, fun hb => ?_⟩
        · have hvle := of_decide_eq_true hb
          have hvbe : v = (be (((sg B i j).drop 1).take u) : Int) := by
            rcases hv with h | h
            · exact h
            · omega
          have c1 := cell M2 (i + 1 + u) (by omega)
          have hd256 := (B.getD (i + 1 + u) 0).toNat_lt
          refine ⟨_, _, _, W2.rd1 rfl, _, rfl, ⟨by omega, by omega⟩, ((B.getD (i + 1 + u) 0).toNat : Int), by rw [add_at, Int.toNat_natCast]; exact c1, ?_⟩
          have ev : IntKind.wrap .i64 ((IntKind.wrap .i64 (256 * v)) + (IntKind.wrap .i64 ((B.getD (i + 1 + u) 0).toNat : Int))) = ((be (((sg B i j).drop 1).take (u + 1)) : Nat) : Int) := by
            rw [wrap_i64_small (n := 256 * v) (by omega) (by omega), wrap_i64_small (n := ((B.getD (i + 1 + u) 0).toNat : Int)) (by omega) (by omega), wrap_i64_small (by omega) (by omega), hstep]
            omega
          rw [ev]
          exact ⟨⟨rfl, u + 1, rfl, huk, by omega, by omega, .inl rfl⟩, by dsimp only; omega⟩
        · have hvgt := of_decide_eq_false hb
          exact ⟨⟨rfl, u + 1, rfl, huk, hv0, hv1, .inr ⟨by omega, by omega⟩⟩, by dsimp only; omega⟩
      · obtain rfl : u = kk := by omega
        have c1 := cell M2 (i + 1) (by omega)
        have hg1 : (sg B i j).getD 1 0 = B.getD (i + 1) 0 := sg_get (by omega)
        rw [hg1] at hhd
        refine ⟨_, _, _, W2.rd1 rfl, _, rfl, ⟨by omega, by omega⟩, ((B.getD (i + 1) 0).toNat : Int), by rw [add_at, Int.toNat_natCast]; exact c1, fun hz => ?_, fun hz => ⟨fun h56 => ?_, fun h56 => ⟨fun hbig => ?_, fun hbig => ?_⟩⟩⟩
        · have hz0 : B.getD (i + 1) 0 = 0 := UInt8.toNat_inj.1 (by simpa using hz)
          rw [if_pos (.inl hz0)] at hhd
          rw [hhd] at hdec
          refine (bad w2 (n + 1) _ _ _ 40 M2 W2 X2 hdec (by decide)).mono ?_
          rintro _ w3 ⟨rfl, X3, h3⟩
          exact ⟨_, _, _, _, _, _, _, _, rfl, ret_3 X3 h3⟩
        · rw [if_pos (.inr (.inl (by omega)))] at hhd
          rw [hhd] at hdec
          refine (bad w2 (n + 1) _ _ _ 40 M2 W2 X2 hdec (by decide)).mono ?_
          rintro _ w3 ⟨rfl, X3, h3⟩
          exact ⟨_, _, _, _, _, _, _, _, rfl, ret_3 X3 h3⟩
        · rw [if_pos (.inr (.inr (by omega)))] at hhd
          rw [hhd] at hdec
          refine (bad w2 (n + 1) _ _ _ 40 M2 W2 X2 hdec (by decide)).mono ?_
          rintro _ w3 ⟨rfl, X3, h3⟩
          exact ⟨_, _, _, _, _, _, _, _, rfl, ret_3 X3 h3⟩
        · have hnz : ¬ B.getD (i + 1) 0 = 0 := fun h => hz (by rw [h]; rfl)
          rw [if_neg (fun h => h.elim hnz (fun h => h.elim (fun h => by omega) (fun h => by omega)))] at hhd
          exact ⟨rfl, 1 + u, _, hhd, by omega, by omega, by omega, by omega⟩
    · rw [if_pos (by omega)] at hhd
      exact ⟨rfl, 1, c - base, hhd, rfl, rfl, Nat.le_refl _, by omega⟩
    · clear hhd
      rintro _ _ _ w2 ⟨rfl, a, q, hh, rfl, rfl, ha1, haj⟩
      rw [hh] at hdec
      simp only at hdec
      have hq31 := hd_bound hh
      have ejf : IntKind.wrap .i64 ((j : Int) - ((i + a : Nat) : Int)) = ((j - (i + a) : Nat) : Int) := by rw [wrap_i64_small (by omega) (by omega)]; omega
      have eto : IntKind.wrap .i64 (((i + a : Nat) : Int) + (q : Int)) = ((i + a + q : Nat) : Int) := by rw [wrap_i64_small (by omega) (by omega)]; omega
      rw [ejf]
      refine ⟨fun hbig => ?_, fun hbig => ?_⟩
      · rw [if_pos (by omega)] at hdec
        refine (bad w2 (n + 1) _ _ _ 41 M2 W2 X2 hdec (by decide)).mono ?_
        rintro _ w3 ⟨rfl, X3, h3⟩
        exact ⟨_, _, _, _, _, _, _, _, rfl, ret_3 X3 h3⟩
      rw [if_neg (by omega)] at hdec
      have hq : i + a + q ≤ j := by omega
      rw [sg_sub hq] at hdec
      rw [eto]
      have hil : (sg B (i + a) (i + a + q)).length = q := by rw [sg_len (by omega)]; omega
      refine ⟨fun h128 => ?_, fun h128 => ?_⟩
      · have hc192 : ¬ c ≥ 192 := fun h => by rw [if_pos h] at hbase; omega
        rw [if_pos (decide_eq_false hc192)] at hdec
        refine ⟨fun w' => w' = w2 ∧ Trie.own (sg B (i + a) (i + a + q)) = false, ⟨fun h1 => ?_, fun h1 => ⟨rfl, ?_⟩⟩, ?_⟩
        · have c1 := cell M2 (i + a) (by omega)
          have e1 : sg B (i + a) (i + a + q) = [B.getD (i + a) 0] := by
            rw [show i + a + q = i + a + 1 by omega]
            exact sg_one (by omega)
          refine ⟨_, _, _, W2.rd1 rfl, _, rfl, ⟨by omega, by omega⟩, ((B.getD (i + a) 0).toNat : Int), by rw [add_at, Int.toNat_natCast]; exact c1, fun hlt => ?_, fun hlt => ⟨rfl, ?_⟩⟩
          · have ho : Trie.own (sg B (i + a) (i + a + q)) = true := by
              rw [e1]
              simp only [Trie.own, decide_eq_true_eq]
              rw [UInt8.lt_iff_toNat_lt]
              show _ < 128
              omega
            rw [if_pos ⟨trivial, ho⟩] at hdec
            refine (bad w2 (n + 1) _ _ _ 40 M2 W2 X2 hdec (by decide)).mono ?_
            rintro _ w3 ⟨rfl, X3, h3⟩
            exact ⟨_, _, _, _, _, _, _, _, rfl, ret_3 X3 h3⟩
          · rw [e1]
            simp only [Trie.own, decide_eq_false_iff_not]
            rw [UInt8.lt_iff_toNat_lt]
            show ¬ _ < 128
            omega
        · have hq1 : q ≠ 1 := by omega
          cases h : sg B (i + a) (i + a + q) with
          | nil => rfl
          | cons x r =>
            cases r with
            | nil => rw [h] at hil; simp at hil; omega
            | cons y r => rfl
        · rintro _ w2 ⟨rfl, hown⟩
          rw [if_neg (fun h => by rw [hown] at h; exact absurd h.2 (by decide))] at hdec
          have hsub := ((hN2 M2).sub (c := k) (lo := i + a) (n := q) hk)
          rw [show (B.drop (i + a)).take q = sg B (i + a) (i + a + q) by unfold sg; rw [Nat.add_sub_cancel_left]] at hsub
          obtain ⟨o5, k5, w5, hr5, F5⟩ := copy_bytes' (k2 := k - (i + a)) (ty := 22) (Mod.refl w2) hsub (by omega)
          rw [hil] at hr5 F5
          simp only [Int.toNat_natCast]
          refine ⟨_, _, _, W2.rd1 rfl, ⟨by omega, by omega⟩, ⟨by omega, by omega⟩, _, w5, by rw [show i + a + q - (i + a) = q by omega]; exact hr5, _, _, _, rfl, ret_3 (X2.mod' F5.mod) (fun w6 M6 => hR _ _ ⟨(M2.none_trans F5.mod).trans M6 (fun i hi h => by omega), ?_⟩)⟩
          rw [hdec]
          refine ⟨(W2.mod' F5.mod).mod M6 (by omega), _, _, _, by rw [Nat.add_assoc], ?_⟩
          simp only [ItC]
          have hN5 : ∀ b, OB o5 b → ¬ b = N := fun b hb h => by have := F5.new b hb; omega
          refine ⟨trivial, ⟨o5, k5, by rw [hil], (F5.own.mod M6 hN5).bytes, fun _ dd hdd h => ?_⟩, trivial⟩
          have := F5.new dd.block ⟨dd, hdd, rfl⟩
          have h' : dd.block < w.heap.size := h
          omega
      · have hc192 : c ≥ 192 := by
          rcases Nat.lt_or_ge c 192 with h | h
          · rw [if_neg (by omega)] at hbase; omega
          · exact h
        rw [if_neg (by rw [decide_eq_true hc192]; decide)] at hdec
        rintro dX w6 ⟨rfl, rfl⟩
        have Y6 := Blk.new w2 138 #[.bool false, .slice none 0 0, .slice none 0 0]
        have M26 : Vcg.Mod NoB w2 _ := Mod.alloc w2 (.cells #[.bool false, .slice none 0 0, .slice none 0 0] 138)
        have hs6 := size_alloc w2 (.cells #[.bool false, .slice none 0 0, .slice none 0 0] 138)
        generalize hY : w2.heap.size = Y at *
        generalize w2.alloc (.cells #[.bool false, .slice none 0 0, .slice none 0 0] 138) = w6 at *
        refine set3 Y6 rfl rfl rfl (fun w7 Y7 Q7 => ?_)
        have M27 : Vcg.Mod NoB w2 w7 := mod_of M26 Q7 (by omega)
        have X7 := X2.mod' M27
        have W7 := W2.mod' M27
        have M07 := M2.none_trans M27
        have hs7 := M27.size
        have hY7 := Y7.lt
        clear X2 W2 Y6 M26 Q7 cell hcells hr2
        let good : Int → World → Prop := fun v w' => ∃ (fr n' : Nat) (xs : List It) (f' : Nat) (ol : Option Addr) (kl : Nat), v = (fr : Int) ∧ i + a ≤ fr ∧ fr ≤ i + a + q ∧ Blk w' D 221 #[.slice (some ⟨b0, f0, none⟩) B.length k, .int .i64 (n' : Int), .int .i64 0] ∧ n' ≤ 4096 ∧
          Blk w' Y 138 #[.bool true, .slice none 0 0, .slice ol xs.length kl] ∧ (∃ a b c, Blk w' N 138 #[a, b, c]) ∧ ItOwn (fun b => b < w7.heap.size) w' xs ol xs.length kl ∧ (∀ b, OB ol b → w7.heap.size ≤ b) ∧ Vcg.Mod (· = D) w w' ∧ w7.heap.size ≤ w'.heap.size ∧
          dcds f (d + 1) (n + 1) (sg B (i + a) (i + a + q)) = pre xs (dcds f' (d + 1) n' (sg B fr (i + a + q))) ∧ 2 * (i + a + q - fr) + 2 ≤ f' ∧ f' ≤ f ∧ xs.length + (i + a + q - fr) ≤ q
        let over : World → Prop := fun w' => ∃ (x : Int) (n' : Nat), x ≠ 0 ∧ dcds f (d + 1) (n + 1) (sg B (i + a) (i + a + q)) = .error x ∧ Blk w' D 221 #[.slice (some ⟨b0, f0, none⟩) B.length k, .int .i64 (n' : Int), .int .i64 x] ∧ (∃ a b c, Blk w' N 138 #[a, b, c]) ∧ Vcg.Mod (· = D) w w'
        have hfq : 2 * q + 2 ≤ f := by omega
        refine ⟨fun w' => over w' ∨ good ((i + a + q : Nat) : Int) w', ⟨fun v w' => over w' ∨ good v w', fun v w' => match w'.cell? ⟨D, 2, none⟩ with | some (.int .i64 0) => (((i + a + q : Nat) : Int) - v).toNat + 1 | _ => 0, .inr ⟨i + a, n + 1, [], f, none, 0, rfl, Nat.le_refl _, by omega, W7, by omega, Y7, ⟨_, _, _, X7⟩, ItOwn.nil _ _, fun b hb => (OB_none b hb).elim, M07, Nat.le_refl _, (pre_nil _).symm, by omega, Nat.le_refl _, by simp⟩, ?_⟩, ?_⟩
        · rintro v _ w8 hst
          refine ⟨fun hlt => ?_, fun hge => ?_⟩
          · rcases hst with ⟨x, n', hx0, hde, W8, hX8, M08⟩ | ⟨fr, n', xs, f', ol, kl, rfl, hfr1, hfr2, W8, hn', Y8, ⟨xa, xb, xc, X8⟩, I8, hnew, M08, hs8, hde, hf', hff, hxl⟩
            · exact ⟨x, by rw [add_at]; exact W8.rd1 rfl, fun h => (hx0 h).elim, fun _ => .inl ⟨x, n', hx0, hde, W8, hX8, M08⟩⟩
            · refine ⟨0, by rw [add_at]; exact W8.rd1 rfl, fun _ => ?_, fun h => (h rfl).elim⟩
              obtain ⟨f2, rfl⟩ : ∃ f2, f' = f2 + 1 := ⟨f' - 1, by omega⟩
              have hrl : (sg B fr (i + a + q)).length = i + a + q - fr := sg_len (by omega)
              have hrne : sg B fr (i + a + q) ≠ [] := fun h => by rw [h] at hrl; simp at hrl; omega
              rw [dcds_go hrne] at hde
              have ed : IntKind.wrap .i64 ((d : Int) + 1) = ((d + 1 : Nat) : Int) := by rw [wrap_i64_small (by omega) (by omega)]; omega
              rw [ed]
              refine (item_calls f2 (d + 1) n' fr (i + a + q) B (by omega) (by omega) (by omega) hlen (hN2 M08) hk W8 hoff hn' (by omega)).mono ?_
              rintro e w9 ⟨M9, hdi⟩
              have hs9 := M9.size
              have hI9 := I8.lt
              have Y9 := Y8.mod M9 (by omega)
              have X9 := X8.mod M9 (by omega)
              have I9 := I8.modS M9 (fun b hb => by omega) (fun b hb h => by have := hnew b hb; omega)
              have M09 := M08.trans M9 (fun i hi h => h)
              have key : ∃ (y : It) (v1 v2 v3 : Value) (nx : Int) (m' : Nat) (x : Int), e = .returned (.tuple #[.agg #[v1, v2, v3], .int .i64 nx]) ∧ ItC (fun b => b < w8.heap.size) w9 y v1 v2 v3 ∧ Blk w9 D 221 #[.slice (some ⟨b0, f0, none⟩) B.length k, .int .i64 (m' : Int), .int .i64 x] ∧
                  ((x ≠ 0 ∧ dcds f (d + 1) (n + 1) (sg B (i + a) (i + a + q)) = .error x) ∨ (x = 0 ∧ m' ≤ 4096 ∧ ∃ q', 1 ≤ q' ∧ fr + q' ≤ i + a + q ∧ nx = ((fr + q' : Nat) : Int) ∧ dcds f (d + 1) (n + 1) (sg B (i + a) (i + a + q)) = pre (xs ++ [y]) (dcds f2 (d + 1) m' (sg B (fr + q') (i + a + q))))) := by
                cases hd1 : dcd f2 (d + 1) n' (sg B fr (i + a + q)) with
                | error x =>
                  rw [hd1] at hdi hde
                  obtain ⟨hx0, rfl, m', W9⟩ := hdi
                  exact ⟨.s [], _, _, _, _, m', x, rfl, its_nil_s _ _, W9, .inl ⟨hx0, hde⟩⟩
                | ok r =>
                  obtain ⟨y, q', m'⟩ := r
                  rw [hd1] at hdi hde
                  simp only at hde
                  obtain ⟨W9, v1, v2, v3, rfl, hy⟩ := hdi
                  obtain ⟨k1, k2, k3, k4, k5, k6⟩ := (dec_ok f2 (d + 1) n' (sg B fr (i + a + q))).1 _ _ _ hd1
                  refine ⟨y, v1, v2, v3, _, m', 0, rfl, hy, W9, .inr ⟨rfl, by omega, q', k1, by omega, rfl, ?_⟩⟩
                  rw [hde, sg_drop, ← pre_pre]
                  congr 1
              obtain ⟨y, v1, v2, v3, nx, m', x, rfl, hy, W9, hout⟩ := key
              have cW : w8.cell? ⟨D, 2, none⟩ = some (.int .i64 0) := W8.rd1 rfl
              clear hdi hde W8 Y8 X8 M08
              obtain ⟨bb, p1, q1, r1, p2, q2, r2, rfl, rfl, rfl⟩ := hy.vals
              refine ⟨_, _, _, _, _, _, _, _, rfl, ?_⟩
              rintro dA wA ⟨rfl, rfl⟩
              have HA := Blk.new w9 138 #[.bool false, .slice none 0 0, .slice none 0 0]
              have M9A : Vcg.Mod NoB w9 _ := Mod.alloc w9 (.cells #[.bool false, .slice none 0 0, .slice none 0 0] 138)
              have hsA := size_alloc w9 (.cells #[.bool false, .slice none 0 0, .slice none 0 0] 138)
              generalize hHA : w9.heap.size = HH at *
              generalize w9.alloc (.cells #[.bool false, .slice none 0 0, .slice none 0 0] 138) = wA at *
              refine set3 HA rfl rfl rfl (fun wB HB QB => ?_)
              have M9B : Vcg.Mod NoB w9 wB := mod_of M9A QB (by omega)
              have XB := X9.mod' M9B
              have YB := Y9.mod' M9B
              have WB := W9.mod' M9B
              have hyB := ItC.mod M9B _ hy
              have IB := I9.mod' M9B
              have MB := M09.none_trans M9B
              have hsB := M9B.size
              clear HA M9A QB X9 Y9 W9 I9 M09 hy
              refine ⟨_, _, _, by rw [add_at]; exact YB.rd1 rfl, get3 HB ?_⟩
              rintro dD wD ⟨rfl, rfl⟩
              have MD : Vcg.Mod NoB wB _ := Mod.alloc wB (.cells #[.bool bb, .slice p1 q1 r1, .slice p2 q2 r2] 138)
              have E := Blk.new wB 138 #[.bool bb, .slice p1 q1 r1, .slice p2 q2 r2]
              have XD := XB.mod' MD
              have YD := YB.mod' MD
              have WD := WB.mod' MD
              have hyD := ItC.mod MD _ hyB
              have ID := IB.mod' MD
              have M0D := MB.none_trans MD
              have hsD := MD.size
              clear XB YB WB HB hyB IB MB
              generalize wB.heap.size = HE at *
              generalize wB.alloc (.cells #[.bool bb, .slice p1 q1 r1, .slice p2 q2 r2] 138) = wD at *
              obtain ⟨o', k', wE, hrun, IE, QE, hOB⟩ := ID.push E (ItC.mono (fun b hb => by
                rcases hb with h | h
                · exact Nat.lt_of_lt_of_le h hs8
                · exact hI9 b h) _ hyD) (by omega)
              have nE : ∀ b, OB o' b → w7.heap.size ≤ b := fun b hb => by
                rcases hOB b hb with h | h
                · exact hnew b h
                · omega
              have XE := XD.mod QE (fun h => by have := hnew _ h; omega)
              have YE := YD.mod QE (fun h => by have := hnew _ h; omega)
              have WE := WD.mod QE (fun h => by have := hnew _ h; omega)
              have M0E := M0D.trans QE (fun i hi h => by have := hnew _ h; omega)
              have hsE := QE.size
              refine ⟨_, wE, hrun, _, _, _, rfl, ?_⟩
              rw [add_at]
              refine ⟨YE.canSet (by simp) rfl, ?_⟩
              rintro _ rfl
              have QF : Vcg.Mod (· = Y) wE _ := Mod.setCell wE ⟨Y, 0 + 2, none⟩ (.slice o' (xs.length + 1) k')
              have YF := YE.set 2 (.slice o' (xs.length + 1) k')
              have IF := IE.modS QF (fun b hb => by omega) (fun b hb h => by have := nE b hb; omega)
              have XF := XE.mod QF (by omega)
              have WF := WE.mod QF (by omega)
              have M0F := M0E.trans QF (fun i hi h => by omega)
              have hsF := QF.size
              have hl1 : xs.length + 1 = (xs ++ [y]).length := by rw [List.length_append, List.length_singleton]
              have cF : World.cell? _ ⟨D, 2, none⟩ = some (.int .i64 x) := WF.rd1 rfl
              rcases hout with ⟨hx0, hde⟩ | ⟨rfl, hm', q', hq1, hq2, rfl, hde⟩
              · refine ⟨.inl ⟨x, m', hx0, hde, WF, ⟨_, _, _, XF⟩, M0F⟩, ?_⟩
                dsimp only
                rw [cW, cF]
                simp only
                split
                · rename_i h
                  simp only [Option.some.injEq, Value.int.injEq, true_and] at h
                  exact (hx0 h).elim
                · omega
              · refine ⟨.inr ⟨fr + q', m', xs ++ [y], f2, o', k', rfl, by omega, hq2, WF, hm', by rw [← hl1]; exact YF, ⟨_, _, _, XF⟩, by rw [← hl1]; exact IF, nE, M0F, by omega, hde, by omega, by omega, by omega⟩, ?_⟩
                dsimp only
                rw [cW, cF]
                simp only
                omega
          · rcases hst with h | ⟨fr, n', xs, f', ol, kl, rfl, hfr1, hfr2, rest⟩
            · exact .inl h
            · obtain rfl : fr = i + a + q := by omega
              exact .inr ⟨i + a + q, n', xs, f', ol, kl, rfl, hfr1, hfr2, rest⟩
        · rintro _ w8 (⟨x, n', hx0, hde, W8, ⟨xa, xb, xc, X8⟩, M08⟩ | ⟨fr, n', xs, f', ol, kl, hfr, hfr1, hfr2, W8, hn', Y8, ⟨xa, xb, xc, X8⟩, I8, hnew, M08, hs8, hde, hf', hff, hxl⟩)
          · refine ⟨x, by rw [add_at]; exact W8.rd1 rfl, fun _ => ?_, fun h => (hx0 h).elim⟩
            rw [hde] at hdec
            refine ret_3 X8 (fun w9 M9 => hR _ _ ⟨M08.trans M9 (fun i hi h => by omega), ?_⟩)
            rw [hdec]
            exact ⟨hx0, rfl, n', W8.mod M9 (by omega)⟩
          · obtain rfl : fr = i + a + q := by omega
            refine ⟨0, by rw [add_at]; exact W8.rd1 rfl, fun h => (h rfl).elim, fun _ => ?_⟩
            obtain ⟨f2, rfl⟩ : ∃ f2, f' = f2 + 1 := ⟨f' - 1, by omega⟩
            rw [sg_nil, dcds_nil] at hde
            have hits := I8.its (fun b hb h => by
              have := hnew b h
              have hb' : b < w7.heap.size := hb
              omega)
            refine get3 Y8 (ret_3 X8 (fun w9 M9 => hR _ _ ⟨M08.trans M9 (fun i hi h => by omega), ?_⟩))
            rw [hdec, hde]
            simp only [pre, List.append_nil]
            refine ⟨W8.mod M9 (by omega), _, _, _, by rw [Nat.add_assoc], ?_⟩
            simp only [ItC]
            refine ⟨trivial, trivial, ol, kl, rfl, ItsC.mono (fun b hb => ?_) _ (ItsC.modA M9 (fun b hb => ?_) _ hits), I8.cap⟩
            · have hb' : b < w.heap.size := hb
              show b < w7.heap.size
              omega
            · show b < w7.heap.size
              omega
end Go.Proofs.Ytfghidehlnfdiaa
end
