/- Contracts: trie.branched, noded, decoded, Check. -/
/- The verification conditions of some functions, printed by a program of ours (wip/PrintVc.lean). -/
/- Contracts: the reference's is and ref (moraineref14). -/
/- Contracts: trie.decoded, Check, Children. -/
/- The hashes that a node's item refers to; rows of hashes. -/
/- Contracts: trie.Children. -/
/- Contracts: Children both, the helper's Hashes. -/
import Derived.Test.YtfghidehlnfdiaaDD8
import Derived.Test.YtfghidehlnfdiaaProg
import Derived.KernelRfl
section
set_option linter.unusedVariables false
set_option linter.unusedSimpArgs false
namespace Go.Proofs.Ytfghidehlnfdiaa
open Go Go.Vcg Go.Trie
theorem getD_at {xs : List It} {j : Nat} (h : j < xs.length) : xs.getD j (.s []) = xs[j] := by
  rw [List.getD_eq_getElem?_getD, List.getElem?_eq_getElem h]; rfl
theorem branched_calls {f : Nat} (hRf : ReferAt f) {xs : List It} {A : Nat → Prop} {w : World} {o : Option Addr} {c : Nat} (h17 : xs.length = 17) (hd : ∀ x ∈ xs, dep x ≤ f) (hf : ∀ x ∈ xs, Fine x) (hx : ItsC A w xs o 0) (hc : xs.length ≤ c) :
    Calls Try.prog trie_branched.n #[.slice o xs.length c] w (fun e w' => ∃ v, e = .returned (.tuple #[v, .bool (nodeN (f + 1) xs)]) ∧ Vcg.Mod NoB w w' ∧ v.oneCell' = true ∧ (nodeN (f + 1) xs = true → RV w.heap.size (f + 1) w' (.l xs) v)) := by
  refine calls_gen fun R hR => trie_branched.vc _ _ _ _ _ ?_
  unfold trie_branched.Vc
  have hnode := nodeN_many (f := f) h17
  rw [getD_at (by omega)] at hnode
  obtain ⟨g, f0, v1, v2, v3, rfl, hg, e1, e2, e3, hi⟩ := hx.get 16 (by omega)
  have at16 := hi
  refine ⟨_, rfl, ⟨by omega, by omega⟩, ?_⟩
  generalize hx16 : xs[16] = x16 at *
  cases x16 with
  | l ys =>
    simp only [ItC] at hi
    obtain ⟨rfl, _⟩ := hi
    refine ⟨true, by rw [add_at]; exact e1, fun _ => hR _ _ ⟨.nilIface, by rw [hnode], Mod.refl w, rfl, fun h => by rw [hnode] at h; cases h⟩, fun h => (by cases h)⟩
  | s v =>
    simp only [ItC] at hi
    obtain ⟨rfl, ⟨ov, cv, rfl, hv, _⟩, rfl⟩ := hi
    refine ⟨false, by rw [add_at]; exact e1, fun h => (by cases h), fun _ => ⟨_, rfl, ⟨by omega, by omega⟩, _, _, _, by rw [add_at, add_at]; exact e2, ?_⟩⟩
    simp only at hnode
    rintro d7 w1 ⟨rfl, rfl⟩
    have hZ : setsAt #[.nilIface, .nilIface, .nilIface, .nilIface, .nilIface, .nilIface, .nilIface, .nilIface, .nilIface, .nilIface, .nilIface, .nilIface, .nilIface, .nilIface, .nilIface, .nilIface, (.slice none 0 0)] 16 [(.slice ov v.length cv)] = brA (fun _ => .nilIface) ov v.length cv := rfl
    rw [hZ]
    have M1 : Vcg.Mod NoB w _ := Mod.alloc w (.cells (brA (fun _ => .nilIface) ov v.length cv) 158)
    have B1 := Blk.new w 158 (brA (fun _ => .nilIface) ov v.length cv)
    have hs1 := size_alloc w (.cells (brA (fun _ => .nilIface) ov v.length cv) 158)
    generalize hN : w.heap.size = N at *
    generalize w.alloc (.cells (brA (fun _ => .nilIface) ov v.length cv) 158) = w1 at *
    generalize hbase : (if v = [] then 0 else 1) = base at *
    refine ⟨fun n w' => w' = w1 ∧ n = (base : Int), ⟨_, _, _, by rw [add_at, Nat.zero_add]; exact B1.rd1 (brA_val _ _ _ _), fun h => ⟨rfl, ?_⟩, fun h => ⟨rfl, ?_⟩⟩, ?_⟩
    · rw [← hbase, if_neg (by rintro rfl; simp at h)]; rfl
    · rw [← hbase, if_pos (List.eq_nil_of_length_eq_zero (by omega))]; rfl
    rintro _ _ w1 ⟨rfl, rfl⟩
    have hb1 : base ≤ 1 := by rw [← hbase]; split <;> omega
    refine ⟨by omega, fun n i w' => ∃ (j : Nat) (vs : Fin 16 → Value), i = (j : Int) ∧ j ≤ 16 ∧ n = ((base + ((xs.take j).filter (fun x => !isE x)).length : Nat) : Int) ∧ (xs.take j).all (fun x => isE x || refN f x) = true ∧ Vcg.Mod NoB w w' ∧ w1.heap.size ≤ w'.heap.size ∧ Blk w' N 158 (brA vs ov v.length cv) ∧ (∀ q : Fin 16, q.val < j → RV w1.heap.size f w' (xs.getD q.val (.s [])) (vs q)) ∧ (∀ q : Fin 16, j ≤ q.val → vs q = .nilIface), fun _ i _ => ((16 : Int) - i).toNat, ⟨0, fun _ => .nilIface, rfl, Nat.zero_le _, by simp, by simp, M1, Nat.le_refl _, B1, fun q h => absurd h (by omega), fun _ _ => rfl⟩, ?_⟩
    rintro _ _ _ w2 ⟨j, vs, rfl, hj, rfl, hall, M2, hs2, B2, hdone, hrest⟩
    have ew : IntKind.wrap .i64 ((j : Int) + 1) = ((j + 1 : Nat) : Int) := by rw [wrap_i64_small (by omega) (by omega)]; omega
    have hcl : ((xs.take j).filter (fun x => !isE x)).length ≤ 16 := Nat.le_trans (List.length_filter_le _ _) (by rw [List.length_take]; omega)
    refine ⟨fun hlt => ?_, fun hge => ?_⟩
    · have hjl : j < xs.length := by omega
      have hj16 : j < 16 := by omega
      obtain ⟨g', f', u1, u2, u3, ho, hg', d1, d2, d3, hij⟩ := (ItsC.mod M2 _ hx).get j hjl
      cases ho
      rw [Nat.zero_add] at d1 d2 d3
      obtain ⟨b, p1, q1, r1, p2, q2, r2, rfl, rfl, rfl⟩ := hij.vals
      refine ⟨_, rfl, ⟨by omega, by omega⟩, _, _, _, _, _, _, _, by rw [add_at, Int.toNat_natCast]; exact d1, by rw [add_at, add_at, Int.toNat_natCast]; exact d2, by rw [add_at, add_at, Int.toNat_natCast]; exact d3, ?_⟩
      rintro d27 w3 ⟨rfl, rfl⟩
      have H := Blk.new w2 138 #[.bool false, .slice none 0 0, .slice none 0 0]
      have M23 : Vcg.Mod NoB w2 _ := Mod.alloc w2 (.cells #[.bool false, .slice none 0 0, .slice none 0 0] 138)
      refine set3 H rfl rfl rfl (fun w4 H4 Q4 => ?_)
      have M24 : Vcg.Mod NoB w2 w4 := mod_of M23 Q4 (Nat.le_refl _)
      have M4 := M2.none_trans M24
      have B4 := B2.mod' M24
      have hij4 := ItC.mod M24 _ hij
      have hs4 := M24.size
      have hdone4 : ∀ q : Fin 16, q.val < j → RV w1.heap.size f w4 (xs.getD q.val (.s [])) (vs q) := fun q hq => RV.mod' M24 (Nat.le_refl _) (hdone q hq)
      generalize w2.heap.size = HH at *
      clear M23 Q4 H M24 B2 hij hdone
      have htk : xs.take (j + 1) = xs.take j ++ [xs[j]] := List.take_succ_eq_append_getElem hjl
      refine ⟨fun w' => w' = w4 ∧ isE xs[j] = false, ⟨_, H4.rd1 rfl, fun hb => ⟨_, _, _, by rw [add_at]; exact H4.rd1 rfl, fun hz => ?_, fun hz => ⟨rfl, ?_⟩⟩, fun hb => ⟨rfl, ?_⟩⟩, ?_⟩
      · -- nothing there
        have he : xs[j] = .s [] := by
          cases hq : xs[j] with
          | l ys => rw [hq] at hij4; simp only [ItC] at hij4; cases hij4.1; cases hb
          | s bs =>
            rw [hq] at hij4
            simp only [ItC] at hij4
            obtain ⟨_, ⟨oo, cc, h2, _⟩, _⟩ := hij4
            cases h2
            rw [List.eq_nil_of_length_eq_zero (by omega : bs.length = 0)]
        rw [ew]
        refine ⟨⟨j + 1, vs, rfl, hj16, ?_, ?_, M4, by omega, B4, fun q hq => ?_, fun q hq => hrest q (by omega)⟩, by dsimp only; omega⟩
        · rw [htk, List.filter_append, he]; simp [isE]
        · rw [htk, List.all_append, hall, he]; simp [isE]
        · by_cases hqj : q.val < j
          · exact hdone4 q hqj
          · have hqe : q.val = j := by omega
            rw [hqe, getD_at hjl, he, hrest q (by omega)]
            simp only [RV]
            exact .inl ⟨trivial, trivial⟩
      · cases hq : xs[j] with
        | l ys => rfl
        | s bs =>
          rw [hq] at hij4
          simp only [ItC] at hij4
          obtain ⟨_, ⟨oo, cc, h2, _⟩, _⟩ := hij4
          cases h2
          cases bs with
          | nil => simp at hz
          | cons a r => rfl
      · cases hq : xs[j] with
        | l ys => rfl
        | s bs =>
          rw [hq] at hij4
          simp only [ItC] at hij4
          cases hij4.1; cases hb
      · rintro _ w4 ⟨rfl, hne⟩
        refine get3 H4 ?_
        refine (hRf xs[j] (hd _ (List.getElem_mem hjl)) (hf _ (List.getElem_mem hjl)) hij4).mono ?_
        rintro _ w5 ⟨u, rfl, M5, hu, hru⟩
        have M05 := M4.none_trans M5
        have B5 := B4.mod' M5
        have hs5 := M5.size
        refine ⟨_, _, rfl, fun hb => ?_, fun hb => ⟨⟨by omega, by omega⟩, ?_⟩⟩
        · have hfalse : nodeN (f + 1) xs = false := by
            rw [hnode]
            have : (xs.take 16).all (fun x => isE x || refN f x) = false := by
              rw [List.all_eq_false]
              refine ⟨xs[j], ?_, by rw [hne, hb]; decide⟩
              rw [List.mem_take_iff_getElem]
              exact ⟨j, by omega, rfl⟩
            rw [this, Bool.false_and]
          exact hR _ _ ⟨.nilIface, by rw [hfalse], M05, rfl, fun h => by rw [hfalse] at h; cases h⟩
        · rw [add_at, Nat.zero_add, Int.toNat_natCast]
          refine ⟨B5.canSet (by rw [brA_size]; omega) hu, ?_⟩
          rintro _ rfl
          have Q6 : Vcg.Mod (· = N) w5 _ := Mod.setCell w5 ⟨N, j, none⟩ u
          have B6 := B5.set j u
          rw [brA_set _ _ _ _ _ hj16] at B6
          have M06 : Vcg.Mod NoB w _ := mod_of M05 Q6 (by omega)
          have en : IntKind.wrap .i64 (((base + ((xs.take j).filter (fun x => !isE x)).length : Nat) : Int) + 1) = ((base + ((xs.take (j + 1)).filter (fun x => !isE x)).length : Nat) : Int) := by
            rw [wrap_i64_small (by omega) (by omega), htk, List.filter_append, List.length_append]
            simp only [List.filter_cons, hne, Bool.not_false, if_true, List.filter_nil, List.length_singleton]
            omega
          rw [ew, en]
          refine ⟨⟨j + 1, updV vs j u, rfl, hj16, rfl, ?_, M06, by rw [size_setCell]; omega, B6, fun q hq => ?_, fun q hq => ?_⟩, by dsimp only; omega⟩
          · rw [htk, List.all_append, hall]
            simp only [List.all_cons, List.all_nil, hb, Bool.or_true, Bool.and_self, Bool.and_true]
          · unfold updV
            by_cases hqj : q.val = j
            · rw [if_pos hqj, hqj, getD_at hjl]
              exact RV.modS Q6 (fun b h => by omega) (by omega) (hru hb)
            · rw [if_neg hqj]
              exact RV.modS Q6 (fun b h => by omega) (Nat.le_refl _) (RV.mod' M5 (Nat.le_refl _) (hdone4 q (by omega)))
          · unfold updV
            rw [if_neg (by omega)]
            exact hrest q (by omega)
    · obtain rfl : j = 16 := by omega
      have hdec : decide (((base + ((xs.take 16).filter (fun x => !isE x)).length : Nat) : Int) > 1) = nodeN (f + 1) xs := by
        rw [hnode, hall, Bool.true_and, Bool.eq_iff_iff, decide_eq_true_eq, decide_eq_true_eq]
        omega
      rw [hdec]
      refine hR _ _ ⟨.iface 155 (.pointer (some ⟨N, 0, none⟩)), rfl, M2, rfl, fun _ => ?_⟩
      simp only [RV]
      exact .inr (.inr ⟨h17, N, vs, ov, v.length, cv, by omega, rfl, B2, fun q => RV.mod' (Mod.refl _) (by omega) (hdone q q.isLt)⟩)
theorem noded_all : ∀ f, NodedAt f
  | 0, x, _, _, _, _, _, hd, _, _ => absurd (dep_pos x) (by omega)
  | f + 1, x, A, w, v1, v2, v3, hd, hf, hx => by
    have hRf := refer_of (noded_all f)
    obtain ⟨b, o1, l1, c1, o2, l2, c2, rfl, rfl, rfl⟩ := hx.vals
    refine calls_gen fun R hR => trie_noded.vc _ _ _ _ _ _ _ _ _ ?_
    unfold trie_noded.Vc
    rintro d3 w1 ⟨rfl, rfl⟩
    have M1 : Vcg.Mod NoB w _ := Mod.alloc w (.cells #[.bool b, .slice o1 l1 c1, .slice o2 l2 c2] 138)
    have X1 := Blk.new w 138 #[.bool b, .slice o1 l1 c1, .slice o2 l2 c2]
    generalize w.alloc (.cells #[.bool b, .slice o1 l1 c1, .slice o2 l2 c2] 138) = w1 at *
    have hx1 := ItC.mod M1 _ hx
    cases x with
    | s bs =>
      simp only [ItC] at hx1
      obtain ⟨h1, _, _⟩ := hx1
      cases h1
      exact ⟨_, X1.rd1 rfl, fun _ => hR _ _ ⟨.nilIface, rfl, M1, rfl, fun h => by cases h⟩, fun h => (by cases h)⟩
    | l xs =>
      simp only [ItC] at hx1
      obtain ⟨h1, h2, o, c, h3, h4, hc⟩ := hx1
      cases h1; cases h2; cases h3
      have hds : ∀ x ∈ xs, dep x ≤ f := fun x hx => by
        have := dep_mem hx
        simp only [dep] at hd
        omega
      refine ⟨_, X1.rd1 rfl, fun h => (by cases h), fun _ => ⟨_, _, _, by rw [add_at]; exact X1.rd1 rfl, fun h2 => ?_, fun h2 => ⟨_, _, _, by rw [add_at]; exact X1.rd1 rfl, fun h17 => ⟨_, _, _, by rw [add_at]; exact X1.rd1 rfl, ?_⟩, fun h17 => ?_⟩⟩⟩
      · obtain ⟨x, y, rfl⟩ : ∃ x y, xs = [x, y] := by
          cases xs with
          | nil => simp at h2
          | cons x r =>
            cases r with
            | nil => simp at h2
            | cons y r =>
              cases r with
              | nil => exact ⟨x, y, rfl⟩
              | cons z r => simp at h2; omega
        rintro _ rfl
        have M2 : Vcg.Mod NoB w1 w1.drew := Mod.drew w1
        have X2 := X1.mod' M2
        have h4' := ItsC.mod M2 _ h4
        have M02 := M1.none_trans M2
        generalize w1.drew = w2 at *
        obtain ⟨g, f0, u1, u2, u3, rfl, hg, e1, e2, e3, hi⟩ := h4'.get 0 (by simp)
        obtain ⟨g', f0', t1, t2, t3, ho, hg', d1, d2, d3, hi'⟩ := h4'.get 1 (by simp)
        cases ho
        have hix : ItC A w2 x u1 u2 u3 := hi
        have hiy : ItC A w2 y t1 t2 t3 := hi'
        obtain ⟨_, _, _, _, _, _, _, rfl, rfl, rfl⟩ := hix.vals
        obtain ⟨_, _, _, _, _, _, _, rfl, rfl, rfl⟩ := hiy.vals
        refine ⟨_, _, _, by rw [add_at]; exact X2.rd1 rfl, _, rfl, ⟨by decide, by simp⟩, _, _, _, _, _, _, _, by rw [add_at]; exact e1, by rw [add_at, add_at]; exact e2, by rw [add_at, add_at]; exact e3, _, _, _, by rw [add_at]; exact X2.rd1 rfl, _, rfl, ⟨by decide, by simp⟩, _, _, _, _, _, _, _, by rw [add_at]; exact d1, by rw [add_at, add_at]; exact d2, by rw [add_at, add_at]; exact d3, ?_⟩
        refine (short_calls hRf (hds y (by simp)) (hf.mem (by simp)) (hf.mem (by simp)) hix hiy).mono ?_
        rintro _ w3 ⟨v, rfl, M3, hv, hrv⟩
        exact ⟨_, _, rfl, hR _ _ ⟨v, rfl, M02.none_trans M3, hv, fun h => RV.mod' (Mod.refl _) M02.size (hrv h)⟩⟩
      · have h17' : xs.length = 17 := by omega
        refine (branched_calls hRf h17' hds (fun x hx => hf.mem hx) h4 hc).mono ?_
        rintro _ w3 ⟨v, rfl, M3, hv, hrv⟩
        exact ⟨_, _, rfl, hR _ _ ⟨v, rfl, M1.none_trans M3, hv, fun h => RV.mod' (Mod.refl _) M1.size (hrv h)⟩⟩
      · have hno : isN (f + 1) (.l xs) = false := nodeN_no (by omega) (by omega)
        exact hR _ _ ⟨.nilIface, by rw [hno], M1, rfl, fun h => by rw [hno] at h; cases h⟩
end Go.Proofs.Ytfghidehlnfdiaa
end

section
set_option linter.unusedVariables false
namespace Go.Proofs.Ytfghidehlnfdiaa
open Go Go.Vcg
abbrev moraineref14_is.n : Nat := 91
def moraineref14_is.Vc (b0 : Bool) (o1 : Option Addr) (l1 : Nat) (c1 : Nat) (o2 : Option Addr) (l2 : Nat) (c2 : Nat) (w : World) (R : Ending → World → Prop) : Prop :=
  ∀ (d3 : Addr) (w4 : World), IsNew w 138 #[(.bool b0), (.slice o1 l1 c1), (.slice o2 l2 c2)] d3 w4 →
  ∃ b5 : Bool, World.cell? w4 d3 = some (.bool b5) ∧
  (((b5 = false →
    R (.returned (.bool false)) w4)) ∧
   ((b5 = true →
    ∃ o6 : Option Addr, ∃ l7 : Nat, ∃ l8 : Nat, World.cell? w4 (Addr.add d3 2) = some (.slice o6 l7 l8) ∧
    (((((l7 : Nat) : Int) = 2 →
      ∃ o9 : Option Addr, ∃ l10 : Nat, ∃ l11 : Nat, World.cell? w4 (Addr.add d3 2) = some (.slice o9 l10 l11) ∧
      ∃ d12 : Addr, o9 = some d12 ∧
      ((0 : Int) ≤ 0 ∧ 0 < ((l10 : Nat) : Int)) ∧
      ∃ b13 : Bool, World.cell? w4 (Addr.add d12 0) = some (.bool b13) ∧
      (((b13 = true →
        R (.returned (.bool false)) w4)) ∧
       ((b13 = false →
        ∃ o14 : Option Addr, ∃ l15 : Nat, ∃ l16 : Nat, World.cell? w4 (Addr.add d3 2) = some (.slice o14 l15 l16) ∧
        ∃ d17 : Addr, o14 = some d17 ∧
        ((0 : Int) ≤ 0 ∧ 0 < ((l15 : Nat) : Int)) ∧
        ∃ o18 : Option Addr, ∃ l19 : Nat, ∃ l20 : Nat, World.cell? w4 (Addr.add (Addr.add d17 0) 1) = some (.slice o18 l19 l20) ∧
        Calls Try.prog 43 #[(.slice o18 l19 l20)] w4 (fun e21 w22 =>
          ∃ o23 : Option Addr, ∃ l24 : Nat, ∃ l25 : Nat, ∃ b26 : Bool, ∃ n27 : Int, e21 = .returned (.tuple #[(.slice o23 l24 l25), (.bool b26), (.int .i64 n27)]) ∧
          (((n27 ≠ 0 →
            R (.returned (.bool false)) w22)) ∧
           ((n27 = 0 →
            (((b26 = true →
              ∃ o28 : Option Addr, ∃ l29 : Nat, ∃ l30 : Nat, World.cell? w22 (Addr.add d3 2) = some (.slice o28 l29 l30) ∧
              ∃ d31 : Addr, o28 = some d31 ∧
              ((0 : Int) ≤ 1 ∧ 1 < ((l29 : Nat) : Int)) ∧
              ∃ b32 : Bool, World.cell? w22 (Addr.add d31 3) = some (.bool b32) ∧
              (((b32 = false →
                ∃ o33 : Option Addr, ∃ l34 : Nat, ∃ l35 : Nat, World.cell? w22 (Addr.add d3 2) = some (.slice o33 l34 l35) ∧
                ∃ d36 : Addr, o33 = some d36 ∧
                ((0 : Int) ≤ 1 ∧ 1 < ((l34 : Nat) : Int)) ∧
                ∃ o37 : Option Addr, ∃ l38 : Nat, ∃ l39 : Nat, World.cell? w22 (Addr.add (Addr.add d36 3) 1) = some (.slice o37 l38 l39) ∧
                R (.returned (.bool (decide (((l38 : Nat) : Int) > 0)))) w22)) ∧
               ((b32 = true →
                R (.returned (.bool false)) w22))))) ∧
             ((b26 = false →
              ∃ o40 : Option Addr, ∃ l41 : Nat, ∃ l42 : Nat, World.cell? w22 (Addr.add d3 2) = some (.slice o40 l41 l42) ∧
              ∃ d43 : Addr, o40 = some d43 ∧
              ((0 : Int) ≤ 1 ∧ 1 < ((l41 : Nat) : Int)) ∧
              ∃ b44 : Bool, ∃ o45 : Option Addr, ∃ l46 : Nat, ∃ l47 : Nat, ∃ o48 : Option Addr, ∃ l49 : Nat, ∃ l50 : Nat, World.cell? w22 (Addr.add d43 3) = some (.bool b44) ∧
              World.cell? w22 (Addr.add (Addr.add d43 3) 1) = some (.slice o45 l46 l47) ∧
              World.cell? w22 (Addr.add (Addr.add d43 3) 2) = some (.slice o48 l49 l50) ∧
              Calls Try.prog 118 #[(.agg #[(.bool b44), (.slice o45 l46 l47), (.slice o48 l49 l50)])] w22 (fun e51 w52 =>
                ∃ b53 : Bool, ∃ b54 : Bool, e51 = .returned (.tuple #[(.bool b53), (.bool b54)]) ∧
                (((((l24 : Nat) : Int) > 0 →
                  (((b53 = true →
                    R (.returned (.bool b54)) w52)) ∧
                   ((b53 = false →
                    R (.returned (.bool false)) w52))))) ∧
                 ((¬ ((l24 : Nat) : Int) > 0 →
                  R (.returned (.bool false)) w52)))))))))))))))) ∧
     ((((l7 : Nat) : Int) ≠ 2 →
      (((((l7 : Nat) : Int) = 17 →
        ∃ (I55 : Int → Int → World → Prop) (μ55 : Int → Int → World → Nat), I55 0 0 w4 ∧
        (∀ (n56 : Int) (n57 : Int) (j58 : Nat → Value) (w58 : World), I55 n56 n57 w58 →
          (((n57 < 16 →
            ∃ o59 : Option Addr, ∃ l60 : Nat, ∃ l61 : Nat, World.cell? w58 (Addr.add d3 2) = some (.slice o59 l60 l61) ∧
            ∃ d62 : Addr, o59 = some d62 ∧
            ((0 : Int) ≤ n57 ∧ n57 < ((l60 : Nat) : Int)) ∧
            ∃ b63 : Bool, ∃ o64 : Option Addr, ∃ l65 : Nat, ∃ l66 : Nat, ∃ o67 : Option Addr, ∃ l68 : Nat, ∃ l69 : Nat, World.cell? w58 (Addr.add d62 ((Int.toNat n57) * 3)) = some (.bool b63) ∧
            World.cell? w58 (Addr.add (Addr.add d62 ((Int.toNat n57) * 3)) 1) = some (.slice o64 l65 l66) ∧
            World.cell? w58 (Addr.add (Addr.add d62 ((Int.toNat n57) * 3)) 2) = some (.slice o67 l68 l69) ∧
            Calls Try.prog 118 #[(.agg #[(.bool b63), (.slice o64 l65 l66), (.slice o67 l68 l69)])] w58 (fun e70 w71 =>
              ∃ b72 : Bool, ∃ b73 : Bool, e70 = .returned (.tuple #[(.bool b72), (.bool b73)]) ∧
              (((b72 = false →
                R (.returned (.bool false)) w71)) ∧
               ((b72 = true →
                (((b73 = true →
                  I55 (IntKind.wrap .i64 (n56 + 1)) (IntKind.wrap .i64 (n57 + 1)) w71 ∧ μ55 (IntKind.wrap .i64 (n56 + 1)) (IntKind.wrap .i64 (n57 + 1)) w71 < μ55 n56 n57 w58)) ∧
                 ((b73 = false →
                  I55 n56 (IntKind.wrap .i64 (n57 + 1)) w71 ∧ μ55 n56 (IntKind.wrap .i64 (n57 + 1)) w71 < μ55 n56 n57 w58))))))))) ∧
           ((¬ n57 < 16 →
            ∃ o74 : Option Addr, ∃ l75 : Nat, ∃ l76 : Nat, World.cell? w58 (Addr.add d3 2) = some (.slice o74 l75 l76) ∧
            ∃ d77 : Addr, o74 = some d77 ∧
            ((0 : Int) ≤ 16 ∧ 16 < ((l75 : Nat) : Int)) ∧
            ∃ b78 : Bool, World.cell? w58 (Addr.add d77 48) = some (.bool b78) ∧
            (((b78 = true →
              R (.returned (.bool false)) w58)) ∧
             ((b78 = false →
              ∃ o79 : Option Addr, ∃ l80 : Nat, ∃ l81 : Nat, World.cell? w58 (Addr.add d3 2) = some (.slice o79 l80 l81) ∧
              ∃ d82 : Addr, o79 = some d82 ∧
              ((0 : Int) ≤ 16 ∧ 16 < ((l80 : Nat) : Int)) ∧
              ∃ o83 : Option Addr, ∃ l84 : Nat, ∃ l85 : Nat, World.cell? w58 (Addr.add (Addr.add d82 48) 1) = some (.slice o83 l84 l85) ∧
              (((((l84 : Nat) : Int) > 0 →
                R (.returned (.bool (decide ((IntKind.wrap .i64 (n56 + 1)) ≥ 2)))) w58)) ∧
               ((¬ ((l84 : Nat) : Int) > 0 →
                R (.returned (.bool (decide (n56 ≥ 2)))) w58)))))))))))) ∧
       ((((l7 : Nat) : Int) ≠ 17 →
        R (.returned (.bool false)) w4)))))))))
theorem moraineref14_is.vc (b0 : Bool) (o1 : Option Addr) (l1 : Nat) (c1 : Nat) (o2 : Option Addr) (l2 : Nat) (c2 : Nat) (w : World) (R : Ending → World → Prop) (h : moraineref14_is.Vc b0 o1 l1 c1 o2 l2 c2 w R) : Calls Try.prog 91 #[(.agg #[(.bool b0), (.slice o1 l1 c1), (.slice o2 l2 c2)])] w R :=
  execF_sound (R := ⟨R, false⟩) (ann := [(17, [(8, .cell (.int .i64)), (9, .cell (.int .i64))])]) (args := [.agg [.bool (.var b0), .slice o1 l1 c1, .slice o2 l2 c2]]) Try.func91 mixed (Eq.mp (by kernel_rfl : moraineref14_is.Vc b0 o1 l1 c1 o2 l2 c2 w R = execF (pA Try.prog ⟨R, false⟩) Try.prog [(17, [(8, .cell (.int .i64)), (9, .cell (.int .i64))])] Try.f91 [.agg [.bool (.var b0), .slice o1 l1 c1, .slice o2 l2 c2]] w) h)

abbrev moraineref14_ref.n : Nat := 118
def moraineref14_ref.Vc (b0 : Bool) (o1 : Option Addr) (l1 : Nat) (c1 : Nat) (o2 : Option Addr) (l2 : Nat) (c2 : Nat) (w : World) (R : Ending → World → Prop) : Prop :=
  ∀ (d3 : Addr) (w4 : World), IsNew w 138 #[(.bool b0), (.slice o1 l1 c1), (.slice o2 l2 c2)] d3 w4 →
  ∃ b5 : Bool, World.cell? w4 d3 = some (.bool b5) ∧
  (((b5 = false →
    ∀ w6 : World, IsDrew w4 w6 →
    ∃ o7 : Option Addr, ∃ l8 : Nat, ∃ l9 : Nat, World.cell? w6 (Addr.add d3 1) = some (.slice o7 l8 l9) ∧
    (((((l8 : Nat) : Int) = 32 →
      ∃ o10 : Option Addr, ∃ l11 : Nat, ∃ l12 : Nat, World.cell? w6 (Addr.add d3 1) = some (.slice o10 l11 l12) ∧
      R (.returned (.tuple #[(.bool true), (.bool (decide (((l11 : Nat) : Int) > 0)))])) w6)) ∧
     ((((l8 : Nat) : Int) ≠ 32 →
      ∃ o13 : Option Addr, ∃ l14 : Nat, ∃ l15 : Nat, World.cell? w6 (Addr.add d3 1) = some (.slice o13 l14 l15) ∧
      ∃ o16 : Option Addr, ∃ l17 : Nat, ∃ l18 : Nat, World.cell? w6 (Addr.add d3 1) = some (.slice o16 l17 l18) ∧
      R (.returned (.tuple #[(.bool (decide (((l14 : Nat) : Int) = 0))), (.bool (decide (((l17 : Nat) : Int) > 0)))])) w6))))) ∧
   ((b5 = true →
    ∃ b19 : Bool, ∃ o20 : Option Addr, ∃ l21 : Nat, ∃ l22 : Nat, ∃ o23 : Option Addr, ∃ l24 : Nat, ∃ l25 : Nat, World.cell? w4 d3 = some (.bool b19) ∧
    World.cell? w4 (Addr.add d3 1) = some (.slice o20 l21 l22) ∧
    World.cell? w4 (Addr.add d3 2) = some (.slice o23 l24 l25) ∧
    Calls Try.prog 134 #[(.agg #[(.bool b19), (.slice o20 l21 l22), (.slice o23 l24 l25)])] w4 (fun e26 w27 =>
      ∃ o28 : Option Addr, ∃ l29 : Nat, ∃ l30 : Nat, e26 = .returned (.slice o28 l29 l30) ∧
      (((((l29 : Nat) : Int) < 32 →
        ∃ b31 : Bool, ∃ o32 : Option Addr, ∃ l33 : Nat, ∃ l34 : Nat, ∃ o35 : Option Addr, ∃ l36 : Nat, ∃ l37 : Nat, World.cell? w27 d3 = some (.bool b31) ∧
        World.cell? w27 (Addr.add d3 1) = some (.slice o32 l33 l34) ∧
        World.cell? w27 (Addr.add d3 2) = some (.slice o35 l36 l37) ∧
        Calls Try.prog 91 #[(.agg #[(.bool b31), (.slice o32 l33 l34), (.slice o35 l36 l37)])] w27 (fun e38 w39 =>
          ∃ b40 : Bool, e38 = .returned (.bool b40) ∧
          R (.returned (.tuple #[(.bool b40), (.bool true)])) w39))) ∧
       ((¬ ((l29 : Nat) : Int) < 32 →
        R (.returned (.tuple #[(.bool false), (.bool true)])) w27)))))))
theorem moraineref14_ref.vc (b0 : Bool) (o1 : Option Addr) (l1 : Nat) (c1 : Nat) (o2 : Option Addr) (l2 : Nat) (c2 : Nat) (w : World) (R : Ending → World → Prop) (h : moraineref14_ref.Vc b0 o1 l1 c1 o2 l2 c2 w R) : Calls Try.prog 118 #[(.agg #[(.bool b0), (.slice o1 l1 c1), (.slice o2 l2 c2)])] w R :=
  execF_sound (R := ⟨R, false⟩) (ann := []) (args := [.agg [.bool (.var b0), .slice o1 l1 c1, .slice o2 l2 c2]]) Try.func118 mixed (Eq.mp (by kernel_rfl : moraineref14_ref.Vc b0 o1 l1 c1 o2 l2 c2 w R = execF (pA Try.prog ⟨R, false⟩) Try.prog [] Try.f118 [.agg [.bool (.var b0), .slice o1 l1 c1, .slice o2 l2 c2]] w) h)

abbrev moraineref14_Check.n : Nat := 49
def moraineref14_Check.Vc (o0 : Option Addr) (l0 : Nat) (c0 : Nat) (w : World) (R : Ending → World → Prop) : Prop :=
  Calls Try.prog 84 #[(.slice o0 l0 c0)] w (fun e1 w2 =>
    ∃ b3 : Bool, ∃ o4 : Option Addr, ∃ l5 : Nat, ∃ l6 : Nat, ∃ o7 : Option Addr, ∃ l8 : Nat, ∃ l9 : Nat, ∃ n10 : Int, e1 = .returned (.tuple #[(.agg #[(.bool b3), (.slice o4 l5 l6), (.slice o7 l8 l9)]), (.int .i64 n10)]) ∧
    ∀ (d11 : Addr) (w12 : World), IsNew w2 138 #[(.bool false), (.slice none 0 0), (.slice none 0 0)] d11 w12 →
    CanSet w12 d11 (.bool b3) ∧ ∀ w13 : World, IsSet w12 d11 (.bool b3) w13 →
    CanSet w13 (Addr.add d11 1) (.slice o4 l5 l6) ∧ ∀ w14 : World, IsSet w13 (Addr.add d11 1) (.slice o4 l5 l6) w14 →
    CanSet w14 (Addr.add d11 2) (.slice o7 l8 l9) ∧ ∀ w15 : World, IsSet w14 (Addr.add d11 2) (.slice o7 l8 l9) w15 →
    (((n10 ≠ 0 →
      R (.returned (.int .i64 n10)) w15)) ∧
     ((n10 = 0 →
      ∃ b16 : Bool, ∃ o17 : Option Addr, ∃ l18 : Nat, ∃ l19 : Nat, ∃ o20 : Option Addr, ∃ l21 : Nat, ∃ l22 : Nat, World.cell? w15 d11 = some (.bool b16) ∧
      World.cell? w15 (Addr.add d11 1) = some (.slice o17 l18 l19) ∧
      World.cell? w15 (Addr.add d11 2) = some (.slice o20 l21 l22) ∧
      Calls Try.prog 91 #[(.agg #[(.bool b16), (.slice o17 l18 l19), (.slice o20 l21 l22)])] w15 (fun e23 w24 =>
        ∃ b25 : Bool, e23 = .returned (.bool b25) ∧
        (((b25 = false →
          R (.returned (.int .i64 143)) w24)) ∧
         ((b25 = true →
          R (.returned (.int .i64 0)) w24))))))))
theorem moraineref14_Check.vc (o0 : Option Addr) (l0 : Nat) (c0 : Nat) (w : World) (R : Ending → World → Prop) (h : moraineref14_Check.Vc o0 l0 c0 w R) : Calls Try.prog 49 #[(.slice o0 l0 c0)] w R :=
  execF_sound (R := ⟨R, false⟩) (ann := []) (args := [.slice o0 l0 c0]) Try.func49 mixed (Eq.mp (by kernel_rfl : moraineref14_Check.Vc o0 l0 c0 w R = execF (pA Try.prog ⟨R, false⟩) Try.prog [] Try.f49 [.slice o0 l0 c0] w) h)

abbrev moraineref14_children.n : Nat := 90
def moraineref14_children.Vc (o0 : Option Addr) (l0 : Nat) (c0 : Nat) (b1 : Bool) (o2 : Option Addr) (l2 : Nat) (c2 : Nat) (o3 : Option Addr) (l3 : Nat) (c3 : Nat) (w : World) (R : Ending → World → Prop) : Prop :=
  ∀ (d4 : Addr) (w5 : World), IsNew w 138 #[(.bool b1), (.slice o2 l2 c2), (.slice o3 l3 c3)] d4 w5 →
  ∃ b6 : Bool, World.cell? w5 d4 = some (.bool b6) ∧
  (((b6 = false →
    ∃ o7 : Option Addr, ∃ l8 : Nat, ∃ l9 : Nat, World.cell? w5 (Addr.add d4 1) = some (.slice o7 l8 l9) ∧
    (((((l8 : Nat) : Int) = 32 →
      ∀ (d10 : Addr) (w11 : World), IsNew w5 26 (Array.replicate 32 (.int .u8 0)) d10 w11 →
      ∀ w12 : World, IsDrew w11 w12 →
      ∃ o13 : Option Addr, ∃ l14 : Nat, ∃ l15 : Nat, World.cell? w12 (Addr.add d4 1) = some (.slice o13 l14 l15) ∧
      ∃ (v16 : Value) (w17 : World), Sem.run Try.prog (builtinV .copy #[22, 22] 3 #[(.slice (some d10) 32 32), (.slice o13 l14 l15)]) w12 = .ok v16 w17 ∧
      ∃ n18 : Int, v16 = (.int .i64 n18) ∧
      ∃ L19 : Array Value, RowAt w17 d10 32 L19 ∧
      Array.size L19 = 32 ∧
      ∀ (d20 : Addr) (w21 : World), IsNew w17 26 (lputL (Array.replicate 32 (.int .u8 0)) 0 32 L19) d20 w21 →
      ∃ (v22 : Value) (w23 : World), Sem.run Try.prog (builtinV .append #[75, 75] 75 #[(.slice o0 l0 c0), (.slice (some d20) 1 1)]) w21 = .ok v22 w23 ∧
      ∃ o24 : Option Addr, ∃ l25 : Nat, ∃ l26 : Nat, v22 = (.slice o24 l25 l26) ∧
      R (.returned (.slice o24 l25 l26)) w23)) ∧
     ((((l8 : Nat) : Int) ≠ 32 →
      R (.returned (.slice o0 l0 c0)) w5))))) ∧
   ((b6 = true →
    ∃ o27 : Option Addr, ∃ l28 : Nat, ∃ l29 : Nat, World.cell? w5 (Addr.add d4 2) = some (.slice o27 l28 l29) ∧
    (((((l28 : Nat) : Int) = 2 →
      ∃ o30 : Option Addr, ∃ l31 : Nat, ∃ l32 : Nat, World.cell? w5 (Addr.add d4 2) = some (.slice o30 l31 l32) ∧
      ∃ d33 : Addr, o30 = some d33 ∧
      ((0 : Int) ≤ 0 ∧ 0 < ((l31 : Nat) : Int)) ∧
      ∃ o34 : Option Addr, ∃ l35 : Nat, ∃ l36 : Nat, World.cell? w5 (Addr.add (Addr.add d33 0) 1) = some (.slice o34 l35 l36) ∧
      Calls Try.prog 43 #[(.slice o34 l35 l36)] w5 (fun e37 w38 =>
        ∃ o39 : Option Addr, ∃ l40 : Nat, ∃ l41 : Nat, ∃ b42 : Bool, ∃ n43 : Int, e37 = .returned (.tuple #[(.slice o39 l40 l41), (.bool b42), (.int .i64 n43)]) ∧
        (((b42 = true →
          R (.returned (.slice o0 l0 c0)) w38)) ∧
         ((b42 = false →
          ∃ o44 : Option Addr, ∃ l45 : Nat, ∃ l46 : Nat, World.cell? w38 (Addr.add d4 2) = some (.slice o44 l45 l46) ∧
          ∃ d47 : Addr, o44 = some d47 ∧
          ((0 : Int) ≤ 1 ∧ 1 < ((l45 : Nat) : Int)) ∧
          ∃ b48 : Bool, ∃ o49 : Option Addr, ∃ l50 : Nat, ∃ l51 : Nat, ∃ o52 : Option Addr, ∃ l53 : Nat, ∃ l54 : Nat, World.cell? w38 (Addr.add d47 3) = some (.bool b48) ∧
          World.cell? w38 (Addr.add (Addr.add d47 3) 1) = some (.slice o49 l50 l51) ∧
          World.cell? w38 (Addr.add (Addr.add d47 3) 2) = some (.slice o52 l53 l54) ∧
          Calls Try.prog 90 #[(.slice o0 l0 c0), (.agg #[(.bool b48), (.slice o49 l50 l51), (.slice o52 l53 l54)])] w38 (fun e55 w56 =>
            ∃ o57 : Option Addr, ∃ l58 : Nat, ∃ l59 : Nat, e55 = .returned (.slice o57 l58 l59) ∧
            R (.returned (.slice o57 l58 l59)) w56))))))) ∧
     ((((l28 : Nat) : Int) ≠ 2 →
      ∃ (I60 : Option Addr → Nat → Nat → Int → World → Prop) (μ60 : Option Addr → Nat → Nat → Int → World → Nat), I60 o0 l0 c0 0 w5 ∧
      (∀ (o61 : Option Addr) (l61 : Nat) (c61 : Nat) (n62 : Int) (j63 : Nat → Value) (w63 : World), I60 o61 l61 c61 n62 w63 →
        (((n62 < 16 →
          ∃ o64 : Option Addr, ∃ l65 : Nat, ∃ l66 : Nat, World.cell? w63 (Addr.add d4 2) = some (.slice o64 l65 l66) ∧
          ∃ d67 : Addr, o64 = some d67 ∧
          ((0 : Int) ≤ n62 ∧ n62 < ((l65 : Nat) : Int)) ∧
          ∃ b68 : Bool, ∃ o69 : Option Addr, ∃ l70 : Nat, ∃ l71 : Nat, ∃ o72 : Option Addr, ∃ l73 : Nat, ∃ l74 : Nat, World.cell? w63 (Addr.add d67 ((Int.toNat n62) * 3)) = some (.bool b68) ∧
          World.cell? w63 (Addr.add (Addr.add d67 ((Int.toNat n62) * 3)) 1) = some (.slice o69 l70 l71) ∧
          World.cell? w63 (Addr.add (Addr.add d67 ((Int.toNat n62) * 3)) 2) = some (.slice o72 l73 l74) ∧
          Calls Try.prog 90 #[(.slice o61 l61 c61), (.agg #[(.bool b68), (.slice o69 l70 l71), (.slice o72 l73 l74)])] w63 (fun e75 w76 =>
            ∃ o77 : Option Addr, ∃ l78 : Nat, ∃ l79 : Nat, e75 = .returned (.slice o77 l78 l79) ∧
            I60 o77 l78 l79 (IntKind.wrap .i64 (n62 + 1)) w76 ∧ μ60 o77 l78 l79 (IntKind.wrap .i64 (n62 + 1)) w76 < μ60 o61 l61 c61 n62 w63))) ∧
         ((¬ n62 < 16 →
          R (.returned (.slice o61 l61 c61)) w63))))))))))
theorem moraineref14_children.vc (o0 : Option Addr) (l0 : Nat) (c0 : Nat) (b1 : Bool) (o2 : Option Addr) (l2 : Nat) (c2 : Nat) (o3 : Option Addr) (l3 : Nat) (c3 : Nat) (w : World) (R : Ending → World → Prop) (h : moraineref14_children.Vc o0 l0 c0 b1 o2 l2 c2 o3 l3 c3 w R) : Calls Try.prog 90 #[(.slice o0 l0 c0), (.agg #[(.bool b1), (.slice o2 l2 c2), (.slice o3 l3 c3)])] w R :=
  execF_sound (R := ⟨R, false⟩) (ann := [(13, [(0, .cell (.slice)), (9, .cell (.int .i64))])]) (args := [.slice o0 l0 c0, .agg [.bool (.var b1), .slice o2 l2 c2, .slice o3 l3 c3]]) Try.func90 mixed (Eq.mp (by kernel_rfl : moraineref14_children.Vc o0 l0 c0 b1 o2 l2 c2 o3 l3 c3 w R = execF (pA Try.prog ⟨R, false⟩) Try.prog [(13, [(0, .cell (.slice)), (9, .cell (.int .i64))])] Try.f90 [.slice o0 l0 c0, .agg [.bool (.var b1), .slice o2 l2 c2, .slice o3 l3 c3]] w) h)

abbrev moraineref14_Children.n : Nat := 46
def moraineref14_Children.Vc (o0 : Option Addr) (l0 : Nat) (c0 : Nat) (w : World) (R : Ending → World → Prop) : Prop :=
  Calls Try.prog 49 #[(.slice o0 l0 c0)] w (fun e1 w2 =>
    ∃ n3 : Int, e1 = .returned (.int .i64 n3) ∧
    (((n3 ≠ 0 →
      R (.returned (.tuple #[(.slice none 0 0), (.int .i64 n3)])) w2)) ∧
     ((n3 = 0 →
      Calls Try.prog 84 #[(.slice o0 l0 c0)] w2 (fun e4 w5 =>
        ∃ b6 : Bool, ∃ o7 : Option Addr, ∃ l8 : Nat, ∃ l9 : Nat, ∃ o10 : Option Addr, ∃ l11 : Nat, ∃ l12 : Nat, ∃ n13 : Int, e4 = .returned (.tuple #[(.agg #[(.bool b6), (.slice o7 l8 l9), (.slice o10 l11 l12)]), (.int .i64 n13)]) ∧
        ∀ (d14 : Addr) (w15 : World), IsNew w5 138 #[(.bool false), (.slice none 0 0), (.slice none 0 0)] d14 w15 →
        CanSet w15 d14 (.bool b6) ∧ ∀ w16 : World, IsSet w15 d14 (.bool b6) w16 →
        CanSet w16 (Addr.add d14 1) (.slice o7 l8 l9) ∧ ∀ w17 : World, IsSet w16 (Addr.add d14 1) (.slice o7 l8 l9) w17 →
        CanSet w17 (Addr.add d14 2) (.slice o10 l11 l12) ∧ ∀ w18 : World, IsSet w17 (Addr.add d14 2) (.slice o10 l11 l12) w18 →
        ∃ b19 : Bool, ∃ o20 : Option Addr, ∃ l21 : Nat, ∃ l22 : Nat, ∃ o23 : Option Addr, ∃ l24 : Nat, ∃ l25 : Nat, World.cell? w18 d14 = some (.bool b19) ∧
        World.cell? w18 (Addr.add d14 1) = some (.slice o20 l21 l22) ∧
        World.cell? w18 (Addr.add d14 2) = some (.slice o23 l24 l25) ∧
        Calls Try.prog 90 #[(.slice none 0 0), (.agg #[(.bool b19), (.slice o20 l21 l22), (.slice o23 l24 l25)])] w18 (fun e26 w27 =>
          ∃ o28 : Option Addr, ∃ l29 : Nat, ∃ l30 : Nat, e26 = .returned (.slice o28 l29 l30) ∧
          R (.returned (.tuple #[(.slice o28 l29 l30), (.int .i64 0)])) w27))))))
theorem moraineref14_Children.vc (o0 : Option Addr) (l0 : Nat) (c0 : Nat) (w : World) (R : Ending → World → Prop) (h : moraineref14_Children.Vc o0 l0 c0 w R) : Calls Try.prog 46 #[(.slice o0 l0 c0)] w R :=
  execF_sound (R := ⟨R, false⟩) (ann := []) (args := [.slice o0 l0 c0]) Try.func46 mixed (Eq.mp (by kernel_rfl : moraineref14_Children.Vc o0 l0 c0 w R = execF (pA Try.prog ⟨R, false⟩) Try.prog [] Try.f46 [.slice o0 l0 c0] w) h)

abbrev morainehelp_Hashes.n : Nat := 47
def morainehelp_Hashes.Vc (o0 : Option Addr) (l0 : Nat) (c0 : Nat) (o1 : Option Addr) (l1 : Nat) (c1 : Nat) (w : World) (R : Ending → World → Prop) : Prop :=
  (((((l0 : Nat) : Int) ≠ ((l1 : Nat) : Int) →
    R (.returned (.bool false)) w)) ∧
   ((((l0 : Nat) : Int) = ((l1 : Nat) : Int) →
    ∃ (I2 : Int → World → Prop) (μ2 : Int → World → Nat), I2 0 w ∧
    (∀ (n3 : Int) (j4 : Nat → Value) (w4 : World), I2 n3 w4 →
      (((n3 < ((l0 : Nat) : Int) →
        ∀ w5 : World, IsDrew w4 w5 →
        ∃ d6 : Addr, o0 = some d6 ∧
        ((0 : Int) ≤ n3 ∧ n3 < ((l0 : Nat) : Int)) ∧
        ∃ L7 : Array Value, RowAt w5 (Addr.add d6 ((Int.toNat n3) * 32)) 32 L7 ∧
        ∃ d8 : Addr, o1 = some d8 ∧
        ((0 : Int) ≤ n3 ∧ n3 < ((l1 : Nat) : Int)) ∧
        ∃ L9 : Array Value, RowAt w5 (Addr.add d8 ((Int.toNat n3) * 32)) 32 L9 ∧
        ∃ v10 : Value, Sem.run Try.prog (semBin .neq 26 (.tmp 20) (.tmp 24) (.agg L7) (.agg L9)) w5 = .ok v10 w5 ∧
        ∃ b11 : Bool, v10 = (.bool b11) ∧
        (((b11 = true →
          R (.returned (.bool false)) w5)) ∧
         ((b11 = false →
          I2 (IntKind.wrap .i64 (n3 + 1)) w5 ∧ μ2 (IntKind.wrap .i64 (n3 + 1)) w5 < μ2 n3 w4))))) ∧
       ((¬ n3 < ((l0 : Nat) : Int) →
        R (.returned (.bool true)) w4)))))))
theorem morainehelp_Hashes.vc (o0 : Option Addr) (l0 : Nat) (c0 : Nat) (o1 : Option Addr) (l1 : Nat) (c1 : Nat) (w : World) (R : Ending → World → Prop) (h : morainehelp_Hashes.Vc o0 l0 c0 o1 l1 c1 w R) : Calls Try.prog 47 #[(.slice o0 l0 c0), (.slice o1 l1 c1)] w R :=
  execF_sound (R := ⟨R, false⟩) (ann := [(4, [(5, .cell (.int .i64))])]) (args := [.slice o0 l0 c0, .slice o1 l1 c1]) Try.func47 mixed (Eq.mp (by kernel_rfl : morainehelp_Hashes.Vc o0 l0 c0 o1 l1 c1 w R = execF (pA Try.prog ⟨R, false⟩) Try.prog [(4, [(5, .cell (.int .i64))])] Try.f47 [.slice o0 l0 c0, .slice o1 l1 c1] w) h)

abbrev morainelaw14_TrieForms.n : Nat := 11
def morainelaw14_TrieForms.Vc (o0 : Option Addr) (l0 : Nat) (c0 : Nat) (w : World) (R : Ending → World → Prop) : Prop :=
  Calls Try.prog 37 #[] w (fun e1 w2 =>
    ∃ b3 : Bool, e1 = .returned (.bool b3) ∧
    (((b3 = false →
      R (.returned (.bool false)) w2)) ∧
     ((b3 = true →
      (((((l0 : Nat) : Int) > 3000 →
        R (.returned (.bool true)) w2)) ∧
       ((¬ ((l0 : Nat) : Int) > 3000 →
        Calls Try.prog 45 #[(.slice o0 l0 c0)] w2 (fun e4 w5 =>
          ∃ o6 : Option Addr, ∃ l7 : Nat, ∃ l8 : Nat, ∃ n9 : Int, e4 = .returned (.tuple #[(.slice o6 l7 l8), (.int .i64 n9)]) ∧
          Calls Try.prog 46 #[(.slice o0 l0 c0)] w5 (fun e10 w11 =>
            ∃ o12 : Option Addr, ∃ l13 : Nat, ∃ l14 : Nat, ∃ n15 : Int, e10 = .returned (.tuple #[(.slice o12 l13 l14), (.int .i64 n15)]) ∧
            (((n9 = n15 →
              Calls Try.prog 47 #[(.slice o6 l7 l8), (.slice o12 l13 l14)] w11 (fun e16 w17 =>
                ∃ b18 : Bool, e16 = .returned (.bool b18) ∧
                (((b18 = true →
                  Calls Try.prog 48 #[(.slice o0 l0 c0)] w17 (fun e19 w20 =>
                    ∃ n21 : Int, e19 = .returned (.int .i64 n21) ∧
                    Calls Try.prog 49 #[(.slice o0 l0 c0)] w20 (fun e22 w23 =>
                      ∃ n24 : Int, e22 = .returned (.int .i64 n24) ∧
                      R (.returned (.bool (decide (n21 = n24)))) w23)))) ∧
                 ((b18 = false →
                  R (.returned (.bool false)) w17)))))) ∧
             ((n9 ≠ n15 →
              R (.returned (.bool false)) w11))))))))))))
theorem morainelaw14_TrieForms.vc (o0 : Option Addr) (l0 : Nat) (c0 : Nat) (w : World) (R : Ending → World → Prop) (h : morainelaw14_TrieForms.Vc o0 l0 c0 w R) : Calls Try.prog 11 #[(.slice o0 l0 c0)] w R :=
  execF_sound (R := ⟨R, false⟩) (ann := []) (args := [.slice o0 l0 c0]) Try.func11 mixed (Eq.mp (by kernel_rfl : morainelaw14_TrieForms.Vc o0 l0 c0 w R = execF (pA Try.prog ⟨R, false⟩) Try.prog [] Try.f11 [.slice o0 l0 c0] w) h)

end Go.Proofs.Ytfghidehlnfdiaa
end

section
set_option linter.unusedVariables false
set_option linter.unusedSimpArgs false
namespace Go.Proofs.Ytfghidehlnfdiaa
open Go Go.Vcg Go.Trie
theorem ref_notE {f : Nat} {x : It} (h : refN f x = true) : isE x = false := by
  cases x with
  | l ys => rfl
  | s bs =>
    cases bs with
    | nil => simp [refN] at h
    | cons a r => rfl
/-- What the reference's is does. -/
def IsAt (f : Nat) : Prop := ∀ (x : It) {A : Nat → Prop} {w : World} {v1 v2 v3 : Value}, dep x ≤ f → Fine x → ItC A w x v1 v2 v3 →
  Calls Try.prog moraineref14_is.n #[.agg #[v1, v2, v3]] w (fun e w' => e = .returned (.bool (isN f x)) ∧ Vcg.Mod NoB w w')
def RefIsAt (f : Nat) : Prop := ∀ (x : It) {A : Nat → Prop} {w : World} {v1 v2 v3 : Value}, dep x ≤ f → Fine x → ItC A w x v1 v2 v3 →
  Calls Try.prog moraineref14_ref.n #[.agg #[v1, v2, v3]] w (fun e w' => e = .returned (.tuple #[.bool (isE x || refN f x), .bool (!isE x)]) ∧ Vcg.Mod NoB w w')
theorem refis_of {f : Nat} (hN : IsAt f) : RefIsAt f := by
  intro x A w v1 v2 v3 hdp hf hx
  obtain ⟨b, o1, l1, c1, o2, l2, c2, rfl, rfl, rfl⟩ := hx.vals
  refine moraineref14_ref.vc _ _ _ _ _ _ _ _ _ ?_
  unfold moraineref14_ref.Vc
  rintro d3 w1 ⟨rfl, rfl⟩
  have M1 : Vcg.Mod NoB w _ := Mod.alloc w (.cells #[.bool b, .slice o1 l1 c1, .slice o2 l2 c2] 138)
  have X1 := Blk.new w 138 #[.bool b, .slice o1 l1 c1, .slice o2 l2 c2]
  generalize w.alloc (.cells #[.bool b, .slice o1 l1 c1, .slice o2 l2 c2] 138) = w1 at *
  have hx1 := ItC.mod M1 _ hx
  cases x with
  | s bs =>
    simp only [ItC] at hx1
    obtain ⟨h1, ⟨o, c, h2, h3, h4⟩, h5⟩ := hx1
    cases h1; cases h2; cases h5
    refine ⟨_, X1.rd1 rfl, fun _ => ?_, fun h => (by cases h)⟩
    rintro _ rfl
    have X2 := X1.drew
    have M2 := M1.step_drew
    refine ⟨_, _, _, by rw [add_at]; exact X2.rd1 rfl, fun h32 => ⟨_, _, _, by rw [add_at]; exact X2.rd1 rfl, ?_, M2⟩, fun h32 => ⟨_, _, _, by rw [add_at]; exact X2.rd1 rfl, _, _, _, by rw [add_at]; exact X2.rd1 rfl, ?_, M2⟩⟩
    · have e1 : refN f (.s bs) = true := by simp only [refN]; exact decide_eq_true (by omega)
      rw [e1, ref_notE e1, decide_eq_true (by omega)]; rfl
    · have e1 : refN f (.s bs) = false := by simp only [refN]; exact decide_eq_false (by omega)
      rw [e1]
      cases bs with
      | nil => rfl
      | cons a r => rw [decide_eq_false (by simp only [List.length_cons]; omega), decide_eq_true (by simp only [List.length_cons]; omega)]; rfl
  | l xs =>
    have hx1' := hx1
    simp only [ItC] at hx1
    obtain ⟨h1, h2, o, c, h3, h4, hcap⟩ := hx1
    cases h1; cases h2; cases h3
    refine ⟨_, X1.rd1 rfl, fun h => (by cases h), fun _ => get3 X1 ?_⟩
    refine (Of_calls' f (.l xs) hdp hx1' (Mod.refl w1) hf.2.2).mono ?_
    rintro _ w2 ⟨o', k', rfl, F⟩
    have M02 := M1.none_trans F.mod
    have X2 := X1.mod' F.mod
    refine ⟨_, _, _, rfl, fun hlt => get3 X2 ?_, fun hge => ⟨?_, M02⟩⟩
    · refine (hN (.l xs) hdp hf (ItC.mod F.mod _ hx1')).mono ?_
      rintro _ w3 ⟨rfl, M3⟩
      have e : refN f (.l xs) = isN f (.l xs) := by
        simp only [refN, isN]; rw [decide_eq_true (by omega)]; rfl
      exact ⟨_, rfl, by rw [e]; rfl, M02.none_trans M3⟩
    · have e : refN f (.l xs) = false := by simp only [refN]; rw [decide_eq_false (by omega)]; rfl
      rw [e]; rfl
theorem is_all : ∀ f, IsAt f
  | 0, x, _, _, _, _, _, hd, _, _ => absurd (dep_pos x) (by omega)
  | f + 1, x, A, w, v1, v2, v3, hd, hf, hx => by
    have hRf := refis_of (is_all f)
    obtain ⟨b, o1, l1, c1, o2, l2, c2, rfl, rfl, rfl⟩ := hx.vals
    refine moraineref14_is.vc _ _ _ _ _ _ _ _ _ ?_
    unfold moraineref14_is.Vc
    rintro d3 w1 ⟨rfl, rfl⟩
    have M1 : Vcg.Mod NoB w _ := Mod.alloc w (.cells #[.bool b, .slice o1 l1 c1, .slice o2 l2 c2] 138)
    have X1 := Blk.new w 138 #[.bool b, .slice o1 l1 c1, .slice o2 l2 c2]
    generalize w.alloc (.cells #[.bool b, .slice o1 l1 c1, .slice o2 l2 c2] 138) = w1 at *
    have hx1 := ItC.mod M1 _ hx
    cases x with
    | s bs =>
      simp only [ItC] at hx1
      obtain ⟨h1, _, _⟩ := hx1
      cases h1
      exact ⟨_, X1.rd1 rfl, fun _ => ⟨rfl, M1⟩, fun h => (by cases h)⟩
    | l xs =>
      simp only [ItC] at hx1
      obtain ⟨h1, h2, o, c, h3, h4, hc⟩ := hx1
      cases h1; cases h2; cases h3
      have hds : ∀ x ∈ xs, dep x ≤ f := fun x hx => by
        have := dep_mem hx
        simp only [dep] at hd
        omega
      refine ⟨_, X1.rd1 rfl, fun h => (by cases h), fun _ => ⟨_, _, _, by rw [add_at]; exact X1.rd1 rfl, fun h2 => ?_, fun h2 => ⟨fun h17 => ?_, fun h17 => ?_⟩⟩⟩
      · obtain ⟨x, y, rfl⟩ : ∃ x y, xs = [x, y] := by
          cases xs with
          | nil => simp at h2
          | cons x r =>
            cases r with
            | nil => simp at h2
            | cons y r =>
              cases r with
              | nil => exact ⟨x, y, rfl⟩
              | cons z r => simp at h2; omega
        have hnode0 : nodeN (f + 1) [x, y] = (match headIs x with
          | none => false
          | some (_, true) => valIs y
          | some (p, false) => decide (p ≠ []) && refN f y) := nodeN_two rfl
        have hnode : isN (f + 1) (.l [x, y]) = (match headIs x with
          | none => false
          | some (_, true) => valIs y
          | some (p, false) => decide (p ≠ []) && refN f y) := hnode0
        obtain ⟨g, f0, u1, u2, u3, rfl, hg, e1, e2, e3, hi⟩ := h4.get 0 (by simp)
        have hix : ItC A w1 x u1 u2 u3 := hi
        refine ⟨_, _, _, by rw [add_at]; exact X1.rd1 rfl, _, rfl, ⟨by decide, by simp⟩, ?_⟩
        cases x with
        | l ys =>
          simp only [ItC] at hix
          obtain ⟨rfl, _⟩ := hix
          exact ⟨true, by rw [add_at]; exact e1, fun _ => ⟨by rw [hnode]; rfl, M1⟩, fun h => (by cases h)⟩
        | s bs =>
          have hfx := hf.mem (x := .s bs) (by simp)
          simp only [ItC] at hix
          obtain ⟨rfl, ⟨ox, cx, rfl, hrx, _⟩, rfl⟩ := hix
          have hbl : bs.length ≤ 2 ^ 20 := by
            have : bs.length ≤ (enc (.s bs)).length := by
              simp only [enc]
              split
              · exact Nat.le_refl _
              · rw [List.length_append]; omega
            have := hfx.2.2
            omega
          simp only [headIs] at hnode
          refine ⟨false, by rw [add_at]; exact e1, fun h => (by cases h), fun _ => ⟨_, _, _, by rw [add_at]; exact X1.rd1 rfl, _, rfl, ⟨by decide, by simp⟩, _, _, _, by rw [add_at, add_at]; exact e2, ?_⟩⟩
          refine (rUnpack_calls hrx hbl).mono ?_
          rintro _ w2 ⟨o', k', rfl, M2, R2, _⟩
          have M02 := M1.none_trans M2
          have X2 := X1.mod' M2
          obtain ⟨g', f0', t1, t2, t3, ho, hg', d1, d2, d3, hi'⟩ := (ItsC.mod M2 _ h4).get 1 (by simp)
          cases ho
          have hiy : ItC A w2 y t1 t2 t3 := hi'
          cases hu : unpack bs with
          | none =>
            have e : upk bs = ([], false, 143) := by unfold upk; rw [hu]
            rw [hu] at hnode
            rw [e]
            exact ⟨_, _, _, _, _, rfl, fun _ => ⟨by rw [hnode], M02⟩, fun h => absurd h (by decide)⟩
          | some r =>
            obtain ⟨p, lf⟩ := r
            have e : upk bs = (p, lf, 0) := by unfold upk; rw [hu]
            rw [hu] at hnode
            rw [e]
            refine ⟨_, _, _, _, _, rfl, fun h => (h rfl).elim, fun _ => ⟨fun hlf => ?_, fun hlf => ?_⟩⟩
            · subst hlf
              simp only at hnode
              refine ⟨_, _, _, by rw [add_at]; exact X2.rd1 rfl, _, rfl, ⟨by decide, by simp⟩, ?_⟩
              cases y with
              | s vs =>
                simp only [ItC] at hiy
                obtain ⟨rfl, ⟨oy, cy, rfl, _⟩, rfl⟩ := hiy
                refine ⟨false, by rw [add_at]; exact d1, fun _ => ⟨_, _, _, by rw [add_at]; exact X2.rd1 rfl, _, rfl, ⟨by decide, by simp⟩, _, _, _, by rw [add_at, add_at]; exact d2, ?_, M02⟩, fun h => (by cases h)⟩
                rw [hnode]
                cases vs with
                | nil => rfl
                | cons a r => rw [decide_eq_true (by simp only [List.length_cons]; omega)]; rfl
              | l ys =>
                simp only [ItC] at hiy
                obtain ⟨rfl, _⟩ := hiy
                exact ⟨true, by rw [add_at]; exact d1, fun h => (by cases h), fun _ => ⟨by rw [hnode]; rfl, M02⟩⟩
            · subst hlf
              simp only at hnode
              obtain ⟨_, _, _, _, _, _, _, rfl, rfl, rfl⟩ := hiy.vals
              refine ⟨_, _, _, by rw [add_at]; exact X2.rd1 rfl, _, rfl, ⟨by decide, by simp⟩, _, _, _, _, _, _, _, by rw [add_at]; exact d1, by rw [add_at, add_at]; exact d2, by rw [add_at, add_at]; exact d3, ?_⟩
              refine (hRf y (hds y (by simp)) (hf.mem (by simp)) hiy).mono ?_
              rintro _ w3 ⟨rfl, M3⟩
              have M03 := M02.none_trans M3
              refine ⟨_, _, rfl, fun hp => ⟨fun hb => ⟨?_, M03⟩, fun hb => ⟨?_, M03⟩⟩, fun hp => ⟨?_, M03⟩⟩
              · have hpn : p ≠ [] := by rintro rfl; simp at hp
                rw [hnode, decide_eq_true hpn, Bool.true_and]
                cases hr : refN f y with
                | true => rw [ref_notE hr]; rfl
                | false => rw [hr, Bool.or_false] at hb; rw [hb]; rfl
              · rw [Bool.or_eq_false_iff] at hb
                rw [hnode, hb.2, Bool.and_false]
              · have hpn : p = [] := List.eq_nil_of_length_eq_zero (by dsimp only at hp; omega)
                rw [hnode, hpn]; rfl
      · have h17' : xs.length = 17 := by omega
        have hnode : isN (f + 1) (.l xs) = _ := nodeN_many (f := f) h17'
        rw [getD_at (by omega)] at hnode
        refine ⟨fun n i w' => ∃ j : Nat, i = (j : Int) ∧ j ≤ 16 ∧ n = ((((xs.take j).filter (fun x => !isE x)).length : Nat) : Int) ∧ (xs.take j).all (fun x => isE x || refN f x) = true ∧ Vcg.Mod NoB w1 w', fun _ i _ => ((16 : Int) - i).toNat, ⟨0, rfl, Nat.zero_le _, by simp, by simp, Mod.refl w1⟩, ?_⟩
        rintro _ _ _ w2 ⟨j, rfl, hj, rfl, hall, M2⟩
        have X2 := X1.mod' M2
        have hcl : ((xs.take j).filter (fun x => !isE x)).length ≤ 16 := Nat.le_trans (List.length_filter_le _ _) (by rw [List.length_take]; omega)
        refine ⟨fun hlt => ?_, fun hge => ?_⟩
        · have hjl : j < xs.length := by omega
          obtain ⟨g', f', u1, u2, u3, ho, hg', d1, d2, d3, hij⟩ := (ItsC.mod M2 _ h4).get j hjl
          rw [Nat.zero_add] at d1 d2 d3
          obtain ⟨_, _, _, _, _, _, _, rfl, rfl, rfl⟩ := hij.vals
          refine ⟨_, _, _, by rw [add_at]; exact X2.rd1 rfl, _, ho, ⟨by omega, by omega⟩, _, _, _, _, _, _, _, by rw [add_at, Int.toNat_natCast]; exact d1, by rw [add_at, add_at, Int.toNat_natCast]; exact d2, by rw [add_at, add_at, Int.toNat_natCast]; exact d3, ?_⟩
          refine (hRf xs[j] (hds _ (List.getElem_mem hjl)) (hf.mem (List.getElem_mem hjl)) hij).mono ?_
          rintro _ w3 ⟨rfl, M3⟩
          have htk : xs.take (j + 1) = xs.take j ++ [xs[j]] := List.take_succ_eq_append_getElem hjl
          have ew : IntKind.wrap .i64 ((j : Int) + 1) = ((j + 1 : Nat) : Int) := by rw [wrap_i64_small (by omega) (by omega)]; omega
          have en : IntKind.wrap .i64 (((((xs.take j).filter (fun x => !isE x)).length : Nat) : Int) + 1) = ((((xs.take j).filter (fun x => !isE x)).length + 1 : Nat) : Int) := by rw [wrap_i64_small (by omega) (by omega)]; omega
          rw [ew, en]
          refine ⟨_, _, rfl, fun hb => ⟨?_, M1.none_trans (M2.none_trans M3)⟩, fun hb => ⟨fun hn => ?_, fun hn => ?_⟩⟩
          · have : (xs.take 16).all (fun x => isE x || refN f x) = false := by
              rw [List.all_eq_false]
              refine ⟨xs[j], ?_, by rw [hb]; decide⟩
              rw [List.mem_take_iff_getElem]
              exact ⟨j, by omega, rfl⟩
            rw [hnode]
            cases xs[16] with
            | l ys => rfl
            | s v => simp only; rw [this, Bool.false_and]
          · refine ⟨⟨j + 1, rfl, by omega, ?_, ?_, M2.none_trans M3⟩, by dsimp only; omega⟩
            · rw [htk, List.filter_append, List.length_append]
              simp [hn]
            · rw [htk, List.all_append, hall]; simp only [List.all_cons, List.all_nil, hb, Bool.and_self]
          · refine ⟨⟨j + 1, rfl, by omega, ?_, ?_, M2.none_trans M3⟩, by dsimp only; omega⟩
            · rw [htk, List.filter_append, List.length_append]
              simp [hn]
            · rw [htk, List.all_append, hall]; simp only [List.all_cons, List.all_nil, hb, Bool.and_self]
        · obtain rfl : j = 16 := by omega
          have M02 := M1.none_trans M2
          obtain ⟨g', f', u1, u2, u3, ho, hg', d1, d2, d3, hij⟩ := (ItsC.mod M2 _ h4).get 16 (by omega)
          rw [hall] at hnode
          refine ⟨_, _, _, by rw [add_at]; exact X2.rd1 rfl, _, ho, ⟨by omega, by omega⟩, ?_⟩
          generalize hx16 : xs[16] = x16 at *
          cases x16 with
          | l ys =>
            simp only [ItC] at hij
            obtain ⟨rfl, _⟩ := hij
            exact ⟨true, by rw [add_at]; exact d1, fun _ => ⟨by rw [hnode], M02⟩, fun h => (by cases h)⟩
          | s v =>
            simp only [ItC] at hij
            obtain ⟨rfl, ⟨ov, cv, rfl, hv, _⟩, rfl⟩ := hij
            simp only [Bool.true_and] at hnode
            have en : IntKind.wrap .i64 (((((xs.take 16).filter (fun x => !isE x)).length : Nat) : Int) + 1) = ((((xs.take 16).filter (fun x => !isE x)).length + 1 : Nat) : Int) := by rw [wrap_i64_small (by omega) (by omega)]; omega
            rw [en]
            refine ⟨false, by rw [add_at]; exact d1, fun h => (by cases h), fun _ => ⟨_, _, _, by rw [add_at]; exact X2.rd1 rfl, _, ho, ⟨by omega, by omega⟩, _, _, _, by rw [add_at, add_at]; exact d2, fun hp => ⟨?_, M02⟩, fun hp => ⟨?_, M02⟩⟩⟩
            · have hvn : v ≠ [] := by rintro rfl; simp at hp
              rw [hnode, if_neg hvn]
              congr 2
              rw [Bool.eq_iff_iff, decide_eq_true_eq, decide_eq_true_eq]; omega
            · have hvn : v = [] := List.eq_nil_of_length_eq_zero (by omega)
              rw [hnode, if_pos hvn]
              congr 2
              rw [Bool.eq_iff_iff, decide_eq_true_eq, decide_eq_true_eq]; omega
      · have hno : isN (f + 1) (.l xs) = false := nodeN_no (by omega) (by omega)
        exact ⟨by rw [hno], M1⟩
end Go.Proofs.Ytfghidehlnfdiaa
end

section
set_option linter.unusedVariables false
set_option linter.unusedSimpArgs false
namespace Go.Proofs.Ytfghidehlnfdiaa
open Go Go.Vcg Go.Trie
/-- What Check answers. -/
def checkOf (b : By) : Int := match dcod b with
  | .error x => x
  | .ok x => if isN 17 x = true then 0 else 143
theorem fine_of {b : By} {x : It} (h : dcod b = .ok x) : Fine x := by
  obtain ⟨h1, h2, h3, h4⟩ := dcod_ok h
  exact ⟨h3, h4, by omega⟩
theorem decoded_calls {w : World} {o : Option Addr} {k : Nat} {bs : By} (hr : RdB w o bs) (hk : bs.length ≤ k) :
    Calls Try.prog trie_decoded.n #[.slice o bs.length k] w (fun e w' => Vcg.Mod NoB w w' ∧ ∃ v, e = .returned (.tuple #[v, .int .i64 (checkOf bs)]) ∧ (checkOf bs = 0 → ∃ x, dcod bs = .ok x ∧ isN 17 x = true ∧ RV 0 17 w' x v)) := by
  refine calls_gen fun R hR => trie_decoded.vc _ _ _ _ _ ?_
  unfold trie_decoded.Vc
  refine (Decode_calls hr hk).mono ?_
  rintro e w1 ⟨M1, hd⟩
  unfold DecodeIs at hd
  cases hdc : dcod bs with
  | error x =>
    rw [hdc] at hd
    obtain ⟨hx, b, p1, q1, r1, p2, q2, r2, rfl⟩ := hd
    refine ⟨_, _, _, _, _, _, _, _, rfl, ?_⟩
    rintro d2 w2 ⟨rfl, rfl⟩
    have H := Blk.new w1 138 #[.bool false, .slice none 0 0, .slice none 0 0]
    refine set3 H rfl rfl rfl (fun w3 H3 Q3 => ?_)
    have M3 : Vcg.Mod NoB w w3 := M1.none_trans (mod_of (Mod.alloc w1 _) Q3 (Nat.le_refl _))
    have hck : checkOf bs = x := by unfold checkOf; rw [hdc]
    refine ⟨fun _ => hR _ _ ⟨M3, _, by rw [hck], fun h => (hx (by rw [← hck]; exact h)).elim⟩, fun h => (hx h).elim⟩
  | ok x =>
    rw [hdc] at hd
    obtain ⟨v1, v2, v3, rfl, hx⟩ := hd
    obtain ⟨b, p1, q1, r1, p2, q2, r2, rfl, rfl, rfl⟩ := hx.vals
    have hf := fine_of hdc
    refine ⟨_, _, _, _, _, _, _, _, rfl, ?_⟩
    rintro d2 w2 ⟨rfl, rfl⟩
    have H := Blk.new w1 138 #[.bool false, .slice none 0 0, .slice none 0 0]
    refine set3 H rfl rfl rfl (fun w3 H3 Q3 => ?_)
    have M13 : Vcg.Mod NoB w1 w3 := mod_of (Mod.alloc w1 _) Q3 (Nat.le_refl _)
    refine ⟨fun h => (h rfl).elim, fun _ => get3 H3 ?_⟩
    refine (noded_all 17 x (by have := hf.1; omega) hf (ItC.mod M13 _ hx)).mono ?_
    rintro _ w4 ⟨v, rfl, M4, hv, hrv⟩
    have M04 := (M1.none_trans M13).none_trans M4
    refine ⟨_, _, rfl, fun hb => hR _ _ ⟨M04, .nilIface, ?_, fun h => ?_⟩, fun hb => hR _ _ ⟨M04, v, ?_, fun _ => ⟨x, hdc, hb, RV.mod' (Mod.refl _) (Nat.zero_le _) (hrv hb)⟩⟩⟩
    · unfold checkOf; rw [hdc]; simp only [hb]; rfl
    · unfold checkOf at h; rw [hdc] at h; simp only [hb] at h; exact absurd h (by decide)
    · unfold checkOf; rw [hdc]; simp only [hb]; rfl
theorem Check_calls {w : World} {o : Option Addr} {k : Nat} {bs : By} (hr : RdB w o bs) (hk : bs.length ≤ k) :
    Calls Try.prog trie_Check.n #[.slice o bs.length k] w (fun e w' => e = .returned (.int .i64 (checkOf bs)) ∧ Vcg.Mod NoB w w') := by
  refine trie_Check.vc _ _ _ _ _ ?_
  unfold trie_Check.Vc
  refine (decoded_calls hr hk).mono ?_
  rintro _ w1 ⟨M1, v, rfl, _⟩
  exact ⟨_, _, rfl, rfl, M1⟩
theorem rCheck_calls {w : World} {o : Option Addr} {k : Nat} {bs : By} (hr : RdB w o bs) (hk : bs.length ≤ k) :
    Calls Try.prog moraineref14_Check.n #[.slice o bs.length k] w (fun e w' => e = .returned (.int .i64 (checkOf bs)) ∧ Vcg.Mod NoB w w') := by
  refine moraineref14_Check.vc _ _ _ _ _ ?_
  unfold moraineref14_Check.Vc
  refine (rDecode_calls hr hk).mono ?_
  rintro e w1 ⟨M1, hd⟩
  unfold DecodeIs at hd
  cases hdc : dcod bs with
  | error x =>
    rw [hdc] at hd
    obtain ⟨hx, b, p1, q1, r1, p2, q2, r2, rfl⟩ := hd
    refine ⟨_, _, _, _, _, _, _, _, rfl, ?_⟩
    rintro d2 w2 ⟨rfl, rfl⟩
    have H := Blk.new w1 138 #[.bool false, .slice none 0 0, .slice none 0 0]
    refine set3 H rfl rfl rfl (fun w3 H3 Q3 => ?_)
    have M3 : Vcg.Mod NoB w w3 := M1.none_trans (mod_of (Mod.alloc w1 _) Q3 (Nat.le_refl _))
    have hck : checkOf bs = x := by unfold checkOf; rw [hdc]
    exact ⟨fun _ => ⟨by rw [hck], M3⟩, fun h => (hx h).elim⟩
  | ok x =>
    rw [hdc] at hd
    obtain ⟨v1, v2, v3, rfl, hx⟩ := hd
    obtain ⟨b, p1, q1, r1, p2, q2, r2, rfl, rfl, rfl⟩ := hx.vals
    have hf := fine_of hdc
    refine ⟨_, _, _, _, _, _, _, _, rfl, ?_⟩
    rintro d2 w2 ⟨rfl, rfl⟩
    have H := Blk.new w1 138 #[.bool false, .slice none 0 0, .slice none 0 0]
    refine set3 H rfl rfl rfl (fun w3 H3 Q3 => ?_)
    have M13 : Vcg.Mod NoB w1 w3 := mod_of (Mod.alloc w1 _) Q3 (Nat.le_refl _)
    refine ⟨fun h => (h rfl).elim, fun _ => get3 H3 ?_⟩
    refine (is_all 17 x (by have := hf.1; omega) hf (ItC.mod M13 _ hx)).mono ?_
    rintro _ w4 ⟨rfl, M4⟩
    have M04 := (M1.none_trans M13).none_trans M4
    refine ⟨_, rfl, fun hb => ⟨?_, M04⟩, fun hb => ⟨?_, M04⟩⟩
    · unfold checkOf; rw [hdc]; simp only [hb]; rfl
    · unfold checkOf; rw [hdc]; simp only [hb]; rfl
end Go.Proofs.Ytfghidehlnfdiaa
end

section
set_option linter.unusedVariables false
set_option linter.unusedSimpArgs false
namespace Go.Proofs.Ytfghidehlnfdiaa
open Go Go.Vcg Go.Trie
def kidsN : Nat → It → List By
  | _, .s b => if b.length = 32 then [b] else []
  | 0, .l _ => []
  | f + 1, .l xs => if xs.length = 2 then (match headIs (xs.getD 0 (.s [])) with
      | some (_, true) => []
      | _ => kidsN f (xs.getD 1 (.s []))) else (xs.take 16).flatMap (kidsN f)
theorem kids_leaf {f : Nat} {xs : List It} (h : xs.length = 2) {p : By} (hp : headIs (xs.getD 0 (.s [])) = some (p, true)) : kidsN (f + 1) (.l xs) = [] := by
  simp only [kidsN]; rw [if_pos h, hp]
theorem kids_row {f : Nat} {xs : List It} (h : xs.length = 2) {p : By} (hp : headIs (xs.getD 0 (.s [])) = some (p, false)) : kidsN (f + 1) (.l xs) = kidsN f (xs.getD 1 (.s [])) := by
  simp only [kidsN]; rw [if_pos h, hp]
theorem kids_many {f : Nat} {xs : List It} (h : xs.length ≠ 2) : kidsN (f + 1) (.l xs) = (xs.take 16).flatMap (kidsN f) := by
  simp only [kidsN]; rw [if_neg h]
theorem kids_32 : ∀ (f : Nat) (x : It), ∀ h ∈ kidsN f x, h.length = 32
  | _, .s b, h, hh => by
    simp only [kidsN] at hh
    split at hh
    · rw [List.mem_singleton.1 hh]; assumption
    · cases hh
  | 0, .l _, h, hh => by simp only [kidsN] at hh; cases hh
  | f + 1, .l xs, h, hh => by
    simp only [kidsN] at hh
    split at hh
    · split at hh
      · cases hh
      · exact kids_32 f _ h hh
    · obtain ⟨y, _, hy⟩ := List.mem_flatMap.1 hh
      exact kids_32 f y h hy
theorem flat_len {g : It → List By} (hg : ∀ y, (g y).length ≤ count y) : ∀ (xs : List It), (xs.flatMap g).length ≤ counts xs
  | [] => by simp [counts]
  | x :: r => by
    have h1 := hg x
    have h2 := flat_len hg r
    simp only [List.flatMap_cons, List.length_append, counts]; omega
theorem kids_len : ∀ (f : Nat) (x : It), (kidsN f x).length ≤ count x
  | _, .s b => by
    simp only [kidsN, count]
    split <;> simp
  | 0, .l _ => by simp [kidsN]
  | f + 1, .l xs => by
    simp only [kidsN, count]
    split
    · rename_i h2
      split
      · simp
      · have h1 := kids_len f (xs.getD 1 (.s []))
        have hc : count (xs.getD 1 (.s [])) ≤ counts xs := by
          obtain ⟨x, y, rfl⟩ : ∃ x y, xs = [x, y] := by
            cases xs with
            | nil => simp at h2
            | cons x r =>
              cases r with
              | nil => simp at h2
              | cons y r =>
                cases r with
                | nil => exact ⟨x, y, rfl⟩
                | cons z r => simp at h2
          show count y ≤ count x + (count y + 0)
          omega
        omega
    · have h1 := flat_len (kids_len f) (xs.take 16)
      have h2 := counts_take_le xs 16
      omega
abbrev tSlH : TypeId := 75
theorem und_slH : Try.prog.underlying tSlH = some (.slice tHash) := by kernel_rfl
theorem info_hash' : (Try.prog.info? tHash).map (fun i => (i.zero, i.size, i.bytes)) = some (some (.agg (Array.replicate 32 (.int .u8 0))), 32, 32) := by kernel_rfl
def hsC (hs : List By) : List Value := (hs.map fun h => (hashA h).toList).flatten
theorem hsC_snoc (hs : List By) (h : By) : hsC (hs ++ [h]) = hsC hs ++ (hashA h).toList := by simp [hsC]
theorem hashL_len (h : By) : (hashA h).toList.length = 32 := by rw [Array.length_toList, size_hashA]
theorem hsC_at : ∀ (hs : List By) (j : Nat) (hj : j < hs.length) (i : Nat), i < 32 → (hsC hs)[j * 32 + i]? = some (bV (hs[j].getD i 0))
  | h :: r, 0, _, i, hi => by
    simp only [hsC, List.map_cons, List.flatten_cons, Nat.zero_mul, Nat.zero_add, List.getElem_cons_zero]
    rw [List.getElem?_append_left (by rw [hashL_len]; exact hi), Array.getElem?_toList]
    exact get_arrOf_lt hi
  | h :: r, j + 1, hj, i, hi => by
    have := hsC_at r j (by simpa using hj) i hi
    simp only [hsC, List.map_cons, List.flatten_cons, List.getElem_cons_succ] at this ⊢
    rw [List.getElem?_append_right (by rw [hashL_len]; omega), hashL_len, show (j + 1) * 32 + i - 32 = j * 32 + i by omega]
    exact this
/-- A row of hashes of its own. -/
def HsOwn (w : World) (o : Option Addr) (l k : Nat) (hs : List By) : Prop := l = hs.length ∧ Own w tHash 32 o l k (hsC hs)
theorem HsOwn.nil (w : World) : HsOwn w none 0 0 [] := ⟨rfl, Own.nil w _ _⟩
theorem HsOwn.mod {S : Nat → Prop} {w w' : World} {o : Option Addr} {l k : Nat} {hs : List By} (h : HsOwn w o l k hs) (M : Vcg.Mod S w w') (hS : ∀ b, OB o b → ¬ S b) : HsOwn w' o l k hs := ⟨h.1, h.2.mod M hS⟩
theorem HsOwn.mod' {w w' : World} {o : Option Addr} {l k : Nat} {hs : List By} (h : HsOwn w o l k hs) (M : Vcg.Mod NoB w w') : HsOwn w' o l k hs := h.mod M (fun _ _ h => h)
theorem HsOwn.row {w : World} {o : Option Addr} {l k : Nat} {hs : List By} (h : HsOwn w o l k hs) {j : Nat} (hj : j < hs.length) : ∃ g, o = some ⟨g, 0, none⟩ ∧ RowAt w ⟨g, j * 32, none⟩ 32 (hashA hs[j]) := by
  obtain ⟨g, hg, _⟩ := h.2.cell (hsC_at hs j hj 0 (by omega))
  refine ⟨g, hg, size_hashA _, fun i hi => ?_⟩
  obtain ⟨g', hg', hc⟩ := h.2.cell (hsC_at hs j hj i hi)
  rw [hg] at hg'
  cases hg'
  rw [add_at, hc]
  exact (get_arrOf_lt (f := fun i => bV (hs[j].getD i 0)) hi).symm
theorem HsOwn.push {w : World} {o : Option Addr} {l k D : Nat} {hs : List By} {h : By} (H : HsOwn w o l k hs) (B : Blk w D tHash (hashA h)) (hl : hs.length ≤ 2 ^ 20) :
    ∃ o' k' w', Sem.run Try.prog (builtinV .append #[tSlH, tSlH] tSlH #[.slice o l k, .slice (some ⟨D, 0, none⟩) 1 1]) w = .ok (.slice o' (l + 1) k') w' ∧
      HsOwn w' o' (l + 1) k' (hs ++ [h]) ∧ Vcg.Mod (OB o) w w' ∧ (∀ b, OB o' b → OB o b ∨ w.heap.size ≤ b) := by
  obtain ⟨rfl, hO⟩ := H
  obtain ⟨i, hi, hz, hs', hbt⟩ := info_of info_hash'
  obtain ⟨o', k', w', h1, h2, h3, h4⟩ := append_own (ty := tSlH) und_slH hi hz hs' (by simp [Value.cells]) hO (src_one und_slH B (size_hashA _) (hashA_one h)) (by simp only [maxLen]; omega) (by rw [hbt]; omega)
  exact ⟨o', k', w', h1, ⟨by simp, by rw [hsC_snoc]; exact h2⟩, h3, h4⟩
theorem mod_ofS {S : Nat → Prop} {w0 w w' : World} (M : Vcg.Mod NoB w0 w) (h : Vcg.Mod S w w') (hS : ∀ b, S b → w0.heap.size ≤ b) : Vcg.Mod NoB w0 w' :=
  M.trans h (fun i hi e => by have := hS i e; omega)
end Go.Proofs.Ytfghidehlnfdiaa
end

section
set_option linter.unusedVariables false
set_option linter.unusedSimpArgs false
namespace Go.Proofs.Ytfghidehlnfdiaa
open Go Go.Vcg Go.Trie
/-- The closure's two variables. -/
def ChS (w0 w : World) (d1 d2 : Nat) (out : List By) : Prop :=
  w0.heap.size ≤ d1 ∧ w0.heap.size ≤ d2 ∧ d1 ≠ d2 ∧ Vcg.Mod NoB w0 w ∧ Blk w d2 148 #[.func (.func 89) #[] #[.pointer (some ⟨d1, 0, none⟩), .pointer (some ⟨d2, 0, none⟩)]] ∧
    ∃ o l k, Blk w d1 75 #[.slice o l k] ∧ HsOwn w o l k out ∧ ∀ b, OB o b → w0.heap.size ≤ b ∧ b ≠ d1 ∧ b ≠ d2
theorem ChS.mod' {w0 w w' : World} {d1 d2 : Nat} {out : List By} (h : ChS w0 w d1 d2 out) (M : Vcg.Mod NoB w w') : ChS w0 w' d1 d2 out := by
  obtain ⟨h1, h2, h3, h4, h5, o, l, k, h6, h7, h8⟩ := h
  exact ⟨h1, h2, h3, h4.none_trans M, h5.mod' M, o, l, k, h6.mod' M, h7.mod' M, h8⟩
theorem kid_string {f : Nat} {b : By} {v : Value} {w0 w : World} {d1 d2 : Nat} {out : List By} (hC : ChS w0 w d1 d2 out) (hv : RV 0 f w0 (.s b) v) (hl : out.length + (kidsN f (.s b)).length ≤ 2 ^ 20)
    (nothing : ∀ {v : Value} {w0 w : World} {d1 d2 : Nat} {out : List By}, (v = .nilIface ∨ ∃ d : Addr, v = .iface 171 (.pointer (some d))) → ChS w0 w d1 d2 out →
      Calls Try.prog trie_Children_1.n #[v, .pointer (some ⟨d1, 0, none⟩), .pointer (some ⟨d2, 0, none⟩)] w (fun e w' => e = .returned (.tuple #[]) ∧ ChS w0 w' d1 d2 out)) :
    Calls Try.prog trie_Children_1.n #[v, .pointer (some ⟨d1, 0, none⟩), .pointer (some ⟨d2, 0, none⟩)] w (fun e w' => e = .returned (.tuple #[]) ∧ ChS w0 w' d1 d2 (out ++ kidsN f (.s b))) := by
  simp only [RV] at hv
  rcases hv with ⟨rfl, rfl⟩ | ⟨hb, D, _, rfl, hB⟩
  · have e : kidsN f (.s []) = [] := by cases f <;> simp [kidsN]
    rw [e, List.append_nil]
    exact nothing (.inl rfl) hC
  have e : kidsN f (.s b) = [b] := by cases f <;> simp only [kidsN] <;> rw [if_pos hb]
  rw [e] at hl ⊢
  refine trie_Children_1.vc _ _ _ _ _ ?_
  unfold trie_Children_1.Vc
  refine ⟨_, ask_yes und_phashed _, _, _, rfl, fun _ => ?_, fun h => (by cases h)⟩
  rintro _ rfl
  have hC1 := hC.mod' (Mod.drew w)
  generalize w.drew = w1 at *
  obtain ⟨h1, h2, h3, h4, h5, o, l, k, h6, h7, h8⟩ := hC1
  have hB1 := hB.mod' h4
  refine ⟨_, _, _, h6.rd1 rfl, _, rfl, hashA b, hB1.rowAll (size_hashA _), size_hashA _, ?_⟩
  rw [lput_all (by simp) (size_hashA b)]
  rintro d3 w2 ⟨rfl, rfl⟩
  have M2 := Mod.alloc (S := NoB) w1 (.cells (hashA b) 26)
  have N2 := Blk.new w1 26 (hashA b)
  have hs := h4.size
  generalize w1.alloc (.cells (hashA b) 26) = w2 at *
  have h62 := h6.mod' M2
  obtain ⟨o', k', w3, hr, H3, M3, hO⟩ := (h7.mod' M2).push (h := b) N2 (by simp at hl; omega)
  have h63 := h62.mod M3 (fun hb => (h8 _ hb).2.1 rfl)
  have hd1 := h6.lt
  have hd2 := h5.lt
  refine ⟨h62.rd1 rfl, _, w3, hr, _, _, _, rfl, h63.canSet (by simp) rfl, ?_⟩
  rintro _ rfl
  have Q := Mod.setCell w3 ⟨d1, 0, none⟩ (.slice o' (l + 1) k')
  have hs2 := M2.size
  have hOB : ∀ b, OB o' b → w0.heap.size ≤ b ∧ b ≠ d1 ∧ b ≠ d2 := fun b hb => by
    rcases hO b hb with hb | hb
    · exact h8 b hb
    · exact ⟨by omega, by omega, by omega⟩
  refine ⟨rfl, h1, h2, h3, ?_, ?_, o', l + 1, k', h63.set 0 _, H3.mod Q (fun b hb hh => (hOB b hb).2.1 hh), hOB⟩
  · exact mod_of (mod_ofS (h4.none_trans M2) M3 (fun b hb => (h8 b hb).1)) Q h1
  · exact ((h5.mod' M2).mod M3 (fun hb => (h8 _ hb).2.2 rfl)).mod Q (fun h => h3 h.symm)
theorem kid_visit : ∀ (f : Nat) (x : It) {v : Value} {w0 w : World} {d1 d2 : Nat} {out : List By}, ChS w0 w d1 d2 out → RV 0 f w0 x v → out.length + (kidsN f x).length ≤ 2 ^ 20 →
    Calls Try.prog trie_Children_1.n #[v, .pointer (some ⟨d1, 0, none⟩), .pointer (some ⟨d2, 0, none⟩)] w (fun e w' => e = .returned (.tuple #[]) ∧ ChS w0 w' d1 d2 (out ++ kidsN f x)) := by
  have nothing : ∀ {v : Value} {w0 w : World} {d1 d2 : Nat} {out : List By}, (v = .nilIface ∨ ∃ d : Addr, v = .iface 171 (.pointer (some d))) → ChS w0 w d1 d2 out →
      Calls Try.prog trie_Children_1.n #[v, .pointer (some ⟨d1, 0, none⟩), .pointer (some ⟨d2, 0, none⟩)] w (fun e w' => e = .returned (.tuple #[]) ∧ ChS w0 w' d1 d2 out) := by
    intro v w0 w d1 d2 out hv hC
    refine trie_Children_1.vc _ _ _ _ _ ?_
    unfold trie_Children_1.Vc
    rcases hv with rfl | ⟨d, rfl⟩
    · exact ⟨_, ask_nil und_phashed zero_phashed _, _, _, rfl, fun h => (by cases h), fun _ => ⟨_, ask_nil und_prow zero_prow _, _, _, rfl, fun h => (by cases h), fun _ => ⟨_, ask_nil und_pbranch zero_pbranch _, _, _, rfl, fun h => (by cases h), fun _ => ⟨rfl, hC⟩⟩⟩⟩
    · exact ⟨_, ask_no und_phashed zero_phashed (by decide) _, _, _, rfl, fun h => (by cases h), fun _ => ⟨_, ask_no und_prow zero_prow (by decide) _, _, _, rfl, fun h => (by cases h), fun _ => ⟨_, ask_no und_pbranch zero_pbranch (by decide) _, _, _, rfl, fun h => (by cases h), fun _ => ⟨rfl, hC⟩⟩⟩⟩
  intro f
  induction f with
  | zero =>
    intro x v w0 w d1 d2 out hC hv hl
    cases x with
    | l xs => simp only [RV] at hv
    | s b => exact kid_string hC hv hl nothing
  | succ f ih =>
    intro x v w0 w d1 d2 out hC hv hl
    cases x with
    | s b => exact kid_string hC hv hl nothing
    | l xs =>
      simp only [RV] at hv
      rcases hv with ⟨h2, ⟨p, hp⟩, d, rfl⟩ | ⟨h2, ⟨p, hp⟩, D, s, vc, h0, rfl, hB, hr⟩ | ⟨h17, D, vs, ov, lv, kv, h0, rfl, hB, hr⟩
      · rw [kids_leaf h2 hp, List.append_nil]
        exact nothing (.inr ⟨d, rfl⟩) hC
      · rw [kids_row h2 hp] at hl ⊢
        refine trie_Children_1.vc _ _ _ _ _ ?_
        unfold trie_Children_1.Vc
        refine ⟨_, ask_no und_phashed zero_phashed (by decide) _, _, _, rfl, fun h => (by cases h), fun _ => ⟨_, ask_yes und_prow _, _, _, rfl, fun _ => ?_, fun h => (by cases h)⟩⟩
        rintro _ rfl
        have hC1 := hC.mod' (Mod.drew w)
        generalize w.drew = w1 at *
        have hC1c := hC1
        obtain ⟨h1, h2', h3, h4, h5, _⟩ := hC1c
        have hB1 := hB.mod' h4
        refine ⟨_, h5.rd1 rfl, _, rfl, _, by rw [add_at]; exact hB1.rd1 rfl, 89, #[], _, rfl, by kernel_rfl, ?_⟩
        refine (ih (xs.getD 1 (.s [])) hC1 hr hl).mono ?_
        rintro _ w2 ⟨rfl, hC2⟩
        exact ⟨rfl, rfl, hC2⟩
      · rw [kids_many (by omega)] at hl ⊢
        refine trie_Children_1.vc _ _ _ _ _ ?_
        unfold trie_Children_1.Vc
        refine ⟨_, ask_no und_phashed zero_phashed (by decide) _, _, _, rfl, fun h => (by cases h), fun _ => ⟨_, ask_no und_prow zero_prow (by decide) _, _, _, rfl, fun h => (by cases h), fun _ => ⟨_, ask_yes und_pbranch _, _, _, rfl, fun _ => ?_, fun h => (by cases h)⟩⟩⟩
        have hL : ∀ i, i < 16 → (brA vs ov lv kv)[0 + i]? = (List.ofFn vs).toArray[i]? := by
          intro i hi
          rw [Nat.zero_add, brA_at vs ov lv kv ⟨i, hi⟩, List.getElem?_toArray, List.getElem?_ofFn, dif_pos hi]
        have hBw : Blk w D 158 (brA vs ov lv kv) := by obtain ⟨_, _, _, h4, _⟩ := hC; exact hB.mod' h4
        refine ⟨_, rfl, (List.ofFn vs).toArray, hBw.rowAt (by simp) hL, fun i w' => ∃ j : Nat, i = (j : Int) ∧ j ≤ 16 ∧ ChS w0 w' d1 d2 (out ++ (xs.take j).flatMap (kidsN f)), fun i _ => ((16 : Int) - i).toNat, ⟨0, rfl, Nat.zero_le _, by simpa using hC⟩, ?_⟩
        rintro _ _ w1 ⟨j, rfl, hj, hC1⟩
        refine ⟨fun hlt => ?_, fun hge => ?_⟩
        · have hjl : j < 16 := by omega
          have hjx : j < xs.length := by omega
          obtain ⟨ie, hie, hz, hsz, hb⟩ := info_of info_node
          have hv : (List.ofFn vs).toArray[j]? = some (vs ⟨j, hjl⟩) := by rw [List.getElem?_toArray, List.getElem?_ofFn, dif_pos hjl]
          have hC1' := hC1
          obtain ⟨h1, h2', h3, h4, h5, _⟩ := hC1'
          refine ⟨_, run_index1 und_kids hie hsz agg_node hjl hv w1, _, rfl, _, h5.rd1 rfl, 89, #[], _, rfl, by kernel_rfl, ?_⟩
          have e : (xs.take (j + 1)).flatMap (kidsN f) = (xs.take j).flatMap (kidsN f) ++ kidsN f (xs.getD j (.s [])) := by
            rw [List.take_succ_eq_append_getElem hjx, List.flatMap_append, getD_at hjx]; simp
          have hle : ((xs.take (j + 1)).flatMap (kidsN f)).length ≤ ((xs.take 16).flatMap (kidsN f)).length := by
            have ht : xs.take 16 = xs.take (j + 1) ++ (xs.take 16).drop (j + 1) := by
              have := List.take_append_drop (j + 1) (xs.take 16)
              rw [List.take_take, Nat.min_eq_left hjl] at this
              exact this.symm
            rw [ht, List.flatMap_append, List.length_append]; omega
          rw [e, List.length_append] at hle
          refine (ih (xs.getD j (.s [])) hC1 (hr ⟨j, hjl⟩) (by rw [List.length_append]; omega)).mono ?_
          rintro _ w2 ⟨rfl, hC2⟩
          rw [List.append_assoc, ← e] at hC2
          exact ⟨rfl, ⟨j + 1, by rw [wrap_i64_small (by omega) (by omega)]; omega, hjl, hC2⟩, by dsimp only; rw [wrap_i64_small (by omega) (by omega)]; omega⟩
        · obtain rfl : j = 16 := by omega
          exact ⟨rfl, hC1⟩
end Go.Proofs.Ytfghidehlnfdiaa
end

section
set_option linter.unusedVariables false
set_option linter.unusedSimpArgs false
namespace Go.Proofs.Ytfghidehlnfdiaa
open Go Go.Vcg Go.Trie
def kidsOf (b : By) : List By := match dcod b with
  | .error _ => []
  | .ok x => if isN 17 x = true then kidsN 17 x else []
theorem kidsOf_bad {b : By} (h : checkOf b ≠ 0) : kidsOf b = [] := by
  unfold kidsOf
  unfold checkOf at h
  cases hd : dcod b with
  | error x => rfl
  | ok x =>
    rw [hd] at h
    simp only at h ⊢
    by_cases hn : isN 17 x = true
    · rw [if_pos hn] at h; exact (h rfl).elim
    · rw [if_neg hn]
theorem kidsOf_ok {b : By} {x : It} (h : dcod b = .ok x) (hn : isN 17 x = true) : kidsOf b = kidsN 17 x := by
  unfold kidsOf; rw [h]; simp only; rw [if_pos hn]
theorem kidsOf_32 (b : By) : ∀ h ∈ kidsOf b, h.length = 32 := by
  intro h hh
  unfold kidsOf at hh
  split at hh
  · cases hh
  · split at hh
    · exact kids_32 _ _ h hh
    · cases hh
theorem kidsOf_len (b : By) : (kidsOf b).length ≤ 2 ^ 20 := by
  unfold kidsOf
  split
  · simp
  · rename_i x hd
    split
    · have h1 := kids_len 17 x
      have h2 := (fine_of hd).2.1
      omega
    · simp
/-- What both functions named Children hand back. -/
def KidsIs (bs : By) (w : World) (e : Ending) (w' : World) : Prop :=
  Vcg.Mod NoB w w' ∧ ∃ o l k, e = .returned (.tuple #[.slice o l k, .int .i64 (checkOf bs)]) ∧ HsOwn w' o l k (kidsOf bs)
theorem Children_calls {w : World} {o : Option Addr} {k : Nat} {bs : By} (hr : RdB w o bs) (hk : bs.length ≤ k) :
    Calls Try.prog trie_Children.n #[.slice o bs.length k] w (KidsIs bs w) := by
  refine trie_Children.vc _ _ _ _ _ ?_
  unfold trie_Children.Vc
  refine (decoded_calls hr hk).mono ?_
  rintro _ w1 ⟨M1, v, rfl, hv⟩
  refine ⟨_, _, rfl, fun hne => ⟨M1, _, _, _, rfl, ?_⟩, fun h0 => ?_⟩
  · rw [kidsOf_bad hne]; exact HsOwn.nil _
  obtain ⟨x, hd, hn, hrv⟩ := hv h0
  have hf := fine_of hd
  rintro d1 w2 ⟨rfl, rfl⟩
  have M2 := Mod.alloc (S := NoB) w1 (.cells #[.slice none 0 0] 75)
  have B1 := Blk.new w1 75 #[.slice none 0 0]
  have hs2 := size_alloc w1 (.cells #[.slice none 0 0] 75)
  generalize w1.alloc (.cells #[.slice none 0 0] 75) = w2 at *
  rintro d2 w3 ⟨rfl, rfl⟩
  have M3 := Mod.alloc (S := NoB) w2 (.cells #[.nilFunc] 148)
  have B2 := Blk.new w2 148 #[.nilFunc]
  have B1' := B1.mod' M3
  generalize w2.alloc (.cells #[.nilFunc] 148) = w3 at *
  refine ⟨B2.canSet (by simp) rfl, ?_⟩
  rintro _ rfl
  have Q := Mod.setCell w3 ⟨w2.heap.size, 0, none⟩ (.func (.func 89) #[] #[.pointer (some ⟨w1.heap.size, 0, none⟩), .pointer (some ⟨w2.heap.size, 0, none⟩)])
  have B2' := B2.set 0 (.func (.func 89) #[] #[.pointer (some ⟨w1.heap.size, 0, none⟩), .pointer (some ⟨w2.heap.size, 0, none⟩)])
  have B1'' := B1'.mod Q (by show ¬ w1.heap.size = w2.heap.size; omega)
  have M14 := mod_of (M2.none_trans M3) Q M2.size
  have hC : ChS w1 _ w1.heap.size w2.heap.size [] := ⟨Nat.le_refl _, by omega, by omega, M14, B2', none, 0, 0, B1'', HsOwn.nil _, fun b hb => (OB_none b hb).elim⟩
  have hkl := kids_len 17 x
  have hcnt := hf.2.1
  refine ⟨_, B2'.rd1 rfl, 89, #[], _, rfl, by kernel_rfl, ?_⟩
  refine (kid_visit 17 x hC hrv (by simp; omega)).mono ?_
  rintro _ w5 ⟨rfl, hC5⟩
  obtain ⟨_, _, _, M15, _, o', l', k', B5, H5, _⟩ := hC5
  refine ⟨rfl, _, _, _, B5.rd1 rfl, M1.none_trans M15, _, _, _, by rw [h0], ?_⟩
  rw [kidsOf_ok hd hn]; exact H5
theorem HsOwn.lt {w : World} {o : Option Addr} {l k : Nat} {hs : List By} (h : HsOwn w o l k hs) {b : Nat} (hb : OB o b) : b < w.heap.size := h.2.lt hb
/-- Which items the reference goes into. -/
def Kid (f : Nat) (x : It) : Prop := isE x = true ∨ refN f x = true ∨ isN f x = true
theorem Kid.list {f : Nat} {xs : List It} (h : Kid f (.l xs)) : nodeN f xs = true := by
  rcases h with h | h | h
  · cases h
  · simp only [refN, Bool.and_eq_true] at h; exact h.2
  · exact h
/-- What the reference's children hands back. -/
def RKids (o : Option Addr) (hs : List By) (w : World) (e : Ending) (w' : World) : Prop :=
  ∃ o' l' k', e = .returned (.slice o' l' k') ∧ HsOwn w' o' l' k' hs ∧ Vcg.Mod (OB o) w w' ∧ ∀ b, OB o' b → OB o b ∨ w.heap.size ≤ b
theorem RKids.none_mod {o : Option Addr} {hs : List By} {w w1 w' : World} {e : Ending} (h : RKids o hs w1 e w') (M : Vcg.Mod NoB w w1) : RKids o hs w e w' := by
  obtain ⟨o', l', k', h1, h2, h3, h4⟩ := h
  exact ⟨o', l', k', h1, h2, (M.mono (fun _ _ h => h.elim)).trans h3 (fun _ _ h => h), fun b hb => (h4 b hb).imp id (fun h => Nat.le_trans M.size h)⟩
theorem rkid_string {f : Nat} {b : By} {A : Nat → Prop} {w : World} {o : Option Addr} {l k : Nat} {out : List By} {v1 v2 v3 : Value} (hx : ItC A w (.s b) v1 v2 v3) (hS : HsOwn w o l k out) (hl : out.length + (kidsN f (.s b)).length ≤ 2 ^ 20) :
    Calls Try.prog moraineref14_children.n #[.slice o l k, .agg #[v1, v2, v3]] w (RKids o (out ++ kidsN f (.s b)) w) := by
  simp only [ItC] at hx
  obtain ⟨rfl, ⟨p, c, rfl, hr, _⟩, rfl⟩ := hx
  refine moraineref14_children.vc _ _ _ _ _ _ _ _ _ _ _ _ ?_
  unfold moraineref14_children.Vc
  rintro d4 w1 ⟨rfl, rfl⟩
  have M1 := Mod.alloc (S := NoB) w (.cells #[.bool false, .slice p b.length c, .slice none 0 0] 138)
  have X1 := Blk.new w 138 #[.bool false, .slice p b.length c, .slice none 0 0]
  have S1 := hS.mod' M1
  have hr1 := hr.mod' M1
  generalize w.heap.size = D at *
  generalize w.alloc (.cells #[.bool false, .slice p b.length c, .slice none 0 0] 138) = w1 at *
  refine ⟨_, X1.rd1 rfl, fun _ => ⟨_, _, _, by rw [add_at]; exact X1.rd1 rfl, fun h32 => ?_, fun h32 => ?_⟩, fun h => (by cases h)⟩
  · have hb : b.length = 32 := by omega
    have e : kidsN f (.s b) = [b] := by cases f <;> simp only [kidsN] <;> rw [if_pos hb]
    rw [e] at hl ⊢
    rintro d10 w2 ⟨rfl, rfl⟩
    have M2 := Mod.alloc (S := NoB) w1 (.cells (Array.replicate 32 (.int .u8 0)) 26)
    have N2 := Blk.new w1 26 (Array.replicate 32 (.int .u8 0))
    have X2 := X1.mod' M2
    have hG : w1.heap.size ≤ w1.heap.size := Nat.le_refl _
    generalize hGe : w1.heap.size = G at *
    rintro _ rfl
    have M3 := Mod.drew (S := NoB) (w1.alloc (.cells (Array.replicate 32 (.int .u8 0)) 26))
    have X3 := X2.mod' M3
    have N3 := N2.mod' M3
    have hr3 := (hr1.mod' M2).mod' M3
    have S3 := (S1.mod' M2).mod' M3
    have M13 := M2.none_trans M3
    generalize (w1.alloc (.cells (Array.replicate 32 (.int .u8 0)) 26)).drew = w3 at *
    obtain ⟨w4, h4, B4, M4⟩ := copy_blk (P := Try.prog) (t := 22) (tx := 22) (ty := 3) (dLen := 32) (dCap := 32) (n := 32) (o := 0) (c := c) und_slU8 info_u8_size N3 hr3 (by rw [hb]; rfl) (by simp)
    have eh : setsAt (Array.replicate 32 (.int .u8 0)) 0 ((b.take 32).map bV) = hashA b := by
      have ht : b.take 32 = b := List.take_of_length_le (by omega)
      rw [ht]
      apply Array.ext_getElem?
      intro i
      rw [get_setsAt _ _ _ _ (by simp [hb])]
      by_cases hi : i < 32
      · rw [if_pos ⟨Nat.zero_le _, by simp [hb]; exact hi⟩, Nat.sub_zero]
        simp only [hashA]
        rw [get_arrOf_lt hi]
        simp [List.getD_eq_getElem?_getD, hb, hi]
      · rw [if_neg (by simp [hb]; omega), Array.getElem?_eq_none (by simp; omega), Array.getElem?_eq_none (by rw [size_hashA]; omega)]
    rw [eh] at B4
    refine ⟨_, _, _, by rw [add_at]; exact X3.rd1 rfl, _, w4, h4, _, rfl, hashA b, B4.rowAll (size_hashA _), size_hashA _, ?_⟩
    rw [lput_all (by simp) (size_hashA b)]
    rintro d20 w5 ⟨rfl, rfl⟩
    have M5 := Mod.alloc (S := NoB) w4 (.cells (hashA b) 26)
    have N5 := Blk.new w4 26 (hashA b)
    have M14 := mod_of M13 M4 (by omega)
    generalize w4.alloc (.cells (hashA b) 26) = w5 at *
    obtain ⟨o', k', w6, hr6, H6, M6, hO⟩ := (((hS.mod' M1).mod' M14).mod' M5).push (h := b) N5 (by simp at hl; omega)
    refine ⟨_, w6, hr6, _, _, _, rfl, _, _, _, rfl, H6, ((M1.none_trans M14).none_trans M5).mono (fun _ _ h => h.elim) |>.trans M6 (fun _ _ h => h), fun b hb => (hO b hb).imp id (fun h => ?_)⟩
    have h1 := (M1.none_trans M14).size
    have h2 := M5.size
    omega
  · have e : kidsN f (.s b) = [] := by cases f <;> simp only [kidsN] <;> rw [if_neg (by omega)]
    rw [e, List.append_nil]
    exact ⟨_, _, _, rfl, S1, M1.mono (fun _ _ h => h.elim), fun b hb => .inl hb⟩
theorem rkids_calls : ∀ (f : Nat) (x : It) {A : Nat → Prop} {w : World} {o : Option Addr} {l k : Nat} {out : List By} {v1 v2 v3 : Value}, Kid f x → Fine x → (∀ b, OB o b → A b) → ItC A w x v1 v2 v3 → HsOwn w o l k out → out.length + (kidsN f x).length ≤ 2 ^ 20 →
    Calls Try.prog moraineref14_children.n #[.slice o l k, .agg #[v1, v2, v3]] w (RKids o (out ++ kidsN f x) w) := by
  intro f
  induction f with
  | zero =>
    intro x A w o l k out v1 v2 v3 hkid hf hA hx hS hl
    cases x with
    | l xs => have := hkid.list; simp [nodeN] at this
    | s b => exact rkid_string hx hS hl
  | succ f ih =>
    intro x A w o l k out v1 v2 v3 hkid hf hA hx hS hl
    cases x with
    | s b => exact rkid_string hx hS hl
    | l xs =>
      have hnode := hkid.list
      have hx' := hx
      simp only [ItC] at hx'
      obtain ⟨rfl, rfl, p, c, rfl, h4, hcap⟩ := hx'
      refine calls_gen fun R hR0 => moraineref14_children.vc _ _ _ _ _ _ _ _ _ _ _ _ ?_
      unfold moraineref14_children.Vc
      rintro d4 w1 ⟨rfl, rfl⟩
      have M1 := Mod.alloc (S := NoB) w (.cells #[.bool true, .slice none 0 0, .slice p xs.length c] 138)
      have X1 := Blk.new w 138 #[.bool true, .slice none 0 0, .slice p xs.length c]
      have S1 := hS.mod' M1
      have h41 := ItsC.mod M1 _ h4
      have hD : ¬ OB o w.heap.size := fun hb => by have := hS.lt hb; omega
      have hR : ∀ e w', RKids o (out ++ kidsN (f + 1) (.l xs)) _ e w' → R e w' := fun e w' h => hR0 e w' (RKids.none_mod h M1)
      generalize w.heap.size = D at *
      generalize w.alloc (.cells #[.bool true, .slice none 0 0, .slice p xs.length c] 138) = w1 at *
      clear hx h4 hS M1 hR0
      refine ⟨_, X1.rd1 rfl, fun h => (by cases h), fun _ => ⟨_, _, _, by rw [add_at]; exact X1.rd1 rfl, fun h2 => ?_, fun h2 => ?_⟩⟩
      · have h2' : xs.length = 2 := by omega
        rw [nodeN_two h2'] at hnode
        obtain ⟨g, f0, u1, u2, u3, rfl, hg, e1, e2, e3, hi⟩ := h41.get 0 (by omega)
        have h0e : xs.getD 0 (.s []) = xs[0] := getD_at (by omega)
        have h1e : xs.getD 1 (.s []) = xs[1] := getD_at (by omega)
        have hm0 : xs[0] ∈ xs := List.getElem_mem (by omega)
        have hm1 : xs[1] ∈ xs := List.getElem_mem (by omega)
        cases hq : xs[0] with
        | l ys => rw [h0e, hq] at hnode; simp [headIs] at hnode
        | s bs =>
          rw [hq] at hi
          simp only [ItC] at hi
          obtain ⟨rfl, ⟨ox, cx, rfl, hrx, _⟩, rfl⟩ := hi
          have hbl : bs.length ≤ 2 ^ 20 := by
            have hfx := hf.mem hm0
            rw [hq] at hfx
            have : bs.length ≤ (enc (.s bs)).length := by
              simp only [enc]
              split
              · exact Nat.le_refl _
              · rw [List.length_append]; omega
            have := hfx.2.2
            omega
          refine ⟨_, _, _, by rw [add_at]; exact X1.rd1 rfl, _, rfl, ⟨by decide, by omega⟩, _, _, _, by rw [add_at, add_at]; exact e2, ?_⟩
          refine (rUnpack_calls hrx hbl).mono ?_
          rintro _ w2 ⟨o', k', rfl, M2, R2, _⟩
          have S2 := S1.mod' M2
          have X2 := X1.mod' M2
          rw [h0e, hq] at hnode
          simp only [headIs] at hnode
          cases hu : unpack bs with
          | none => rw [hu] at hnode; cases hnode
          | some r =>
            obtain ⟨pp, lf⟩ := r
            have e : upk bs = (pp, lf, 0) := by unfold upk; rw [hu]
            rw [e]
            rw [hu] at hnode
            refine ⟨_, _, _, _, _, rfl, fun hlf => ?_, fun hlf => ?_⟩
            · dsimp only at hlf; subst hlf
              have hp : headIs (xs.getD 0 (.s [])) = some (pp, true) := by rw [h0e, hq]; exact hu
              rw [kids_leaf h2' hp, List.append_nil] at hR
              exact hR _ _ ⟨_, _, _, rfl, S2, M2.mono (fun _ _ h => h.elim), fun b hb => .inl hb⟩
            · dsimp only at hlf; subst hlf
              have hp : headIs (xs.getD 0 (.s [])) = some (pp, false) := by rw [h0e, hq]; exact hu
              simp only [Bool.and_eq_true] at hnode
              rw [kids_row h2' hp] at hl hR
              rw [h1e] at hnode hl hR
              obtain ⟨g', f0', t1, t2, t3, ho, hg', d1, d2, d3, hi'⟩ := (ItsC.mod M2 _ h41).get 1 (by omega)
              cases ho
              obtain ⟨_, _, _, _, _, _, _, rfl, rfl, rfl⟩ := hi'.vals
              refine ⟨_, _, _, by rw [add_at]; exact X2.rd1 rfl, _, rfl, ⟨by decide, by omega⟩, _, _, _, _, _, _, _, by rw [add_at]; exact d1, by rw [add_at, add_at]; exact d2, by rw [add_at, add_at]; exact d3, ?_⟩
              refine (ih xs[1] (.inr (.inl hnode.2)) (hf.mem hm1) hA hi' S2 hl).mono ?_
              intro e3 w3 h3
              have h3' := RKids.none_mod h3 M2
              obtain ⟨o3, l3, k3, rfl, _⟩ := h3
              exact ⟨_, _, _, rfl, hR _ _ h3'⟩
      · have h17 : xs.length = 17 := by
          by_cases h17 : xs.length = 17
          · exact h17
          · rw [nodeN_no (by omega) h17] at hnode; cases hnode
        have hall : ∀ (j : Nat) (hj : j < 16), isE (xs[j]'(by omega)) = true ∨ refN f (xs[j]'(by omega)) = true := by
          rw [nodeN_many h17] at hnode
          split at hnode
          · cases hnode
          · rw [Bool.and_eq_true, List.all_eq_true] at hnode
            intro j hj
            have := hnode.1 (xs[j]'(by omega)) (by rw [List.mem_take_iff_getElem]; exact ⟨j, by omega, rfl⟩)
            rwa [Bool.or_eq_true] at this
        rw [kids_many (by omega)] at hl hR
        have h42 := ItsC.old _ h41
        refine ⟨fun o' l' k' i w' => ∃ j : Nat, i = (j : Int) ∧ j ≤ 16 ∧ HsOwn w' o' l' k' (out ++ (xs.take j).flatMap (kidsN f)) ∧ Vcg.Mod (OB o) w1 w' ∧ (∀ b, OB o' b → OB o b ∨ w1.heap.size ≤ b), fun _ _ _ i _ => ((16 : Int) - i).toNat, ⟨0, rfl, Nat.zero_le _, by simpa using S1, Mod.refl _, fun b hb => .inl hb⟩, ?_⟩
        rintro o' l' k' _ _ w2 ⟨j, rfl, hj, S2, M2, hO⟩
        have X2 := X1.mod M2 hD
        refine ⟨fun hlt => ?_, fun hge => ?_⟩
        · have hj16 : j < 16 := by omega
          have hjl : j < xs.length := by omega
          have h43 := ItsC.modA M2 (fun b hb => .inl (hA b hb)) _ h42
          obtain ⟨g', f', u1, u2, u3, ho, hg', d1, d2, d3, hij⟩ := h43.get j hjl
          rw [Nat.zero_add] at d1 d2 d3
          obtain ⟨_, _, _, _, _, _, _, rfl, rfl, rfl⟩ := hij.vals
          refine ⟨_, _, _, by rw [add_at]; exact X2.rd1 rfl, _, ho, ⟨by omega, by omega⟩, _, _, _, _, _, _, _, by rw [add_at, Int.toNat_natCast]; exact d1, by rw [add_at, add_at, Int.toNat_natCast]; exact d2, by rw [add_at, add_at, Int.toNat_natCast]; exact d3, ?_⟩
          have e : (xs.take (j + 1)).flatMap (kidsN f) = (xs.take j).flatMap (kidsN f) ++ kidsN f xs[j] := by
            rw [List.take_succ_eq_append_getElem hjl, List.flatMap_append]; simp
          have hle : ((xs.take (j + 1)).flatMap (kidsN f)).length ≤ ((xs.take 16).flatMap (kidsN f)).length := by
            have ht : xs.take 16 = xs.take (j + 1) ++ (xs.take 16).drop (j + 1) := by
              have := List.take_append_drop (j + 1) (xs.take 16)
              rw [List.take_take, Nat.min_eq_left hj16] at this
              exact this.symm
            rw [ht, List.flatMap_append, List.length_append]; omega
          rw [e, List.length_append] at hle
          refine (ih xs[j] ((hall j hj16).imp id .inl) (hf.mem (List.getElem_mem hjl)) (fun b hb => (hO b hb).imp (hA b) id) hij S2 (by rw [List.length_append]; omega)).mono ?_
          rintro _ w3 ⟨o3, l3, k3, rfl, S3, M3, hO3⟩
          rw [List.append_assoc, ← e] at S3
          have hs := M2.size
          refine ⟨_, _, _, rfl, ⟨j + 1, by rw [wrap_i64_small (by omega) (by omega)]; omega, hj16, S3, M2.trans M3 (fun b hb h => (hO b h).resolve_right (by omega)), fun b hb => ?_⟩, by dsimp only; rw [wrap_i64_small (by omega) (by omega)]; omega⟩
          rcases hO3 b hb with h | h
          · exact hO b h
          · exact .inr (by omega)
        · obtain rfl : j = 16 := by omega
          exact hR _ _ ⟨_, _, _, rfl, S2, M2, hO⟩
theorem rChildren_calls {w : World} {o : Option Addr} {k : Nat} {bs : By} (hr : RdB w o bs) (hk : bs.length ≤ k) :
    Calls Try.prog moraineref14_Children.n #[.slice o bs.length k] w (KidsIs bs w) := by
  refine moraineref14_Children.vc _ _ _ _ _ ?_
  unfold moraineref14_Children.Vc
  refine (rCheck_calls hr hk).mono ?_
  rintro _ w1 ⟨rfl, M1⟩
  refine ⟨_, rfl, fun hne => ⟨M1, _, _, _, rfl, by rw [kidsOf_bad hne]; exact HsOwn.nil _⟩, fun h0 => ?_⟩
  refine (rDecode_calls (hr.mod' M1) hk).mono ?_
  rintro e w2 ⟨M2, hd⟩
  unfold DecodeIs at hd
  cases hdc : dcod bs with
  | error x =>
    rw [hdc] at hd
    obtain ⟨hx, _⟩ := hd
    unfold checkOf at h0
    rw [hdc] at h0
    exact (hx h0).elim
  | ok x =>
    rw [hdc] at hd
    obtain ⟨v1, v2, v3, rfl, hx⟩ := hd
    obtain ⟨b, p1, q1, r1, p2, q2, r2, rfl, rfl, rfl⟩ := hx.vals
    have hf := fine_of hdc
    have hn : isN 17 x = true := by
      unfold checkOf at h0
      rw [hdc] at h0
      simp only at h0
      by_cases hn : isN 17 x = true
      · exact hn
      · rw [if_neg hn] at h0; exact absurd h0 (by decide)
    refine ⟨_, _, _, _, _, _, _, _, rfl, ?_⟩
    rintro d2 w3 ⟨rfl, rfl⟩
    have H := Blk.new w2 138 #[.bool false, .slice none 0 0, .slice none 0 0]
    refine set3 H rfl rfl rfl (fun w4 H4 Q4 => ?_)
    have M24 : Vcg.Mod NoB w2 w4 := mod_of (Mod.alloc w2 _) Q4 (Nat.le_refl _)
    refine get3 H4 ?_
    have hkl := kids_len 17 x
    have hcnt := hf.2.1
    refine (rkids_calls 17 x (out := []) (.inr (.inr hn)) hf (fun b hb => (OB_none b hb).elim) (ItC.mod M24 _ hx) (HsOwn.nil _) (by simp; omega)).mono ?_
    rintro _ w5 ⟨o5, l5, k5, rfl, H5, M5, _⟩
    refine ⟨_, _, _, rfl, ((M1.none_trans M2).none_trans M24).none_trans (M5.mono (fun _ _ h => OB_none _ h)), _, _, _, by rw [h0], ?_⟩
    rw [kidsOf_ok hdc hn]; exact H5
theorem Hashes_calls {w : World} {o o' : Option Addr} {l k l' k' : Nat} {hs : List By} (h : HsOwn w o l k hs) (h' : HsOwn w o' l' k' hs) (h32 : ∀ x ∈ hs, x.length = 32) (hl : hs.length ≤ 2 ^ 20) :
    Calls Try.prog morainehelp_Hashes.n #[.slice o l k, .slice o' l' k'] w (fun e w' => e = .returned (.bool true) ∧ Vcg.Mod NoB w w') := by
  obtain ⟨rfl, _⟩ := id h
  obtain ⟨rfl, _⟩ := id h'
  refine morainehelp_Hashes.vc _ _ _ _ _ _ _ _ ?_
  unfold morainehelp_Hashes.Vc
  refine ⟨fun hne => (hne rfl).elim, fun _ => ⟨fun i w' => ∃ j : Nat, i = (j : Int) ∧ j ≤ hs.length ∧ Vcg.Mod NoB w w', fun i _ => ((hs.length : Int) - i).toNat, ⟨0, rfl, Nat.zero_le _, Mod.refl w⟩, ?_⟩⟩
  rintro _ _ w1 ⟨j, rfl, hj, M1⟩
  refine ⟨fun hlt => ?_, fun hge => ⟨rfl, M1⟩⟩
  rintro _ rfl
  have hjl : j < hs.length := by omega
  have M2 := M1.step_drew
  obtain ⟨g, rfl, hg⟩ := (h.mod' M2).row hjl
  obtain ⟨g', rfl, hg'⟩ := (h'.mod' M2).row hjl
  have h32j := h32 _ (List.getElem_mem hjl)
  refine ⟨_, rfl, ⟨by omega, by omega⟩, _, by rw [add_at, Int.toNat_natCast, Nat.zero_add]; exact hg, _, rfl, ⟨by omega, by omega⟩, _, by rw [add_at, Int.toNat_natCast, Nat.zero_add]; exact hg', _, hash_ne _ _ h32j h32j, _, rfl, fun hb => ?_, fun _ => ?_⟩
  · simp at hb
  · exact ⟨⟨j + 1, by rw [wrap_i64_small (by omega) (by omega)]; omega, by omega, M2⟩, by dsimp only; rw [wrap_i64_small (by omega) (by omega)]; omega⟩
theorem Forms_calls (w : World) {o : Option Addr} {k : Nat} {bs : By} (hr : RdB w o bs) (hk : bs.length ≤ k) :
    Calls Try.prog morainelaw14_TrieForms.n #[.slice o bs.length k] w (fun e w' => e = .returned (.bool true) ∧ Vcg.Mod NoB w w') := by
  refine morainelaw14_TrieForms.vc _ _ _ _ _ ?_
  unfold morainelaw14_TrieForms.Vc
  refine (known14_calls w).mono ?_
  rintro _ w1 ⟨rfl, M1⟩
  refine ⟨_, rfl, fun h => (by cases h), fun _ => ⟨fun _ => ⟨rfl, M1⟩, fun _ => ?_⟩⟩
  refine (Children_calls (hr.mod' M1) hk).mono ?_
  rintro _ w2 ⟨M2, o2, l2, k2, rfl, H2⟩
  have M02 := M1.none_trans M2
  refine ⟨_, _, _, _, rfl, ?_⟩
  refine (rChildren_calls (hr.mod' M02) hk).mono ?_
  rintro _ w3 ⟨M3, o3, l3, k3, rfl, H3⟩
  have M03 := M02.none_trans M3
  refine ⟨_, _, _, _, rfl, fun _ => ?_, fun h => (h rfl).elim⟩
  refine (Hashes_calls (H2.mod' M3) H3 (kidsOf_32 bs) (kidsOf_len bs)).mono ?_
  rintro _ w4 ⟨rfl, M4⟩
  have M04 := M03.none_trans M4
  refine ⟨_, rfl, fun _ => ?_, fun h => (by cases h)⟩
  refine (Check_calls (hr.mod' M04) hk).mono ?_
  rintro _ w5 ⟨rfl, M5⟩
  have M05 := M04.none_trans M5
  refine ⟨_, rfl, ?_⟩
  refine (rCheck_calls (hr.mod' M05) hk).mono ?_
  rintro _ w6 ⟨rfl, M6⟩
  exact ⟨_, rfl, by rw [decide_eq_true rfl], M05.none_trans M6⟩
end Go.Proofs.Ytfghidehlnfdiaa
end
