/- Contracts of the reference: a row's item. -/
/- Contracts of the reference: a branch's item; all items. -/
/- Contracts of the reference: made, Of. -/
/- Contracts of the reference: Put, Find; the plain map. -/
/- The sorted map and its trie: plain Lean. -/
/- Contracts: Find, Nodes, things held against one another. -/
/- States as lists; a round looks at 25 lanes alone. -/
/- The document's example: the law's own check of it. -/
/- The verification conditions of some functions, printed by a program of ours (wip/PrintVc.lean). -/
/- Unpacking a path, both ways. -/
import Derived.Test.YtfghidehlnfdiaaTR6
import Derived.Test.YtfghidehlnfdiaaTP18
import Derived.Test.YtfghidehlnfdiaaProg
import Derived.KernelRfl
import Derived.Test.YtfghidehlnfdiaaXRef
set_option linter.unusedVariables false
set_option linter.unusedSimpArgs false
section
namespace Go.Proofs.Ytfghidehlnfdiaa
open Go Go.Vcg Go.Trie
theorem item_rowB {c : Nd} (hRef : RefB c) {p : By} (hc : Canon (.row p c)) : ItemB (.row p c) := by
  intro w L d0 a b i es out hB hE hok hR hl
  refine calls_gen fun R hR' => moraineref14_build_item.vc _ _ _ _ _ _ ?_
  unfold moraineref14_build_item.Vc
  have hab := hok.lt
  have hbl := hok.le
  have hla := hE.len
  have ha : a < es.length := by omega
  have hi := hok.len a ha (Nat.le_refl _) hab
  have hpl := hE.paths _ (List.getElem_mem ha)
  obtain ⟨k1, v1, k2, v2, g1, g2, hne⟩ := two_row hc
  have h2 := hR.two g1 g2 hne
  rw [seg_len hbl] at h2
  have hsh := hR.shared_row hc (seg_head hok) (seg_last hok)
  obtain ⟨hpre, hRc⟩ := hR.row
  have hpre1 := hpre _ (List.mem_of_mem_head? (seg_head hok))
  have hp1 : 1 ≤ p.length := List.length_pos_iff.2 hc.1
  have hd : (es[a].1.drop i).length = es[a].1.length - i := List.length_drop
  have hple := hpre1.length_le
  simp only at hsh hple
  rw [← seg_add] at hRc
  have htake : (es[a].1.drop i).take p.length = p := (List.prefix_iff_eq_take.1 hpre1).symm
  have hok' : Okseg es a b (i + p.length) := by
    refine ⟨hab, hbl, fun j hj h1 h2 => ?_⟩
    have := (hpre _ (mem_seg (i := i) hbl h1 h2)).length_le
    simp only [List.length_drop] at this
    have := hok.len j hj h1 h2
    omega
  have hpk := packed_le p false (by omega)
  refine ⟨fun h => absurd h (by rw [wrap_i64_small (by omega) (by omega)]; omega), fun _ => ⟨fun n w' => n = (p.length : Int) ∧ Vcg.Mod NoB w w', loop_j hB hok hE.paths hE.len (by omega) (fun w' M => ⟨by rw [hsh], M⟩), ?_⟩⟩
  rintro _ _ w1 ⟨rfl, M1⟩
  refine ⟨fun _ => ?_, fun h => absurd h (by omega)⟩
  have B1 := hB.mod' M1 5
  obtain ⟨op, cp, pb, pf, o, k, h1, rfl, h2, h3, h4, h5⟩ := B1.path ha hi
  have ew : IntKind.wrap .i64 ((i : Int) + (p.length : Int)) = ((i + p.length : Nat) : Int) := by rw [wrap_i64_small (by omega) (by omega)]; omega
  simp only [ew, add_at, Nat.zero_add, Int.toNat_natCast]
  refine ⟨_, _, _, h1, _, rfl, ⟨by omega, by omega⟩, _, _, _, by rw [add_at]; exact h2, ⟨by omega, by omega⟩, ⟨by omega, by omega⟩, ?_⟩
  have hpr := h5.rd.take p.length
  rw [htake] at hpr
  have hP := rPack_calls (k := k - i) hpr (by omega) false
  rw [show i + p.length - i = p.length by omega]
  refine hP.mono ?_
  rintro _ w2 ⟨o2, k2, rfl, F2⟩
  refine ⟨_, _, _, _, rfl, ?_⟩
  refine (str_calls (b := packed p false) (fresh_bytes F2) (by omega)).mono ?_
  rintro _ w3 ⟨o3, k3, rfl, F3⟩
  have M03 := (M1.trans F2.mod (fun _ _ h => h)).trans F3.mod (fun _ _ h => h)
  have F03 := Fresh.from_ F3 (M1.trans F2.mod (fun _ _ h => h))
  have B3 := hB.mod' M03 (8 + i)
  obtain ⟨O3, s3⟩ := F03.done (lab := L) (8 + i)
  generalize ext L w.heap.size (8 + i) = L3 at *
  refine ⟨_, _, _, rfl, ?_⟩
  have hcnt : cnt (.row p c) = 1 + cnt c := rfl
  refine (hRef B3 hE hok' hRc (by omega)).mono ?_
  rintro _ w4 ⟨o4, k4, rfl, L4, s4, B4, x4⟩
  have O4 := O3.stp s4 (by rintro (h | h | h) <;> omega)
  have q1 := enc_s_le (packed p false)
  have q2 := ref_le c
  obtain ⟨o5, k5, w5, hr5, O5, s5⟩ := push_col (ty := tSlU8) (k2 := k4) O4 x4.rd (by omega)
  have B5 := B4.stp s5 (by omega) (by omega) (by omega) (by omega) (by omega)
  generalize ext L4 w4.heap.size (8 + i) = L5 at *
  refine ⟨_, _, _, rfl, _, w5, hr5, _, _, _, rfl, ?_⟩
  have hL := rList_calls (k := k5) O5.own.bytes (by rw [List.length_append]; omega)
  rw [List.length_append] at hL
  refine hL.mono ?_
  rintro _ w6 ⟨o6, k6, rfl, F6⟩
  have e6 : Trie.head ((enc (.s (packed p false))).length + (enc (refOf c)).length) 192 ++ (enc (.s (packed p false)) ++ enc (refOf c)) = bytesOf (.row p c) := by
    simp only [bytesOf, itemOf]
    rw [enc2]; rfl
  rw [e6] at F6 ⊢
  refine ⟨_, _, _, rfl, hR' _ _ ⟨o6, k6, rfl, _, ?_, B5.mod' F6.mod 5, fresh_cby F6 (Mod.refl _), F6.own.cap.1⟩⟩
  have s6 : Stp NoS w5 L5 w6 (ext L5 w5.heap.size 5) := Stp.of_nob F6.mod 5
  exact (((s3.mono (fun _ h => h.elim)).trans (s4.mono (fun k h => by rcases h with h | h | h; exact .inl h; exact .inr (.inl h); exact .inr (.inr (by omega))))).trans (s5.mono (fun k h => .inr (.inr (by omega))))).trans (s6.mono (fun _ h => h.elim))
end Go.Proofs.Ytfghidehlnfdiaa
end
section
namespace Go.Trie
theorem sum_take {f : Fin 16 → Nat} {j : Nat} (hj : j < 16) : (((List.finRange 16).take j).map f).sum + f ⟨j, hj⟩ ≤ ((List.finRange 16).map f).sum := by
  have e := congrArg List.sum (congrArg (List.map f) (List.take_append_drop j (List.finRange 16)))
  rw [List.map_append, List.sum_append] at e
  have e2 : (List.finRange 16).drop j = ⟨j, hj⟩ :: (List.finRange 16).drop (j + 1) := by
    rw [List.drop_eq_getElem_cons (by simpa using hj)]
    simp
  rw [e2, List.map_cons, List.sum_cons] at e
  omega
theorem fin_take {j : Nat} (hj : j < 16) : (List.finRange 16).take (j + 1) = (List.finRange 16).take j ++ [⟨j, hj⟩] := by
  rw [List.take_add_one, List.getElem?_eq_getElem (by simpa using hj)]
  simp
theorem headLt_mono {a b : Nat} {p : By} (h : headLt a p) (hab : a ≤ b) : headLt b p := by
  cases p with
  | nil => trivial
  | cons c r => exact Nat.lt_of_lt_of_le h hab
end Go.Trie
namespace Go.Proofs.Ytfghidehlnfdiaa
open Go Go.Vcg Go.Trie
theorem enc_l (xs : List It) : enc (.l xs) = Trie.head (encs xs).length 192 ++ encs xs := by simp only [enc]
theorem item_branchB {cs : Fin 16 → Nd} {v : By} (hRef : ∀ i, RefB (cs i)) (hc : Canon (.branch cs v)) : ItemB (.branch cs v) := by
  intro w0 L0 d0 a b i es out hB0 hE hok hR hl
  refine calls_gen fun R hR' => moraineref14_build_item.vc _ _ _ _ _ _ ?_
  unfold moraineref14_build_item.Vc
  have hab := hok.lt
  have hbl := hok.le
  have hla := hE.len
  have ha : a < es.length := by omega
  have hi := hok.len a ha (Nat.le_refl _) hab
  have hpl := hE.paths _ (List.getElem_mem ha)
  obtain ⟨k1, v1, k2, v2, g1, g2, hne⟩ := two_keys hc trivial
  have h2 := hR.two g1 g2 hne.1
  rw [seg_len hbl] at h2
  have hsh := hR.parts hc trivial (seg_head hok) (seg_last hok)
  simp only at hsh
  refine ⟨fun h => absurd h (by rw [wrap_i64_small (by omega) (by omega)]; omega), fun _ => ⟨fun n w' => n = 0 ∧ Vcg.Mod NoB w0 w', loop_j hB0 hok hE.paths hE.len (by omega) (fun w' M => ⟨by rw [hsh]; rfl, M⟩), ?_⟩⟩
  rintro _ _ w ⟨rfl, M0⟩
  refine ⟨fun h => absurd h (by omega), fun _ => ?_⟩
  have hB := hB0.mod' M0 5
  have sM : Stp NoS w0 L0 w (ext L0 w0.heap.size 5) := Stp.of_nob M0 5
  generalize ext L0 w0.heap.size 5 = L at *
  obtain ⟨hv1, hv2, hv3⟩ := hR.value (seg_cons hok)
  simp only at hv1 hv2
  obtain ⟨op, cp, pb, pf, o, k, h1, rfl, h2', h3, h4, h5⟩ := hB.path ha hi
  obtain ⟨ol, cl, vb, vf, ov, kv, f1, rfl, f2, f3⟩ := hB.val ha
  simp only [add_at, Nat.zero_add, Int.toNat_natCast]
  refine ⟨fun n o' l' k' w' => w' = w ∧ ∃ m : Nat, n = (m : Int) ∧ a ≤ m ∧ m ≤ a + 1 ∧ l' = v.length ∧ CBy w L 6 o' v ∧ (∀ y ∈ seg es a m i, headLt 0 y.1) ∧ (∀ y ∈ seg es m b i, headGe 0 y.1), ?_, ?_⟩
  · refine ⟨_, _, _, h1, _, rfl, ⟨by omega, by omega⟩, _, _, _, by rw [add_at]; exact h2', fun he => ?_, fun he => ?_⟩
    · have hd0 : es[a].1.drop i = [] := List.drop_eq_nil_of_le (by omega)
      have hvv := hv1 hd0
      refine ⟨_, _, _, f1, _, rfl, ⟨by omega, by omega⟩, _, _, _, by rw [add_at, add_at, Nat.add_assoc]; exact f2, rfl, a + 1, by rw [wrap_i64_small (by omega) (by omega)]; omega, by omega, Nat.le_refl _, by rw [hvv], by rw [hvv]; exact f3, ?_, ?_⟩
      · intro y hy
        obtain ⟨j, hj, q1, q2, rfl⟩ := seg_mem (by omega) hy
        obtain rfl : j = a := by omega
        rw [hd0]; trivial
      · intro y hy
        have := hv3 y hy
        cases hy1 : y.1 with
        | nil => exact (this hy1).elim
        | cons c r => exact Nat.zero_le _
    · have hdne : es[a].1.drop i ≠ [] := fun e => by
        have := congrArg List.length e
        rw [List.length_drop] at this
        simp at this; omega
      have hvv := hv2 hdne
      refine ⟨rfl, a, rfl, Nat.le_refl _, by omega, by rw [hvv]; rfl, by rw [hvv]; exact CBy.nil _ _ _ _, ?_, ?_⟩
      · rw [seg_nil]; intro y hy; cases hy
      · intro y hy
        rw [seg_cons hok] at hy
        rcases List.mem_cons.1 hy with rfl | hy
        · cases hdd : es[a].1.drop i with
          | nil => exact (hdne hdd).elim
          | cons c r => exact Nat.zero_le _
        · have := hv3 y hy
          cases hy1 : y.1 with
          | nil => exact (this hy1).elim
          | cons c r => exact Nat.zero_le _
  · rintro _ o133 _ c133 _ w ⟨rfl, m0, rfl, hm1, hm2, rfl, hval, hlt0, hge0⟩
    let pay : Nat → By := fun x => encs (((List.finRange 16).take x).map fun i => wrapRef (itemOf (cs i)))
    let outs : Nat → List (By × By) := fun x => ((List.finRange 16).take x).foldl (fun o i => visitN (cs i) false o) out
    have hpay : ∀ x, (pay x).length ≤ 41 * 16 := fun x => by
      have h1 := encs_map_le cs ((List.finRange 16).take x)
      have h2 : ((List.finRange 16).take x).length ≤ 16 := by rw [List.length_take, List.length_finRange]; omega
      simp only [pay]; omega
    refine ⟨fun o l k n m w' => ∃ x at_ : Nat, m = (x : Int) ∧ x ≤ 16 ∧ n = (at_ : Int) ∧ a ≤ at_ ∧ at_ ≤ b ∧ (∀ y ∈ seg es a at_ i, headLt x y.1) ∧ (∀ y ∈ seg es at_ b i, headGe x y.1) ∧ l = (pay x).length ∧ ∃ L', Stp (SI i) w L w' L' ∧ BS w' L' d0 es (outs x) ∧ COw w' L' (8 + i) tU8 1 o l k ((pay x).map bV),
      fun _ _ _ _ m _ => ((16 : Int) - m).toNat, ⟨0, m0, rfl, Nat.zero_le _, rfl, hm1, by omega, hlt0, hge0, rfl, L, Stp.refl _ _ _, hB, COw.nil _ _ _ _ _⟩, ?_⟩
    rintro o136 _ c136 _ _ _ w1 ⟨x, m, rfl, hx, rfl, hma, hmb, hlt, hge, rfl, L1, s1, B1, O1⟩
    refine ⟨fun hx16 => ?_, fun hx16 => ?_⟩
    · have hx' : x < 16 := by omega
      have hxb : (UInt8.ofNat x).toNat = x := by rw [UInt8.toNat_ofNat']; omega
      refine ⟨fun n w' => w' = w1 ∧ ∃ e : Nat, n = (e : Int) ∧ m ≤ e ∧ e ≤ b ∧ (∀ y ∈ seg es m e i, ∃ r, y.1 = UInt8.ofNat x :: r) ∧ (∀ y, (seg es e b i).head? = some y → ∀ c r, y.1 = c :: r → c.toNat ≠ x), ?_, ?_⟩
      · refine ⟨fun n w' => w' = w1 ∧ ∃ e : Nat, n = (e : Int) ∧ m ≤ e ∧ e ≤ b ∧ (∀ y ∈ seg es m e i, ∃ r, y.1 = UInt8.ofNat x :: r), fun n _ => ((b : Int) - n).toNat, ⟨rfl, m, rfl, Nat.le_refl _, hmb, by rw [seg_nil]; intro y hy; cases hy⟩, ?_⟩
        rintro _ _ w1 ⟨rfl, e, rfl, he1, he2, hrun⟩
        refine ⟨fun heb => ?_, fun heb => ⟨rfl, e, rfl, he1, he2, hrun, by rw [show e = b by omega, seg_nil]; intro y hy; cases hy⟩⟩
        have heb' : e < b := by omega
        have hel : e < es.length := by omega
        have hei := hok.len e hel (by omega) heb'
        have hepl := hE.paths _ (List.getElem_mem hel)
        have hgee := hge _ (mem_seg (i := i) hbl he1 heb')
        have hok_e : Okseg es e b i := ⟨heb', hbl, fun j hj q1 q2 => hok.len j hj (by omega) q2⟩
        obtain ⟨op, cp, pb, pf, o, k, h1, rfl, h2', h3, h4, h5⟩ := B1.path hel hei
        cases hdd : es[e].1.drop i with
        | nil => simp only [hdd] at hgee; exact hgee.elim
        | cons c r =>
          have hile : i < es[e].1.length := by
            have := congrArg List.length hdd
            rw [List.length_drop] at this
            simp at this; omega
          have hci : es[e].1[i] = c := by
            have := List.drop_eq_getElem_cons hile
            rw [hdd] at this
            exact (List.cons.inj this).1.symm
          obtain ⟨qb, qf, rfl, hqb, hqc⟩ := rdb_get h4.rd hile
          rw [hci] at hqc
          have hc256 : c.toNat < 256 := c.toNat_lt
          refine ⟨_, _, _, h1, _, rfl, ⟨by omega, by omega⟩, _, _, _, by rw [add_at, Int.toNat_natCast]; exact h2', _, rfl, ⟨by omega, by omega⟩, _, by rw [add_at]; exact hqc, fun hq => ?_, fun hq => ?_⟩
          · rw [wrap_i64_small (by omega) (by omega)] at hq
            have hcx : c = UInt8.ofNat x := by apply UInt8.toNat_inj.1; rw [hxb]; omega
            refine ⟨⟨rfl, e + 1, by rw [wrap_i64_small (by omega) (by omega)]; omega, by omega, by omega, ?_⟩, by dsimp only; rw [wrap_i64_small (by omega) (by omega)]; omega⟩
            intro y hy
            rw [seg_split he1 (Nat.le_succ e)] at hy
            rcases List.mem_append.1 hy with hy | hy
            · exact hrun y hy
            · obtain ⟨j, hj, q1, q2, rfl⟩ := seg_mem (by omega) hy
              obtain rfl : j = e := by omega
              exact ⟨r, by rw [hdd, hcx]⟩
          · rw [wrap_i64_small (by omega) (by omega)] at hq
            refine ⟨rfl, e, rfl, he1, he2, hrun, ?_⟩
            rw [seg_head hok_e]
            rintro y hy c' r' hy1
            cases hy
            simp only [hdd] at hy1
            cases hy1
            omega
      · rintro _ _ w1 ⟨rfl, e, rfl, he1, he2, hrun, hstop⟩
        have hspl : seg es a b i = seg es a m i ++ (seg es m e i ++ seg es e b i) := by rw [← seg_split he1 he2, ← seg_split hma hmb]
        have hpw : (seg es m b i).Pairwise (fun x y => ltB x.1 y.1) := by
          have := hR.1
          rw [seg_split hma hmb] at this
          exact (List.pairwise_append.1 this).2.1
        have hge' := rest_ge hpw (seg_split he1 he2) hge hstop
        have hkid := hR.kid ⟨x, hx'⟩ hspl hlt hrun hge'
        rw [← seg_add] at hkid
        have hlt' : ∀ y ∈ seg es a e i, headLt (x + 1) y.1 := by
          intro y hy
          rw [seg_split hma he1] at hy
          rcases List.mem_append.1 hy with hy | hy
          · exact headLt_mono (hlt y hy) (Nat.le_succ x)
          · obtain ⟨r, hr⟩ := hrun y hy
            rw [hr]
            show (UInt8.ofNat x).toNat < x + 1
            omega
        have epay : pay (x + 1) = pay x ++ enc (refOf (cs ⟨x, hx'⟩)) := by
          simp only [pay]
          rw [fin_take hx', List.map_append, encs_append]
          simp only [List.map_cons, List.map_nil, encs, List.append_nil]
          rfl
        have eout : outs (x + 1) = visitN (cs ⟨x, hx'⟩) false (outs x) := by
          simp only [outs]
          rw [fin_take hx', List.foldl_append]
          rfl
        have ewx : IntKind.wrap .i64 ((x : Int) + 1) = ((x + 1 : Nat) : Int) := by rw [wrap_i64_small (by omega) (by omega)]; omega
        rw [ewx]
        have hpx := hpay x
        refine ⟨fun hem => ?_, fun hem => ?_⟩
        · obtain rfl : e = m := by omega
          rw [seg_nil] at hkid
          have hnil := hkid.nil_inv (hc.1 _)
          rintro d w2 ⟨rfl, rfl⟩
          have M2 := Mod.alloc (S := NoB) w1 (.cells #[.int .u8 128] 5)
          have r2 := one_u8 w1
          have B2 := B1.mod' M2 5
          have s2 : Stp NoS w1 L1 _ (ext L1 w1.heap.size 5) := Stp.of_nob M2 5
          have O2 := O1.stp s2 (fun h => h)
          generalize w1.alloc (.cells #[.int .u8 128] 5) = w2 at *
          generalize ext L1 w1.heap.size 5 = L2 at *
          obtain ⟨o5, k5, w5, hr5, O5, s5⟩ := push_col (ty := tSlU8) (k2 := 1) O2 r2 (by simp; omega)
          have B5 := B2.stp s5 (by omega) (by omega) (by omega) (by omega) (by omega)
          have e128 : enc (refOf .nil) = [128] := by
            unfold refOf wrapRef
            rw [if_neg (by simp [itemOf, enc, own, Trie.head])]
            exact bytes_nil
          rw [hnil, e128] at epay
          rw [hnil] at eout
          simp only [visitN] at eout
          refine ⟨_, w5, hr5, _, _, _, rfl, ⟨x + 1, e, rfl, by omega, rfl, hma, hmb, hlt', hge', by rw [epay, List.length_append], _, (s1.trans (s2.mono (fun _ h => h.elim))).trans (s5.mono (fun k h => .inr (.inr (by omega)))), by rw [eout]; exact B5, ?_⟩, by dsimp only; omega⟩
          rw [epay]; exact O5
        · have hme : m < e := by omega
          have hok_k : Okseg es m e (i + 1) := by
            refine ⟨hme, by omega, fun j hj q1 q2 => ?_⟩
            obtain ⟨r, hr⟩ := hrun _ (mem_seg (i := i) (by omega : e ≤ es.length) q1 q2)
            have := congrArg List.length hr
            simp only [List.length_drop, List.length_cons] at this
            omega
          have ewi : IntKind.wrap .i64 ((i : Int) + 1) = ((i + 1 : Nat) : Int) := by rw [wrap_i64_small (by omega) (by omega)]; omega
          rw [ewi]
          have hsum := sum_take (f := fun i => cnt (cs i)) hx'
          have hlen := foldl_len (cs := cs) (fun i out => visitN_len (cs i) false out) ((List.finRange 16).take x) out
          have hcnt : cnt (.branch cs v) = 1 + ((List.finRange 16).map fun i => cnt (cs i)).sum := rfl
          refine (hRef ⟨x, hx'⟩ B1 hE hok_k hkid (by show (outs x).length + _ ≤ _; simp only [outs]; omega)).mono ?_
          rintro _ w4 ⟨o4, k4, rfl, L4, s4, B4, x4⟩
          have O4 := O1.stp s4 (by rintro (h | h | h) <;> omega)
          have q2 := ref_le (cs ⟨x, hx'⟩)
          obtain ⟨o5, k5, w5, hr5, O5, s5⟩ := push_col (ty := tSlU8) (k2 := k4) O4 x4.rd (by omega)
          have B5 := B4.stp s5 (by omega) (by omega) (by omega) (by omega) (by omega)
          refine ⟨_, _, _, rfl, _, w5, hr5, _, _, _, rfl, ⟨x + 1, e, rfl, by omega, rfl, by omega, he2, hlt', hge', by rw [epay, List.length_append], _, (s1.trans (s4.mono (fun k h => by rcases h with h | h | h; exact .inl h; exact .inr (.inl h); exact .inr (.inr (by omega))))).trans (s5.mono (fun k h => .inr (.inr (by omega)))), by rw [eout]; exact B5, ?_⟩, by dsimp only; omega⟩
          rw [epay]; exact O5
    · obtain rfl : x = 16 := by omega
      have hval1 := hval.stp s1 SI_notin.2.1
      have hvl : v.length ≤ 1024 := by
        by_cases hv0 : v = []
        · rw [hv0]; simp
        · have := (hR.2 [] v).1 (by rw [get_branch_nil, if_neg hv0])
          obtain ⟨j, hj, _, _, he⟩ := seg_mem hbl this
          have := hE.vals _ (List.getElem_mem hj)
          rw [← (Prod.mk.inj he).2] at this
          exact this
      refine (str_calls (k := c133) hval1.rd (by omega)).mono ?_
      rintro _ w2 ⟨o2, k2, rfl, F2⟩
      have B2 := B1.mod' F2.mod 5
      have s2 : Stp NoS w1 L1 w2 (ext L1 w1.heap.size 5) := Stp.of_nob F2.mod 5
      have O2 := O1.stp s2 (fun h => h)
      generalize ext L1 w1.heap.size 5 = L2 at *
      have q1 := enc_s_le v
      have hp16 := hpay 16
      obtain ⟨o5, k5, w5, hr5, O5, s5⟩ := push_col (ty := tSlU8) (k2 := k2) O2 (fresh_bytes F2) (by omega)
      have B5 := B2.stp s5 (by omega) (by omega) (by omega) (by omega) (by omega)
      generalize ext L2 w2.heap.size (8 + i) = L5 at *
      refine ⟨_, _, _, rfl, _, w5, hr5, _, _, _, rfl, ?_⟩
      have hL := rList_calls (k := k5) O5.own.bytes (by rw [List.length_append]; omega)
      rw [List.length_append] at hL
      refine hL.mono ?_
      rintro _ w6 ⟨o6, k6, rfl, F6⟩
      have e6 : Trie.head ((pay 16).length + (enc (.s v)).length) 192 ++ (pay 16 ++ enc (.s v)) = bytesOf (.branch cs v) := by
        simp only [bytesOf, itemOf, pay]
        rw [List.take_of_length_le (by simp), enc_l, encs_append]
        simp only [encs, List.append_nil, List.length_append]
      rw [e6] at F6 ⊢
      have eo : outs 16 = kidsN (.branch cs v) out := by simp only [outs, kidsN]; rw [List.take_of_length_le (by simp)]
      rw [eo] at B5
      refine ⟨_, _, _, rfl, hR' _ _ ⟨o6, k6, rfl, _, ?_, B5.mod' F6.mod 5, fresh_cby F6 (Mod.refl _), F6.own.cap.1⟩⟩
      have s6 : Stp NoS w5 L5 w6 (ext L5 w5.heap.size 5) := Stp.of_nob F6.mod 5
      exact ((((sM.mono (fun _ h => h.elim)).trans s1).trans (s2.mono (fun _ h => h.elim))).trans (s5.mono (fun k h => .inr (.inr (by omega))))).trans (s6.mono (fun _ h => h.elim))
theorem items_B : ∀ (n : Nd), Canon n → Small n → n ≠ .nil → ItemB n ∧ RefB n
  | .nil, _, _, h => (h rfl).elim
  | .leaf p v, hc, hs, hn => ⟨item_leafB p v, ref_of (item_leafB p v) hn hs⟩
  | .row p c, hc, hs, hn => by
    have hcn : c ≠ .nil := by rintro rfl; exact hc.2.2.1
    have hI := item_rowB (items_B c hc.2.2.2 hs.2 hcn).2 hc
    exact ⟨hI, ref_of hI hn hs⟩
  | .branch cs v, hc, hs, hn => by
    have hk : ∀ i, RefB (cs i) := fun i => by
      by_cases hcn : cs i = .nil
      · rw [hcn]
        intro w L d0 a b j es out hB hE hok hR hl
        have := congrArg List.length (show seg es a b j = [] from by
          cases hs : seg es a b j with
          | nil => rfl
          | cons y r => exact absurd rfl (hR.ne (by rw [hs]; simp)))
        rw [seg_len hok.le] at this
        have := hok.lt
        simp at *; omega
      · exact (items_B (cs i) (hc.1 i) (hs.2 i) hcn).2
    have hI := item_branchB hk hc
    exact ⟨hI, ref_of hI hn hs⟩
end Go.Proofs.Ytfghidehlnfdiaa
end
section
namespace Go.Proofs.Ytfghidehlnfdiaa
open Go Go.Vcg Go.Trie
theorem und_slSl : Try.prog.underlying 31 = some (.slice tSlU8) := by kernel_rfl
theorem info_slU8 : (Try.prog.info? tSlU8).map (fun i => (i.zero, i.size, i.bytes)) = some (some (.slice none 0 0), 1, 24) := by kernel_rfl
section
variable {C C' : Type} {S : C → Prop} {w w' : World} {lab : Nat → C} {lab' : Nat → C'} {lab2 : Nat → C} {c : C} {c' : C'}
def KvRow (w : World) (lab : Nat → C) (c : C) (o : Option Addr) (m : List (By × By)) : Prop :=
  ∀ (j : Nat) (hj : j < m.length), ∃ b f ok kk ov kv, o = some ⟨b, f, none⟩ ∧ b < w.heap.size ∧ lab b = c ∧ w.cell? ⟨b, f + j * 2, none⟩ = some (.slice ok m[j].1.length kk) ∧ CBy w lab c ok m[j].1 ∧ w.cell? ⟨b, f + (j * 2 + 1), none⟩ = some (.slice ov m[j].2.length kv) ∧ CBy w lab c ov m[j].2
theorem KvRow.stp {o : Option Addr} {m : List (By × By)} (h : KvRow w lab c o m) (s : Stp S w lab w' lab2) (hs : ¬ S c) : KvRow w' lab2 c o m := fun j hj => by
  obtain ⟨b, f, ok, kk, ov, kv, e1, e2, e3, e4, e5, e6, e7⟩ := h j hj
  exact ⟨b, f, ok, kk, ov, kv, e1, Nat.lt_of_lt_of_le e2 s.size, (s.lab b e2).trans e3, (World.cell?_of_block (s.block b e2 (by rw [e3]; exact hs))).trans e4, e5.stp s hs, (World.cell?_of_block (s.block b e2 (by rw [e3]; exact hs))).trans e6, e7.stp s hs⟩
theorem KvRow.re {o : Option Addr} {m : List (By × By)} (h : KvRow w lab c o m) (hl : ∀ k, k < w.heap.size → lab k = c → lab' k = c') : KvRow w lab' c' o m := fun j hj => by
  obtain ⟨b, f, ok, kk, ov, kv, e1, e2, e3, e4, e5, e6, e7⟩ := h j hj
  exact ⟨b, f, ok, kk, ov, kv, e1, e2, hl b e2 e3, e4, CBy.re e5 hl, e6, CBy.re e7 hl⟩
noncomputable def labB (lab : Nat → C) (c : C) (N d : Nat) : Nat → Nat := fun k => if k < N then (@ite Nat (lab k = c) (Classical.propDecidable _) 6 0) else if k = d then 1 else if k = N then 2 else 5
theorem labB_old {N d k : Nat} (h : k < N) : labB lab c N d k = 6 ∨ labB lab c N d k = 0 := by
  unfold labB
  rw [if_pos h]
  split
  · exact .inl rfl
  · exact .inr rfl
theorem labB_in {N d k : Nat} (h : k < N) (hc : lab k = c) : labB lab c N d k = 6 := by
  unfold labB
  rw [if_pos h, if_pos hc]
def pathsOf (m : List (By × By)) : List (By × By) := m.map fun e => (nibbles e.1, e.2)
theorem seg_all (es : List (By × By)) : seg es 0 es.length 0 = es := by
  unfold seg
  rw [List.drop_zero, Nat.sub_zero, List.take_length]
  have : (fun e : By × By => (e.1.drop 0, e.2)) = id := by funext e; simp
  rw [this, List.map_id]
structure KvOk (m : List (By × By)) : Prop where
  len : m.length ≤ 2 ^ 20
  keys : ∀ e ∈ m, e.1.length ≤ 64
  vals : ∀ e ∈ m, e.2.length ≤ 1024
theorem made_calls {o : Option Addr} {k : Nat} {m : List (By × By)} {n : Nd} (h : KvRow w lab c o m) (hm : KvOk m) (hr : Rep (pathsOf m) n) (hc : Canon n) (hs : Small n) (hcn : cnt n ≤ 2 ^ 19) (cr : C) :
    Calls Try.prog moraineref14_made.n #[.slice o m.length k, .bool false] w (fun e w' => ∃ o' k', e = .returned (.tuple #[.agg (hashA (rootOf n)), .slice o' (nodesOf n).length k']) ∧ Vcg.Mod NoB w w' ∧ NdRow w' (ext lab w.heap.size cr) cr (nodesOf n) o' (nodesOf n).length) := by
  refine calls_gen fun R hR => moraineref14_made.vc _ _ _ _ _ _ ?_
  unfold moraineref14_made.Vc
  have hml := hm.len
  rintro d2 w1 ⟨rfl, rfl⟩
  have M1 := Mod.alloc (S := NoB) w (.cells (Array.replicate 32 (.int .u8 0)) 26)
  have H1 := Blk.new w 26 (Array.replicate 32 (.int .u8 0))
  have z1 := size_alloc w (.cells (Array.replicate 32 (.int .u8 0)) 26)
  generalize w.alloc (.cells (Array.replicate 32 (.int .u8 0)) 26) = w1 at *
  generalize hN : w.heap.size = N at *
  refine ⟨fun h0 => ?_, fun h0 => ?_⟩
  · obtain rfl : m = [] := List.eq_nil_of_length_eq_zero (by omega)
    have hnil := hr.nil_inv hc
    subst hnil
    refine (rEmpty_calls w1).mono ?_
    rintro _ w2 ⟨rfl, M2⟩
    obtain ⟨h1, h2, h3⟩ := hash_store (H1.mod' M2) (by simp) emptyH
    refine ⟨_, rfl, _, h1, _, h2.rowAll (size_hashA _), hR _ _ ⟨none, 0, ?_, mod_of (M1.trans M2 (fun _ _ h => h)) h3 (by omega), NdRow.nil _ _ _ _⟩⟩
    rw [Trie.rootOf, bytes_nil]; rfl
  rintro d9 w2 ⟨rfl, rfl⟩
  rw [z1]
  have M2 := Mod.alloc (S := NoB) w1 (.cells #[.slice o m.length k, .slice none 0 0, .slice none 0 0, .bool false] 186)
  have D2 := Blk.new w1 186 #[.slice o m.length k, .slice none 0 0, .slice none 0 0, .bool false]
  have z2 := size_alloc w1 (.cells #[.slice o m.length k, .slice none 0 0, .slice none 0 0, .bool false] 186)
  rw [z1] at D2 z2
  have H2 := H1.mod' M2
  have M02 := M1.trans M2 (fun _ _ h => h)
  generalize w1.alloc (.cells #[.slice o m.length k, .slice none 0 0, .slice none 0 0, .bool false] 186) = w2 at *
  have lD : labB lab c N (N + 1) (N + 1) = 1 := by unfold labB; rw [if_neg (by omega), if_pos rfl]
  have lH : labB lab c N (N + 1) N = 2 := by unfold labB; rw [if_neg (by omega), if_neg (by omega), if_pos rfl]
  have hkv : KvRow w2 (labB lab c N (N + 1)) 6 o m := (KvRow.re h (fun k hk hc => labB_in (by omega) hc)).stp (Stp.same M02 (labB lab c N (N + 1))) (fun h => h)
  have D2c : CB w2 (labB lab c N (N + 1)) 1 (N + 1) tBuild #[.slice o m.length k, .slice none 0 0, .slice none 0 0, .bool false] := ⟨D2, lD⟩
  have H2c : CB w2 (labB lab c N (N + 1)) 2 N tHash (Array.replicate 32 (.int .u8 0)) := ⟨H2, lH⟩
  have hold : ∀ k, k < N → labB lab c N (N + 1) k = 6 ∨ labB lab c N (N + 1) k = 0 := fun k hk => labB_old hk
  generalize labB lab c N (N + 1) = L2 at *
  let P : Nat → By := fun j => nibbles ((m[j]?.getD ([], [])).1)
  refine ⟨fun i w' => ∃ (j : Nat) (L : Nat → Nat) (op : Option Addr) (cp : Nat) (vs : List Value), i = (j : Int) ∧ j ≤ m.length ∧ Stp (fun k => k = 1 ∨ k = 7) w2 L2 w' L ∧
      CB w' L 1 (N + 1) tBuild #[.slice o m.length k, .slice op j cp, .slice none 0 0, .bool false] ∧ COw w' L 7 tSlU8 1 op j cp vs ∧ ∀ i, i < j → ∃ o k, vs[i]? = some (.slice o (P i).length k) ∧ (P i).length ≤ k ∧ CBy w' L 5 o (P i),
    fun i _ => ((m.length : Int) - i).toNat, ⟨0, L2, none, 0, [], rfl, Nat.zero_le _, Stp.refl _ _ _, D2c, COw.nil _ _ _ _ _, fun i hi => absurd hi (by omega)⟩, ?_⟩
  rintro _ _ w3 ⟨j, L3, op, cp, vs, rfl, hj, s3, D3, O3, hvs⟩
  have hkv3 := hkv.stp s3 (by decide)
  refine ⟨fun hlt => ?_, fun hge => ?_⟩
  · have hjl : j < m.length := by omega
    rintro _ rfl
    have sD : Stp NoS w3 L3 w3.drew L3 := Stp.drew _ _ _
    have hkv4 := hkv3.stp sD (fun h => h)
    have D4 := D3.stp sD (fun h => h)
    have O4 := O3.stp sD (fun h => h)
    have hvs4 : ∀ i, i < j → ∃ o k, vs[i]? = some (.slice o (P i).length k) ∧ (P i).length ≤ k ∧ CBy w3.drew L3 5 o (P i) := fun i hi => by obtain ⟨o, k, a, b, c⟩ := hvs i hi; exact ⟨o, k, a, b, c.stp sD (fun h => h)⟩
    have s4 := s3.trans (sD.mono (T := fun k => k = 1 ∨ k = 7) (fun _ h => h.elim))
    generalize w3.drew = w4 at *
    obtain ⟨b, f, ok, kk, ov, kv, rfl, e2, e3, e4, e5, e6, e7⟩ := hkv4 j hjl
    have hkl := hm.keys _ (List.getElem_mem hjl)
    simp only [add_at, Nat.zero_add, Int.toNat_natCast]
    refine ⟨_, _, _, D4.blk.rd1 rfl, _, rfl, ⟨by omega, by omega⟩, _, _, _, by rw [add_at]; exact e4, ?_⟩
    refine (rNibbles_calls e5.rd (by omega)).mono ?_
    rintro _ w5 ⟨o5, k5, rfl, F5⟩
    refine ⟨_, _, _, rfl, (D4.blk.mod' F5.mod).rd1 rfl, ?_⟩
    rintro d w6 ⟨rfl, rfl⟩
    have M6 := Mod.alloc (S := NoB) w5 (.cells #[.slice o5 (nibbles m[j].1).length k5] 22)
    have N6 := Blk.new w5 22 #[.slice o5 (nibbles m[j].1).length k5]
    have M46 := F5.mod.trans M6 (fun _ _ h => h)
    have s6 : Stp NoS w4 L3 (w5.alloc (.cells #[.slice o5 (nibbles m[j].1).length k5] 22)) (ext L3 w4.heap.size 5) := Stp.of_nob M46 5
    have b6 : CBy (w5.alloc (.cells #[.slice o5 (nibbles m[j].1).length k5] 22)) (ext L3 w4.heap.size 5) 5 o5 (nibbles m[j].1) := fresh_cby F5 M6
    generalize w5.alloc (.cells #[.slice o5 (nibbles m[j].1).length k5] 22) = w6 at *
    have D6 := D4.stp s6 (fun h => h)
    have O6 := O4.stp s6 (fun h => h)
    have hvs6 : ∀ i, i < j → ∃ o k, vs[i]? = some (.slice o (P i).length k) ∧ (P i).length ≤ k ∧ CBy w6 (ext L3 w4.heap.size 5) 5 o (P i) := fun i hi => by obtain ⟨o, k, a, b, c⟩ := hvs4 i hi; exact ⟨o, k, a, b, c.stp s6 (fun h => h)⟩
    generalize ext L3 w4.heap.size 5 = L6 at *
    obtain ⟨i, hi, hz, hsz, hb⟩ := info_of info_slU8
    obtain ⟨o7, k7, w7, hr7, O7, s7⟩ := COw.append (ty := 31) und_slSl hi hz hsz rfl O6 (src_one und_slSl N6 rfl (by simp [Value.oneCell'])) (by simp only [maxLen]; omega) (by rw [hb]; omega)
    have D7 := D6.stp s7 (by decide)
    have b7 := b6.stp s7 (by decide)
    have hvs7 : ∀ i, i < j → ∃ o k, vs[i]? = some (.slice o (P i).length k) ∧ (P i).length ≤ k ∧ CBy w7 (ext L6 w6.heap.size 7) 5 o (P i) := fun i hi => by obtain ⟨o, k, a, b, c⟩ := hvs6 i hi; exact ⟨o, k, a, b, c.stp s7 (by decide)⟩
    generalize ext L6 w6.heap.size 7 = L7 at *
    refine ⟨D6.blk.rd1 rfl, _, w7, hr7, _, _, _, rfl, D7.blk.canSet (by simp) rfl, ?_⟩
    rintro _ rfl
    have s8 : Stp (fun k => k = 1) w7 L7 (w7.setCell ⟨N + 1, 1, none⟩ (.slice o7 (j + 1) k7)) L7 := Stp.setCell D7.clr
    have hPj : P j = nibbles m[j].1 := by simp only [P]; rw [List.getElem?_eq_getElem hjl]; rfl
    have hvl : vs.length = j := O6.own.len
    refine ⟨⟨j + 1, L7, o7, k7, vs ++ [.slice o5 (nibbles m[j].1).length k5], by rw [wrap_i64_small (by omega) (by omega)]; omega, hjl, ((s4.trans (s6.mono (fun _ h => h.elim))).trans (s7.mono (fun _ h => .inr h))).trans (s8.mono (fun _ h => .inl h)), D7.set 1 _, O7.stp s8 (by decide), fun i hi => ?_⟩, by rw [wrap_i64_small (by omega) (by omega)]; omega⟩
    by_cases hij : i < j
    · obtain ⟨o, k, a, b, c⟩ := hvs7 i hij
      exact ⟨o, k, by rw [List.getElem?_append_left (by omega)]; exact a, b, c.stp s8 (by decide)⟩
    · obtain rfl : i = j := by omega
      refine ⟨o5, k5, by rw [List.getElem?_append_right (by omega), hvl, Nat.sub_self, hPj]; rfl, by rw [hPj]; exact F5.own.cap.1, by rw [hPj]; exact b7.stp s8 (by decide)⟩
  · obtain rfl : j = m.length := by omega
    have hpl : (pathsOf m).length = m.length := by simp [pathsOf]
    have hget : ∀ (i : Nat) (hi : i < (pathsOf m).length), (pathsOf m)[i] = (nibbles (m[i]'(by omega)).1, (m[i]'(by omega)).2) := fun i hi => by simp [pathsOf]
    have hBS : BS w3 L3 (N + 1) (pathsOf m) [] := by
      refine ⟨⟨o, k, op, cp, none, 0, 0, by rw [hpl]; exact D3, fun i hi => ?_, fun i hi => ?_, RnOwn.nil _ _ _ _⟩⟩
      · obtain ⟨b, f, ok, kk, ov, kv, e1, e2, e3, e4, e5, e6, e7⟩ := hkv3 i (by omega)
        rw [hget i hi]
        exact ⟨b, f, ov, kv, e1, e2, e3, e6, e7⟩
      · obtain ⟨o', k', a, b, d⟩ := hvs i (by omega)
        obtain ⟨g, f, ho, hg, hl, hcell⟩ := O3.row i _ a
        rw [hget i hi]
        have hPi : P i = nibbles (m[i]'(by omega)).1 := by simp only [P]; rw [List.getElem?_eq_getElem (by omega)]; rfl
        rw [← hPi]
        exact ⟨g, f, o', k', ho, hg, hl, hcell, b, d⟩
    have hEs : EsOk (pathsOf m) := by
      refine ⟨by omega, fun e he => ?_, fun e he => ?_⟩
      · obtain ⟨x, hx, rfl⟩ := List.mem_map.1 he
        have := hm.keys x hx
        show (nibbles x.1).length ≤ 128
        rw [nibbles_len]; omega
      · obtain ⟨x, hx, rfl⟩ := List.mem_map.1 he
        exact hm.vals x hx
    have hne : n ≠ .nil := hr.ne (by intro e; have := congrArg List.length e; simp at this; rw [this] at hpl; simp at hpl; omega)
    have hok : Okseg (pathsOf m) 0 m.length 0 := ⟨by omega, by omega, fun _ _ _ _ => Nat.zero_le _⟩
    have hrep : Rep (seg (pathsOf m) 0 m.length 0) n := by
      have := seg_all (pathsOf m)
      rw [hpl] at this
      rw [this]; exact hr
    have hbl := bytes_le hs
    have hkl := kids_len (n := n) []
    simp only [List.length_nil, Nat.zero_add] at hkl
    refine ((items_B n hc hs hne).1 hBS hEs hok hrep (by simp; omega)).mono ?_
    rintro _ w4 ⟨o4, k4, rfl, L4, s4, B4, x4, hk4⟩
    refine ⟨_, _, _, rfl, ?_⟩
    refine (refSum_calls (bytesOf n) rfl (by omega) x4.rd).mono ?_
    rintro _ w5 ⟨rfl, M5⟩
    refine ⟨_, rfl, ?_⟩
    rintro d w6 ⟨rfl, rfl⟩
    have N6 := Blk.new w5 26 (Array.replicate 32 (.int .u8 0))
    obtain ⟨h1, h2, h3⟩ := hash_store N6 (by simp) (sumOf (bytesOf n))
    have M6 := mod_of (M5.step_alloc (.cells (Array.replicate 32 (.int .u8 0)) 26)) h3 M5.size
    refine ⟨_, h1, _, h2.rowAll (size_hashA _), ?_⟩
    have hge := M5.size
    generalize w5.heap.size = D at *
    generalize ((w5.alloc (.cells (Array.replicate 32 (.int .u8 0)) 26)).setRow D (hashA (sumOf (bytesOf n)))) = w6 at *
    have B6 := B4.mod' M6 5
    have s6 : Stp NoS w4 L4 w6 (ext L4 w4.heap.size 5) := Stp.of_nob M6 5
    have x6 := x4.stp s6 (fun h => h)
    have D6 : CB w6 (ext L4 w4.heap.size 5) 5 D tHash (hashA (sumOf (bytesOf n))) := ⟨h2, ext_new hge⟩
    generalize ext L4 w4.heap.size 5 = L6 at *
    refine (node_calls (k := k4) B6 x6 (length_sumOf _) hk4 (by omega)).mono ?_
    rintro _ w7 ⟨rfl, L7, s7, _, B7⟩
    have D7 := D6.stp s7 (by decide)
    have enodes : (if met (kidsN n []) (sumOf (bytesOf n)) then kidsN n [] else kidsN n [] ++ [(sumOf (bytesOf n), bytesOf n)]) = nodesOf n := by
      unfold nodesOf
      rw [visit_kids hne]
      unfold putNode
      simp
    rw [enodes] at B7
    refine ⟨rfl, ?_⟩
    rintro _ rfl
    have sD : Stp NoS w7 L7 w7.drew L7 := Stp.drew _ _ _
    have D8 := D7.stp sD (fun h => h)
    have B8 := B7.stp sD (fun h => h) (fun h => h) (fun h => h) (fun h => h) (fun h => h)
    generalize w7.drew = w8 at *
    have sAll : Stp (fun k => k = 1 ∨ k = 4 ∨ k = 7 ∨ 8 ≤ k) w2 L2 w8 L7 := by
      refine ((((s3.mono ?_).trans (s4.mono ?_)).trans (s6.mono ?_)).trans (s7.mono ?_)).trans (sD.mono ?_)
      · rintro k (h | h)
        · exact .inl h
        · exact .inr (.inr (.inl h))
      · rintro k (h | h | h)
        · exact .inl h
        · exact .inr (.inl h)
        · exact .inr (.inr (.inr (by omega)))
      · exact fun _ h => h.elim
      · rintro k (h | h)
        · exact .inl h
        · exact .inr (.inl h)
      · exact fun _ h => h.elim
    obtain ⟨ol, cl, op', cp', on, nn, kn, c1, c2, c3, c4⟩ := B8.ex
    have H8 := H2c.stp sAll (by decide)
    obtain ⟨g1, g2, g3⟩ := hash_store H8.blk (by simp) (sumOf (bytesOf n))
    have hNne : N + 1 ≠ N := by omega
    have c9 : Blk (w8.setRow N (hashA (sumOf (bytesOf n)))) (N + 1) _ _ := c1.blk.row_ne hNne
    simp only [add_at, Nat.zero_add]
    refine ⟨_, D8.blk.rowAll (size_hashA _), _, _, _, c1.blk.rd1 rfl, _, g1, c9.rd1 rfl, _, g2.rowAll (size_hashA _), ?_⟩
    have hlt8 : ∀ k, k < N → k < w2.heap.size := fun k hk => by omega
    have M28 : Vcg.Mod NoB w w8 := M02.trans (sAll.mod (Q := fun k => N ≤ k) (fun k hk hs => Nat.not_lt.1 fun hlt => by
      rcases hold k hlt with h | h <;> rw [h] at hs <;> rcases hs with hs | hs | hs | hs <;> omega)) (fun i hi hq => by omega)
    have s9 : Stp (fun k => k = 2) w8 L7 (w8.setRow N (hashA (sumOf (bytesOf n)))) L7 := ⟨g3.os, g3.tape, g3.output, g3.size, fun _ _ => rfl, fun k hk hn => g3.block k hk (fun e => hn (by subst e; exact H8.clr))⟩
    obtain ⟨rfl, vs', O8, C8⟩ := c4
    have M9 := mod_of M28 g3 (by omega)
    have O9 := O8.stp s9 (by decide)
    have C9 := C8.stp s9 (by decide)
    have hz9 : (w8.setRow N (hashA (sumOf (bytesOf n)))).heap.size = w8.heap.size := size_setRow _ _ _
    have hre : ∀ q, q = 4 ∨ q = 5 → ∀ k, k < (w8.setRow N (hashA (sumOf (bytesOf n)))).heap.size → L7 k = q → ext lab N cr k = cr := fun q hq k hk he => by
      by_cases hlt : k < N
      · rw [sAll.lab k (by omega)] at he
        rcases hold k hlt with h | h <;> rw [h] at he <;> omega
      · exact ext_new (by omega)
    exact hR _ _ ⟨on, kn, rfl, M9, rfl, vs', COw.row (COw.re O9 (hre 4 (.inl rfl))), NdCells.re C9 (hre 5 (.inr rfl))⟩
theorem NdRow.re {o : Option Addr} {l : List (By × By)} {n : Nat} (h : NdRow w lab c l o n) (hl : ∀ k, k < w.heap.size → lab k = c → lab' k = c') : NdRow w lab' c' l o n := by
  obtain ⟨h1, vs, h2, h3⟩ := h
  refine ⟨h1, vs, fun j v hv => ?_, NdCells.re h3 hl⟩
  obtain ⟨b, f, ho, hb, hc, hcell⟩ := h2 j v hv
  exact ⟨b, f, ho, hb, hl b hb hc, hcell⟩
theorem Of_calls {o : Option Addr} {k : Nat} {m : List (By × By)} {n : Nd} (h : KvRow w lab c o m) (hm : KvOk m) (hr : Rep (pathsOf m) n) (hc : Canon n) (hs : Small n) (hcn : cnt n ≤ 2 ^ 19) (cr : C) :
    Calls Try.prog moraineref14_Of.n #[.slice o m.length k] w (fun e w' => ∃ o' k', e = .returned (.tuple #[.agg (hashA (rootOf n)), .slice o' (nodesOf n).length k']) ∧ Vcg.Mod NoB w w' ∧ NdRow w' (ext lab w.heap.size cr) cr (nodesOf n) o' (nodesOf n).length) := by
  refine moraineref14_Of.vc _ _ _ _ _ ?_
  unfold moraineref14_Of.Vc
  rintro d1 w1 ⟨rfl, rfl⟩
  have M1 := Mod.alloc (S := NoB) w (.cells (Array.replicate 32 (.int .u8 0)) 26)
  have H1 := Blk.new w 26 (Array.replicate 32 (.int .u8 0))
  have z1 := size_alloc w (.cells (Array.replicate 32 (.int .u8 0)) 26)
  have h0 : KvRow w (fun k => if k < w.heap.size then some (lab k) else none) (some c) o m := KvRow.re h (fun k hk hc => by rw [if_pos hk, hc])
  have h1 := h0.stp (S := fun _ => False) (Stp.same M1 _) (fun h => h)
  generalize w.alloc (.cells (Array.replicate 32 (.int .u8 0)) 26) = w1 at *
  refine (made_calls h1 hm hr hc hs hcn (some cr)).mono ?_
  rintro _ w2 ⟨o2, k2, rfl, M2, N2⟩
  have H2 := H1.mod' M2
  obtain ⟨g1, g2, g3⟩ := hash_store H2 (by simp) (rootOf n)
  have hlab : ext (fun k => if k < w.heap.size then some (lab k) else none) w1.heap.size (some cr) w.heap.size = none := by
    rw [ext_old (by omega), if_neg (by omega)]
  have s3 : Stp (fun z => z = none) w2 (ext (fun k => if k < w.heap.size then some (lab k) else none) w1.heap.size (some cr)) (w2.setRow w.heap.size (hashA (rootOf n))) (ext (fun k => if k < w.heap.size then some (lab k) else none) w1.heap.size (some cr)) :=
    ⟨g3.os, g3.tape, g3.output, g3.size, fun _ _ => rfl, fun k hk hn => g3.block k hk (fun e => hn (by subst e; exact hlab))⟩
  refine ⟨_, _, _, _, rfl, _, g1, _, g2.rowAll (size_hashA _), o2, k2, rfl, mod_of (M1.trans M2 (fun _ _ h => h)) g3 (Nat.le_refl _), NdRow.re (N2.stp s3 (by simp)) (fun k hk he => ?_)⟩
  by_cases hlt : k < w.heap.size
  · rw [ext_old (by omega)] at he
    rw [if_pos hlt] at he
    rw [ext_old hlt]
    exact Option.some.inj he
  · exact ext_new (by omega)
end
end Go.Proofs.Ytfghidehlnfdiaa
end
section
namespace Go.Trie
def putM : List (By × By) → By → By → List (By × By)
  | [], k, v => if v = [] then [] else [(k, v)]
  | x :: r, k, v => if cmpB x.1 k < 0 then x :: putM r k v else (if v = [] then [] else [(k, v)]) ++ (if x.1 = k then r else x :: r)
end Go.Trie
namespace Go.Proofs.Ytfghidehlnfdiaa
open Go Go.Vcg Go.Trie
abbrev tKv : TypeId := 93
abbrev tSlKv : TypeId := 44
theorem und_slKv : Try.prog.underlying tSlKv = some (.slice tKv) := by kernel_rfl
section
variable {C C' : Type} {S : C → Prop} {w0 w w' : World} {lab : Nat → C} {lab' : Nat → C'} {lab2 : Nat → C} {c : C} {c' : C'} {xs : List Value} {o : Option Addr}
theorem CRow.re (h : CRow w lab c o xs) (hl : ∀ k, k < w.heap.size → lab k = c → lab' k = c') : CRow w lab' c' o xs := fun j v hv => by
  obtain ⟨b, f, ho, hb, hc, hcell⟩ := h j v hv
  exact ⟨b, f, ho, hb, hl b hb hc, hcell⟩
noncomputable def labK (lab : Nat → C) (c : C) (N : Nat) : Nat → Nat := fun k => if k < N then (@ite Nat (lab k = c) (Classical.propDecidable _) 0 1) else 0
theorem labK_in {N k : Nat} (hc : lab k = c) : labK lab c N k = 0 := by
  unfold labK
  rw [if_pos hc]
  split <;> rfl
theorem labK_old {N k : Nat} (h : k < N) : labK lab c N k ≠ 2 ∧ (labK lab c N k = 0 → lab k = c) := by
  unfold labK
  rw [if_pos h]
  constructor
  · split <;> decide
  · split
    · rename_i h; exact fun _ => h
    · intro h; cases h
end
end Go.Proofs.Ytfghidehlnfdiaa
end
section
namespace Go.Trie
theorem nib_back (a : UInt8) : (a >>> 4) <<< 4 ||| (a &&& 15) = a := by
  have : ∀ n : Fin 256, ((UInt8.ofFin n >>> 4) <<< 4 ||| (UInt8.ofFin n &&& 15)) = UInt8.ofFin n := by decide +kernel
  exact this a.toFin
theorem nibbles_cons (a : UInt8) (k : By) : nibbles (a :: k) = (a >>> 4) :: (a &&& 15) :: nibbles k := rfl
theorem nibbles_inj : ∀ {a b : By}, nibbles a = nibbles b → a = b
  | [], [], _ => rfl
  | [], b :: q, h => by simp [nibbles_cons] at h; simp [nibbles] at h
  | a :: p, [], h => by simp [nibbles_cons] at h; simp [nibbles] at h
  | a :: p, b :: q, h => by
    rw [nibbles_cons, nibbles_cons] at h
    simp only [List.cons.injEq] at h
    rw [nibbles_inj h.2.2, ← nib_back a, ← nib_back b, h.1, h.2.1]
theorem nib_lt {a b : UInt8} (h : a < b) : a >>> 4 < b >>> 4 ∨ (a >>> 4 = b >>> 4 ∧ a &&& 15 < b &&& 15) := by
  have e1 : ∀ x : UInt8, (x >>> 4).toNat = x.toNat / 16 := fun x => by
    have : ∀ n : Fin 256, (UInt8.ofFin n >>> 4).toNat = (UInt8.ofFin n).toNat / 16 := by decide +kernel
    exact this x.toFin
  have e2 : ∀ x : UInt8, (x &&& 15).toNat = x.toNat % 16 := fun x => by
    have : ∀ n : Fin 256, (UInt8.ofFin n &&& 15).toNat = (UInt8.ofFin n).toNat % 16 := by decide +kernel
    exact this x.toFin
  have h' : a.toNat < b.toNat := UInt8.lt_iff_toNat_lt.1 h
  by_cases hq : a.toNat / 16 = b.toNat / 16
  · right
    refine ⟨UInt8.toNat_inj.1 (by rw [e1, e1, hq]), ?_⟩
    rw [UInt8.lt_iff_toNat_lt, e2, e2]; omega
  · left
    rw [UInt8.lt_iff_toNat_lt, e1, e1]; omega
theorem nibbles_lt : ∀ {a b : By}, ltB a b → ltB (nibbles a) (nibbles b)
  | p, [], h => (ltB_nil _ h).elim
  | [], b :: q, h => by rw [nibbles_cons]; trivial
  | a :: p, b :: q, h => by
    rw [nibbles_cons, nibbles_cons]
    rcases h with h | ⟨rfl, h⟩
    · rcases nib_lt h with h1 | ⟨h1, h2⟩
      · exact .inl h1
      · exact .inr ⟨h1, .inl h2⟩
    · exact .inr ⟨rfl, .inr ⟨rfl, nibbles_lt h⟩⟩
abbrev SortedM (m : List (By × By)) : Prop := m.Pairwise (fun x y => ltB x.1 y.1)
theorem ltB_total : ∀ (a b : By), ltB a b ∨ a = b ∨ ltB b a
  | [], [] => .inr (.inl rfl)
  | [], _ :: _ => .inl trivial
  | _ :: _, [] => .inr (.inr trivial)
  | a :: p, b :: q => by
    by_cases h : a < b
    · exact .inl (.inl h)
    · by_cases h' : b < a
      · exact .inr (.inr (.inl h'))
      · have e : a = b := UInt8.toNat_inj.1 (by rw [UInt8.lt_iff_toNat_lt] at h h'; omega)
        subst e
        rcases ltB_total p q with h1 | h1 | h1
        · exact .inl (.inr ⟨rfl, h1⟩)
        · exact .inr (.inl (by rw [h1]))
        · exact .inr (.inr (.inr ⟨rfl, h1⟩))
theorem mem_putM : ∀ {m : List (By × By)} {k v : By}, SortedM m → ∀ x, x ∈ putM m k v ↔ (x.1 = k ∧ x.2 = v ∧ v ≠ []) ∨ (x.1 ≠ k ∧ x ∈ m)
  | [], k, v, _, x => by
    simp only [putM]
    split
    · rename_i h; simp [h]
    · rename_i h
      simp only [List.mem_singleton, List.not_mem_nil, and_false, or_false]
      constructor
      · rintro rfl; exact ⟨rfl, rfl, h⟩
      · rintro ⟨h1, h2, _⟩; exact Prod.ext h1 h2
  | y :: r, k, v, hs, x => by
    rw [SortedM, List.pairwise_cons] at hs
    simp only [putM]
    by_cases hy : cmpB y.1 k < 0
    · rw [if_pos hy, List.mem_cons, mem_putM hs.2, List.mem_cons]
      have hne : y.1 ≠ k := fun e => by
        rw [cmpB_lt, e] at hy
        exact ltB_irrefl _ hy
      constructor
      · rintro (rfl | h | h)
        · exact .inr ⟨hne, .inl rfl⟩
        · exact .inl h
        · exact .inr ⟨h.1, .inr h.2⟩
      · rintro (h | ⟨h1, rfl | h2⟩)
        · exact .inr (.inl h)
        · exact .inl rfl
        · exact .inr (.inr ⟨h1, h2⟩)
    · rw [if_neg hy, List.mem_append]
      have hrest : ∀ z ∈ r, z.1 ≠ k := fun z hz e => by
        have h1 := hs.1 z hz
        rw [e] at h1
        exact hy (cmpB_lt.2 h1)
      have hnew : x ∈ (if v = [] then [] else [(k, v)]) ↔ x.1 = k ∧ x.2 = v ∧ v ≠ [] := by
        split
        · rename_i h; simp [h]
        · rename_i h
          rw [List.mem_singleton]
          constructor
          · rintro rfl; exact ⟨rfl, rfl, h⟩
          · rintro ⟨h1, h2, _⟩; exact Prod.ext h1 h2
      rw [hnew]
      by_cases hyk : y.1 = k
      · rw [if_pos hyk, List.mem_cons]
        constructor
        · rintro (h | h)
          · exact .inl h
          · exact .inr ⟨hrest x h, .inr h⟩
        · rintro (h | ⟨h1, rfl | h2⟩)
          · exact .inl h
          · exact (h1 hyk).elim
          · exact .inr h2
      · rw [if_neg hyk, List.mem_cons]
        constructor
        · rintro (h | rfl | h)
          · exact .inl h
          · exact .inr ⟨hyk, .inl rfl⟩
          · exact .inr ⟨hrest x h, .inr h⟩
        · rintro (h | ⟨h1, h2⟩)
          · exact .inl h
          · exact .inr h2
theorem sorted_putM : ∀ {m : List (By × By)} {k v : By}, SortedM m → SortedM (putM m k v)
  | [], k, v, _ => by
    simp only [putM]
    split
    · exact List.Pairwise.nil
    · exact List.pairwise_singleton _ _
  | y :: r, k, v, hs => by
    have hs0 := hs
    rw [SortedM, List.pairwise_cons] at hs
    by_cases hy : cmpB y.1 k < 0
    · have e : putM (y :: r) k v = y :: putM r k v := by simp only [putM]; rw [if_pos hy]
      rw [e, SortedM, List.pairwise_cons]
      refine ⟨fun z hz => ?_, sorted_putM hs.2⟩
      rcases (mem_putM hs.2 z).1 hz with ⟨h1, _⟩ | ⟨_, h2⟩
      · rw [h1]; exact cmpB_lt.1 hy
      · exact hs.1 z h2
    · have e : putM (y :: r) k v = (if v = [] then [] else [(k, v)]) ++ (if y.1 = k then r else y :: r) := by simp only [putM]; rw [if_neg hy]
      rw [e, SortedM, List.pairwise_append]
      have hkr : ∀ z ∈ r, ltB k z.1 := fun z hz => by
        have h1 := hs.1 z hz
        rcases ltB_total k y.1 with h | h | h
        · exact ltB_trans h h1
        · rw [h]; exact h1
        · exact (hy (cmpB_lt.2 h)).elim
      refine ⟨by split <;> simp, ?_, fun x hx z hz => ?_⟩
      · split
        · exact hs.2
        · exact hs0
      · have hxk : x.1 = k := by
          split at hx
          · cases hx
          · rw [List.mem_singleton] at hx; rw [hx]
        rw [hxk]
        split at hz
        · exact hkr z hz
        · rename_i hyk
          rcases List.mem_cons.1 hz with rfl | hz
          · rcases ltB_total k z.1 with h | h | h
            · exact h
            · exact (hyk h.symm).elim
            · exact (hy (cmpB_lt.2 h)).elim
          · exact hkr z hz
end Go.Trie
namespace Go.Proofs.Ytfghidehlnfdiaa
open Go Go.Vcg Go.Trie
theorem mem_paths {m : List (By × By)} {k v : By} : (nibbles k, v) ∈ pathsOf m ↔ (k, v) ∈ m := by
  unfold pathsOf
  rw [List.mem_map]
  constructor
  · rintro ⟨x, hx, he⟩
    have h1 := nibbles_inj (Prod.mk.inj he).1
    have h2 := (Prod.mk.inj he).2
    rw [← h1, ← h2]; exact hx
  · exact fun h => ⟨_, h, rfl⟩
theorem paths_sorted {m : List (By × By)} (hs : SortedM m) : (pathsOf m).Pairwise (fun x y => ltB x.1 y.1) := by
  unfold pathsOf
  rw [List.pairwise_map]
  exact hs.imp (fun h => nibbles_lt h)
theorem rep_of {m : List (By × By)} {n : Nd} (hs : SortedM m) (h : ∀ p v, Trie.get n p = some v ↔ (p, v) ∈ pathsOf m) : Rep (pathsOf m) n := ⟨paths_sorted hs, h⟩
theorem rep_put {m : List (By × By)} {n : Nd} {k v : By} (hr : Rep (pathsOf m) n) (hs : SortedM m) (hc : Canon n) (hv : v ≠ []) : Rep (pathsOf (putM m k v)) (Trie.put n (nibbles k) v) := by
  refine rep_of (sorted_putM hs) (fun p x => ?_)
  rw [(put_ok hc (nib_nibbles k) hv).2.2.2 p]
  by_cases hp : p = nibbles k
  · rw [if_pos hp, hp, mem_paths, mem_putM hs]
    constructor
    · intro h; cases h; exact .inl ⟨rfl, rfl, hv⟩
    · rintro (⟨_, h, _⟩ | ⟨h, _⟩)
      · exact congrArg some h.symm
      · exact (h rfl).elim
  · rw [if_neg hp, hr.2]
    unfold pathsOf
    rw [List.mem_map, List.mem_map]
    constructor
    · rintro ⟨y, hy, he⟩
      refine ⟨y, (mem_putM hs y).2 (.inr ⟨fun e => hp ?_, hy⟩), he⟩
      rw [← (Prod.mk.inj he).1, e]
    · rintro ⟨y, hy, he⟩
      rcases (mem_putM hs y).1 hy with ⟨h, _⟩ | ⟨_, h⟩
      · exact (hp (by rw [← (Prod.mk.inj he).1, h])).elim
      · exact ⟨y, h, he⟩
theorem rep_nil : Rep (pathsOf []) .nil := Rep.nil
end Go.Proofs.Ytfghidehlnfdiaa
end
section
namespace Go.Proofs.Ytfghidehlnfdiaa
open Go Go.Vcg Go.Trie
section
variable {C C' : Type} {S : C → Prop} {w0 w w' : World} {lab : Nat → C} {lab' : Nat → C'} {lab2 : Nat → C} {c c1 : C} {c' : C'} {xs : List Value} {o : Option Addr}
theorem toStr {w : World} {o : Option Addr} {k : Nat} {b : By} (h : RdB w o b) : Sem.run Try.prog (convert 22 9 (.slice o b.length k)) w = .ok (.string (strOf b)) w := run_toStr und_slU8 und_u8 und_str h
theorem rNodes_calls {l : List (By × By)} {k : Nat} (h : NdRow w lab c l o l.length) (hb : ∀ x ∈ l, x.2.length ≤ 2 ^ 20) (hlen : l.length ≤ 2 ^ 20) (cr : C) :
    Calls Try.prog moraineref14_Nodes.n #[.slice o l.length k] w (fun e w' => ∃ o' k', e = .returned (.slice o' l.length k') ∧ l.length ≤ k' ∧ Vcg.Mod NoB w w' ∧ NdRow w' (ext lab w.heap.size cr) cr l o' l.length) := by
  refine calls_gen fun R hR => moraineref14_Nodes.vc _ _ _ _ _ ?_
  unfold moraineref14_Nodes.Vc
  have inL : ∀ k, k < w.heap.size → lab k = c → labK lab c w.heap.size k = 0 := fun k _ hc => labK_in hc
  have h0 : NdRow w (labK lab c w.heap.size) 0 l o l.length := NdRow.re h inL
  refine ⟨fun o' n' k' i w' => ∃ (j : Nat) (L : Nat → Nat), i = (j : Int) ∧ j ≤ l.length ∧ n' = j ∧ Stp (· = 2) w (labK lab c w.heap.size) w' L ∧ NdOwn w' L 2 3 (l.take j) o' n' k', fun _ _ _ i _ => ((l.length : Int) - i).toNat,
    ⟨0, _, rfl, Nat.zero_le _, rfl, Stp.refl _ _ _, by rw [List.take_zero]; exact NdOwn.nil _ _ _ _⟩, ?_⟩
  rintro o1 j k1 _ _ w1 ⟨j', L1, rfl, hj, hjj, s1, O1⟩
  subst hjj
  obtain ⟨_, vs, hCR, hNC⟩ := h0
  refine ⟨fun hlt => ?_, fun hge => ?_⟩
  · rintro _ rfl
    have hjl : j < l.length := by omega
    have sD : Stp NoS w1 L1 w1.drew L1 := Stp.drew _ _ _
    have O2 := O1.stp sD (fun h => h) (fun h => h)
    have s2 := s1.trans (sD.mono (T := fun k => k = 2) (fun _ h => h.elim))
    generalize w1.drew = w2 at *
    have CR2 := hCR.stp s2 (by decide)
    have NC2 := hNC.stp s2 (by decide)
    obtain ⟨g, f, rfl, hg, hlg, hrow⟩ := NC2.hash CR2 hjl
    obtain ⟨g', f', hgf, _, ob, kb, hcell, hby, _⟩ := NC2.bytes CR2 hjl
    cases hgf
    have hlen32 := (NC2.2 j hjl).1
    have hbl := hb _ (List.getElem_mem hjl)
    obtain ⟨o3, k3, w3, hr3, F3⟩ := copy_bytes' (k2 := kb) (ty := tSlU8) (Mod.refl w2) hby.rd (by omega)
    have hrow' : ∀ w', Vcg.Mod NoB w2 w' → RowAt w' (Addr.add ⟨g, f, none⟩ (Int.toNat (j : Int) * 33)) 32 (hashA l[j].1) := fun w' M => by
      rw [add_at, Int.toNat_natCast]
      exact ⟨hrow.1, fun i hi => by rw [← hrow.2 i hi, add_at]; exact cell_mod M hg (fun h => h)⟩
    have hZ : nd0.size = 33 := rfl
    refine ⟨_, rfl, ⟨by omega, by omega⟩, _, hrow' _ (Mod.refl _), _, rfl, ⟨by omega, by omega⟩, _, _, _, by rw [add_at, add_at, Int.toNat_natCast, Nat.add_assoc]; exact hcell, _, w3, hr3, _, _, _, rfl, hrow' _ F3.mod, size_hashA _, by rw [size_setsAt]; unfold lputL; rw [size_setsAt, hZ], ?_⟩
    rw [nd_built hZ]
    rintro d w4 ⟨rfl, rfl⟩
    have M4 := Mod.alloc (S := NoB) w3 (.cells (ndA l[j].1 o3 l[j].2.length k3) tNd)
    have N4 := Blk.new w3 tNd (ndA l[j].1 o3 l[j].2.length k3)
    have M24 := F3.mod.trans M4 (fun _ _ h => h)
    have s4 : Stp NoS w2 L1 (w3.alloc (.cells (ndA l[j].1 o3 l[j].2.length k3) tNd)) (ext L1 w2.heap.size 3) := Stp.of_nob M24 3
    have b4 : CBy (w3.alloc (.cells (ndA l[j].1 o3 l[j].2.length k3) tNd)) (ext L1 w2.heap.size 3) 3 o3 l[j].2 := fresh_cby F3 M4
    show ∃ (v30 : Value) (w31 : World), Sem.run Try.prog (builtinV .append #[49, 49] 49 #[(.slice o1 j k1), (.slice (some ⟨w3.heap.size, 0, none⟩) 1 1)]) (w3.alloc (.cells (ndA l[j].1 o3 l[j].2.length k3) tNd)) = .ok v30 w31 ∧ _
    generalize w3.alloc (.cells (ndA l[j].1 o3 l[j].2.length k3) tNd) = w4 at *
    have O4 := O2.stp s4 (fun h => h) (fun h => h)
    have htl : (l.take j).length = j := by rw [List.length_take]; omega
    obtain ⟨o5, k5, w5, hr5, O5, s5⟩ := O4.push (by decide) N4 hlen32 b4 F3.own.cap.1 (by omega)
    have htk : l.take (j + 1) = l.take j ++ [(l[j].1, l[j].2)] := by rw [List.take_add_one, List.getElem?_eq_getElem hjl]; rfl
    refine ⟨_, w5, hr5, _, _, _, rfl, ⟨j + 1, _, by rw [wrap_i64_small (by omega) (by omega)]; omega, hjl, rfl, (s2.trans (s4.mono (fun _ h => h.elim))).trans s5, by rw [htk]; exact O5⟩, by dsimp only; rw [wrap_i64_small (by omega) (by omega)]; omega⟩
  · obtain rfl : j = l.length := by omega
    rw [List.take_length] at O1
    obtain ⟨_, us, hO, hC⟩ := O1
    have M1 : Vcg.Mod NoB w w1 := (s1.mod (Q := fun k => w.heap.size ≤ k) (fun k hk hs => Nat.not_lt.1 fun hlt => (labK_old hlt).1 hs)).mono (fun i hi h => by omega)
    have out : ∀ q, q = 2 ∨ q = 3 → ∀ z, z < w1.heap.size → L1 z = q → ext lab w.heap.size cr z = cr := fun q hq z hz he => by
      by_cases hlt : z < w.heap.size
      · rw [s1.lab z hlt] at he
        have : labK lab c w.heap.size z = 0 ∨ labK lab c w.heap.size z = 1 := by
          unfold labK
          rw [if_pos hlt]
          split
          · exact .inl rfl
          · exact .inr rfl
        rcases this with h | h <;> rw [h] at he <;> omega
      · exact ext_new (by omega)
    exact hR _ _ ⟨o1, k1, rfl, hO.own.cap.1, M1, rfl, us, CRow.re (COw.row hO) (out 2 (.inl rfl)), NdCells.re hC (out 3 (.inr rfl))⟩
end
end Go.Proofs.Ytfghidehlnfdiaa
end
section
namespace Go.Vcg
def lk (l : List (BitVec 64)) : St := fun i => l.getD i 0
theorem rnd_congr {s r : St} (n : Nat) (h : ∀ i, i < 25 → s i = r i) : ∀ j, j < 25 → rnd n s j = rnd n r j := by
  have hp : ∀ x, x < 5 → par s x = par r x := fun x hx => by
    simp only [par, parK]
    rw [h (x + 5 * 0) (by omega), h (x + 5 * 1) (by omega), h (x + 5 * 2) (by omega), h (x + 5 * 3) (by omega), h (x + 5 * 4) (by omega)]
  have hb : ∀ j, j < 25 → bbK s j = bbK r j := fun j hj => by
    simp only [bbK, bbXY, ddK]
    rw [h _ (by omega), hp _ (by omega), hp _ (by omega)]
  have hc : ∀ j, j < 25 → chiK (bbK s) j = chiK (bbK r) j := fun j hj => by
    simp only [chiK]
    rw [hb _ (by omega), hb _ (by omega), hb _ (by omega)]
  intro j hj
  simp only [rnd]
  rw [hc 0 (by omega), hc j hj]
end Go.Vcg
end
section
namespace Go.Trie
open Go.Vcg
def kDo : By := [100, 111]
def kDog : By := [100, 111, 103]
def kDoge : By := [100, 111, 103, 101]
def kHorse : By := [104, 111, 114, 115, 101]
def vVerb : By := [118, 101, 114, 98]
def vPuppy : By := [112, 117, 112, 112, 121]
def vCoin : By := [99, 111, 105, 110]
def vStallion : By := [115, 116, 97, 108, 108, 105, 111, 110]
def n1 : Nd := (putT .nil kDo vVerb).2
def n2 : Nd := (putT n1 kDog vPuppy).2
def n3 : Nd := (putT n2 kDoge vCoin).2
def n4 : Nd := (putT n3 kHorse vStallion).2
theorem get4 : get n4 (nibbles kDog) = some vPuppy := by kernel_rfl
end Go.Trie
namespace Go.Proofs.Ytfghidehlnfdiaa
open Go Go.Vcg Go.Trie
theorem lit_bytes (w : World) {bs : By} {A : Array Value} (hA : A.toList = bs.map bV) (l k : Nat) :
    ∃ w2, Sem.run Try.prog (convert 22 22 (.slice (some ⟨w.heap.size, 0, none⟩) l k)) (w.alloc (.cells A 5)) = .ok (.slice (some ⟨w.heap.size, 0, none⟩) l k) w2 ∧ Vcg.Mod NoB w w2 ∧ RdB w2 (some ⟨w.heap.size, 0, none⟩) bs := by
  have B := Blk.new w 5 A
  obtain ⟨w2, h2, M2, hc2⟩ := convert_same (P := Try.prog) (t := tSlU8) (l := l) (c := k) und_slU8 (by kernel_rfl) B
  refine ⟨w2, h2, mod_of (Mod.alloc w _) M2 (Nat.le_refl _), fun hne => ⟨w.heap.size, 0, rfl, ?_, fun i hi => ?_⟩⟩
  · have := M2.size
    have := B.lt
    omega
  · rw [hc2, B.cell, Nat.zero_add, ← Array.getElem?_toList, hA]
    exact map_bV_get hi
end Go.Proofs.Ytfghidehlnfdiaa
end
section
namespace Go.Proofs.Ytfghidehlnfdiaa
open Go Go.Vcg

abbrev trie_Unpack.n : Nat := 42
def trie_Unpack.Vc (o0 : Option Addr) (l0 c0 : Nat) (w : World) (R : Ending → World → Prop) : Prop :=
 Calls Try.prog 40 #[(.slice o0 l0 c0)] w (fun e1 w2 =>
 ∃ o3 l4 l5, e1 = .returned (.slice o3 l4 l5) ∧
 (((((l4 : Nat) : Int) = 0 →
 R (.returned (.tuple #[(.slice none 0 0), (.bool false), (.int .i64 143)])) w2)) ∧
 ((((l4 : Nat) : Int) ≠ 0 →
 ∃ d6, o3 = some d6 ∧
 ((0 : Int) ≤ 0 ∧ 0 < ((l4 : Nat) : Int)) ∧
 ∃ n7, World.cell? w2 (Addr.add d6 0) = some (.int .u8 n7) ∧
 (((n7 > 3 →
 R (.returned (.tuple #[(.slice none 0 0), (.bool false), (.int .i64 143)])) w2)) ∧
 ((¬ n7 > 3 →
 (((((l4 : Nat) : Int) > 130 →
 R (.returned (.tuple #[(.slice none 0 0), (.bool false), (.int .i64 143)])) w2)) ∧
 ((¬ ((l4 : Nat) : Int) > 130 →
 ∃ d8, o3 = some d8 ∧
 ((0 : Int) ≤ 0 ∧ 0 < ((l4 : Nat) : Int)) ∧
 ∃ n9, World.cell? w2 (Addr.add d8 0) = some (.int .u8 n9) ∧
 1 ≤ l4 ∧
 ∃ (J10 : Option Addr → Nat → Nat → World → Prop), (∃ d11, o3 = some d11 ∧
 ((0 : Int) ≤ 0 ∧ 0 < ((l4 : Nat) : Int)) ∧
 ∃ n12, World.cell? w2 (Addr.add d11 0) = some (.int .u8 n12) ∧
 ((((Int.tmod n12 2) = 0 →
 2 ≤ l4 ∧
 J10 (subO o3 l5 2 1) (l4 - 2) (l5 - 2) w2)) ∧
 (((Int.tmod n12 2) ≠ 0 →
 J10 (subO o3 l5 1 1) (l4 - 1) (l5 - 1) w2)))) ∧
 (∀ (o13 : Option Addr) (l13 : Nat) (c13 : Nat) (j14 : Nat → Value) (w14 : World), J10 o13 l13 c13 w14 →
 Calls Try.prog 38 #[(.slice o13 l13 c13), (.bool (decide (n9 > 1)))] w14 (fun e15 w16 =>
 ∃ o17 l18 l19 n20, e15 = .returned (.tuple #[(.slice o17 l18 l19), (.int .i64 n20)]) ∧
 (((n20 ≠ 0 →
 R (.returned (.tuple #[(.slice none 0 0), (.bool false), (.int .i64 143)])) w16)) ∧
 ((n20 = 0 →
 Calls Try.prog 87 #[(.slice o17 l18 l19), (.slice o0 l0 c0)] w16 (fun e21 w22 =>
 ∃ b23, e21 = .returned (.bool b23) ∧
 (((b23 = false →
 R (.returned (.tuple #[(.slice none 0 0), (.bool false), (.int .i64 143)])) w22)) ∧
 ((b23 = true →
 R (.returned (.tuple #[(.slice o13 l13 c13), (.bool (decide (n9 > 1))), (.int .i64 0)])) w22)))))))))))))))))))
theorem trie_Unpack.vc (o0 l0 c0 w R) (h : trie_Unpack.Vc o0 l0 c0 w R) : Calls Try.prog 42 #[(.slice o0 l0 c0)] w R := xs [(1000008, [(7, .cell (.slice))])] [.slice o0 l0 c0] Try.func42 mixed (by kernel_rfl) h



end Go.Proofs.Ytfghidehlnfdiaa
end
section
namespace Go.Proofs.Ytfghidehlnfdiaa
open Go Go.Vcg Go.Trie
def unpack : By → Option (By × Bool)
  | [] => none
  | a :: r =>
    if 65 < r.length + 1 ∨ 3 < (a >>> 4).toNat then none
    else if (a >>> 4).toNat % 2 = 0 then (if (a &&& 15).toNat ≠ 0 then none else some (nibbles r, decide ((a >>> 4).toNat > 1)))
    else if 64 ≤ r.length then none else some ((a &&& 15) :: nibbles r, decide ((a >>> 4).toNat > 1))
theorem pairs_nibbles : ∀ (r : By), pairs (nibbles r) = r
  | [] => rfl
  | a :: r => by
    rw [nibbles_cons]
    simp only [pairs]
    rw [nib_back, pairs_nibbles r]
theorem nib_hi {a : UInt8} (h : a.toNat < 16) (b : UInt8) (hb : b.toNat < 16) : ((a <<< 4 ||| b) >>> 4) = a ∧ ((a <<< 4 ||| b) &&& 15) = b := by
  have : ∀ x y : Fin 16, ((UInt8.ofNat x.val <<< 4 ||| UInt8.ofNat y.val) >>> 4) = UInt8.ofNat x.val ∧ ((UInt8.ofNat x.val <<< 4 ||| UInt8.ofNat y.val) &&& 15) = UInt8.ofNat y.val := by decide +kernel
  have h1 := this ⟨a.toNat, h⟩ ⟨b.toNat, hb⟩
  have ea : UInt8.ofNat a.toNat = a := UInt8.toNat_inj.1 (by rw [UInt8.toNat_ofNat']; omega)
  have eb : UInt8.ofNat b.toNat = b := UInt8.toNat_inj.1 (by rw [UInt8.toNat_ofNat']; omega)
  simp only [ea, eb] at h1
  exact h1
theorem nibbles_pairs : ∀ {p : By}, p.length % 2 = 0 → Nib p → nibbles (pairs p) = p
  | [], _, _ => rfl
  | [a], h, _ => by simp at h
  | a :: b :: r, h, hn => by
    have ha := hn a (by simp)
    have hb := hn b (by simp)
    obtain ⟨h1, h2⟩ := nib_hi ha b hb
    simp only [pairs]
    rw [nibbles_cons, h1, h2, nibbles_pairs (by simp only [List.length_cons] at h; omega) (fun x hx => hn x (by simp [hx]))]
theorem pairs_half : ∀ {p : By}, (pairs p).length = p.length / 2
  | [] => rfl
  | [a] => by simp [pairs]
  | a :: b :: r => by simp only [pairs, List.length_cons]; rw [pairs_half]; omega
theorem unpack_pack {p : By} {leaf : Bool} (h : ¬ packBad p) : unpack (pack p leaf).1 = some (p, leaf) := by
  unfold pack
  rw [if_neg h]
  unfold packBad at h
  have hn : Nib p := fun x hx => by
    refine Nat.not_le.1 fun hc => h (.inr ⟨x, hx, UInt8.le_iff_toNat_le.2 ?_⟩)
    simpa using hc
  have hl : p.length ≤ 128 := Nat.not_lt.1 fun hc => h (.inl hc)
  unfold headed
  by_cases ho : p.length % 2 = 1
  · rw [if_pos ho]
    cases p with
    | nil => simp at ho
    | cons x r =>
      simp only [List.length_cons] at ho hl
      have hx := hn x (by simp)
      have hr : Nib r := fun y hy => hn y (by simp [hy])
      simp only [pairs, unpack]
      obtain ⟨h1, h2⟩ := nib_hi (a := flagOf leaf + 1) (by cases leaf <;> decide) x hx
      rw [h1, h2, pairs_half, nibbles_pairs (by omega) hr]
      have e1 : (flagOf leaf + 1).toNat % 2 ≠ 0 := by cases leaf <;> decide
      have e2 : ¬ 3 < (flagOf leaf + 1).toNat := by cases leaf <;> decide
      have e3 : decide ((flagOf leaf + 1).toNat > 1) = leaf := by cases leaf <;> decide
      rw [if_neg (by omega), if_neg e1, if_neg (by omega), e3]
  · rw [if_neg ho]
    simp only [pairs, unpack]
    obtain ⟨h1, h2⟩ := nib_hi (a := flagOf leaf) (by cases leaf <;> decide) 0 (by decide)
    rw [h1, h2, pairs_half, nibbles_pairs (by omega) hn]
    have e1 : (flagOf leaf).toNat % 2 = 0 := by cases leaf <;> decide
    have e2 : ¬ 3 < (flagOf leaf).toNat := by cases leaf <;> decide
    have e3 : decide ((flagOf leaf).toNat > 1) = leaf := by cases leaf <;> decide
    rw [if_neg (by omega), if_pos e1, if_neg (by decide), e3]
theorem not_bad {p : By} (h : Nib p) : packBad p ↔ 128 < p.length := by
  unfold packBad
  constructor
  · rintro (h1 | ⟨x, hx, h1⟩)
    · exact h1
    · have := h x hx
      have h2 := UInt8.le_iff_toNat_le.1 h1
      simp at h2
      omega
  · exact .inl
theorem pack_odd {a : UInt8} {r : By} (h3 : ¬ 3 < (a >>> 4).toNat) (ho : (a >>> 4).toNat % 2 ≠ 0) : (pack ((a &&& 15) :: nibbles r) (decide ((a >>> 4).toNat > 1))) = if 64 ≤ r.length then ([], 140) else (a :: r, 0) := by
  have hn : Nib ((a &&& 15) :: nibbles r) := fun x hx => nib_nibbles (a :: r) x (by rw [nibbles_cons]; exact List.mem_cons_of_mem _ hx)
  unfold pack
  have hl : ((a &&& 15) :: nibbles r).length = 1 + 2 * r.length := by rw [List.length_cons, nibbles_len]; omega
  rw [show (if packBad _ then ((([] : By), (140 : Int))) else _) = _ from ite_congr (propext (not_bad hn)) (fun _ => rfl) (fun _ => rfl), hl]
  by_cases h : 64 ≤ r.length
  · rw [if_pos (by omega), if_pos h]
  · rw [if_neg (by omega), if_neg h]
    unfold headed
    rw [if_pos (by omega)]
    simp only [pairs]
    rw [pairs_nibbles]
    have : flagOf (decide ((a >>> 4).toNat > 1)) + (1 : UInt8) = a >>> 4 := by
      have : ∀ n : Fin 256, ¬ 3 < (UInt8.ofFin n >>> 4).toNat → (UInt8.ofFin n >>> 4).toNat % 2 ≠ 0 → flagOf (decide ((UInt8.ofFin n >>> 4).toNat > 1)) + (1 : UInt8) = UInt8.ofFin n >>> 4 := by decide +kernel
      exact this a.toFin h3 ho
    rw [this, nib_back]
theorem pack_even {a : UInt8} {r : By} (h3 : ¬ 3 < (a >>> 4).toNat) (he : (a >>> 4).toNat % 2 = 0) : (pack (nibbles r) (decide ((a >>> 4).toNat > 1))) = if 64 < r.length then ([], (140 : Int)) else ((a >>> 4) <<< 4 :: r, (0 : Int)) := by
  have hn : Nib (nibbles r) := nib_nibbles r
  unfold pack
  have hl : (nibbles r).length = 2 * r.length := by rw [nibbles_len]
  rw [show (if packBad _ then ((([] : By), (140 : Int))) else _) = _ from ite_congr (propext (not_bad hn)) (fun _ => rfl) (fun _ => rfl), hl]
  by_cases h : 64 < r.length
  · rw [if_pos (by omega), if_pos h]
  · rw [if_neg (by omega), if_neg h]
    unfold headed
    rw [if_neg (by omega)]
    simp only [pairs]
    rw [pairs_nibbles]
    have : flagOf (decide ((a >>> 4).toNat > 1)) = a >>> 4 := by
      have : ∀ n : Fin 256, ¬ 3 < (UInt8.ofFin n >>> 4).toNat → (UInt8.ofFin n >>> 4).toNat % 2 = 0 → flagOf (decide ((UInt8.ofFin n >>> 4).toNat > 1)) = UInt8.ofFin n >>> 4 := by decide +kernel
      exact this a.toFin h3 he
    rw [this]
    congr 2
    exact UInt8.or_zero
theorem low_zero (a : UInt8) : (a >>> 4) <<< 4 = a ↔ (a &&& 15).toNat = 0 := by
  have : ∀ n : Fin 256, ((UInt8.ofFin n >>> 4) <<< 4 = UInt8.ofFin n ↔ (UInt8.ofFin n &&& 15).toNat = 0) := by decide +kernel
  exact this a.toFin
theorem tmod_two (h : Nat) : Int.tmod (h : Int) 2 = ((h % 2 : Nat) : Int) := (Int.ofNat_tmod h 2).symm
def upk (b : By) : By × Bool × Int := match unpack b with
  | none => ([], false, 143)
  | some (p, l) => (p, l, 0)
section
variable {w : World} {o : Option Addr} {k : Nat} {bs : By}
theorem head_cell {a : UInt8} {r : By} (h : RdB w o (a :: r)) : ∃ d, o = some d ∧ w.cell? (Addr.add d 0) = some (.int .u8 (a.toNat : Int)) := by
  obtain ⟨b, f, rfl, hb, hc⟩ := h (by simp)
  exact ⟨_, rfl, by rw [add_at]; exact hc 0 (by simp)⟩
theorem subO_new {o : Option Addr} {c n N : Nat} (h : ∀ k, OB o k → N ≤ k) : ∀ d, subO o c n 1 = some d → N ≤ d.block := by
  intro d hd
  unfold subO at hd
  split at hd
  · exact h _ ⟨d, hd, rfl⟩
  · cases o with
    | none => simp at hd
    | some a =>
      simp only [Option.map_some, Option.some.injEq] at hd
      rw [← hd]
      have e : (a.add (n * 1)).block = a.block := by
        obtain ⟨b, f, s⟩ := a
        simp only [Addr.add]
        split <;> rfl
      rw [e]
      exact h a.block ⟨a, rfl, rfl⟩
theorem sub_drop {c n : Nat} (h : RdB w o bs) (hl : bs.length ≤ c) : RdB w (subO o c n 1) (bs.drop n) := by
  have := h.sub (c := c) (lo := n) (n := bs.length) hl
  rwa [List.take_of_length_le (by simp)] at this
theorem Unpack_calls (hr : RdB w o bs) (hl : bs.length ≤ 2 ^ 20) :
    Calls Try.prog trie_Unpack.n #[.slice o bs.length k] w (fun e w' => ∃ o' k', e = .returned (.tuple #[.slice o' (upk bs).1.length k', .bool (upk bs).2.1, .int .i64 (upk bs).2.2]) ∧ Vcg.Mod NoB w w' ∧ RdB w' o' (upk bs).1 ∧ ∀ d, o' = some d → w.heap.size ≤ d.block) := by
  refine calls_gen fun R hR => trie_Unpack.vc _ _ _ _ _ ?_
  unfold trie_Unpack.Vc
  refine (Nibbles_calls hr (by omega)).mono ?_
  rintro _ w1 ⟨o1, k1, rfl, F⟩
  have bad : ∀ w', unpack bs = none → Vcg.Mod NoB w w' → R (.returned (.tuple #[.slice none 0 0, .bool false, .int .i64 143])) w' := fun w' h M => by
    refine hR _ _ ⟨none, 0, ?_, M, ?_, fun d h => by cases h⟩
    · unfold upk; rw [h]; rfl
    · unfold upk; rw [h]; exact RdB.nil _ _
  refine ⟨_, _, _, rfl, fun h0 => ?_, fun h0 => ?_⟩
  · refine bad _ ?_ F.mod
    have : bs = [] := List.eq_nil_of_length_eq_zero (by rw [nibbles_len] at h0; omega)
    rw [this]; rfl
  · cases bs with
    | nil => simp [nibbles_len] at h0
    | cons a r =>
      have hR1 := F.own.bytes
      rw [nibbles_cons] at hR1
      obtain ⟨d, rfl, hc⟩ := head_cell hR1
      have hlen : (nibbles (a :: r)).length = 2 * (r.length + 1) := by rw [nibbles_len, List.length_cons]
      have hcap := F.own.cap.1
      rw [hlen] at *
      refine ⟨_, rfl, ⟨by omega, by omega⟩, _, hc, fun h3 => bad _ ?_ F.mod, fun h3 => ⟨fun h65 => bad _ ?_ F.mod, fun h65 => ?_⟩⟩
      · simp only [unpack]; rw [if_pos (.inr (by omega))]
      · simp only [unpack]; rw [if_pos (.inl (by omega))]
      refine ⟨_, rfl, ⟨by omega, by omega⟩, _, hc, by omega, ?_⟩
      have hn3 : ¬ 3 < (a >>> 4).toNat := by omega
      have edec : decide (((a >>> 4).toNat : Int) > 1) = decide ((a >>> 4).toNat > 1) := by rw [Bool.eq_iff_iff, decide_eq_true_eq, decide_eq_true_eq]; omega
      rw [edec]
      let path : By := if (a >>> 4).toNat % 2 = 0 then nibbles r else (a &&& 15) :: nibbles r
      have hpl : path.length ≤ 2 ^ 30 := by
        simp only [path]
        simp only [List.length_cons] at hl
        split
        · rw [nibbles_len]; omega
        · rw [List.length_cons, nibbles_len]; omega
      refine ⟨fun o' n' c' w' => w' = w1 ∧ n' = path.length ∧ RdB w1 o' path ∧ ∀ d, o' = some d → w.heap.size ≤ d.block, ?_, ?_⟩
      · refine ⟨_, rfl, ⟨by omega, by omega⟩, _, hc, fun he => ?_, fun he => ?_⟩
        · rw [tmod_two] at he
          have he' : (a >>> 4).toNat % 2 = 0 := by omega
          refine ⟨by omega, rfl, ?_, ?_, subO_new F.new⟩
          · simp only [path, if_pos he', nibbles_len]; omega
          · simp only [path, if_pos he']
            exact sub_drop (n := 2) hR1 (by simp only [List.length_cons, nibbles_len]; omega)
        · rw [tmod_two] at he
          have he' : ¬ (a >>> 4).toNat % 2 = 0 := by omega
          refine ⟨rfl, ?_, ?_, subO_new F.new⟩
          · simp only [path, if_neg he', List.length_cons, nibbles_len]; omega
          · simp only [path, if_neg he']
            exact sub_drop (n := 1) hR1 (by simp only [List.length_cons, nibbles_len]; omega)
      · rintro o3 _ c3 _ w1 ⟨rfl, rfl, h3, hnew⟩
        refine (Pack_calls (k := c3) h3 hpl _).mono ?_
        rintro _ w2 ⟨o4, k4, rfl, F4⟩
        have M02 := F.mod.trans F4.mod (fun _ _ h => h)
        refine ⟨_, _, _, _, rfl, fun hn => bad _ ?_ M02, fun hz => ?_⟩
        · simp only [path] at hn
          simp only [unpack]
          rw [if_neg (by omega)]
          by_cases he : (a >>> 4).toNat % 2 = 0
          · rw [if_pos he, pack_even hn3 he, if_neg (by omega)] at hn
            exact (hn rfl).elim
          · rw [if_neg he, pack_odd hn3 he] at hn
            rw [if_neg he]
            by_cases h64 : 64 ≤ r.length
            · rw [if_pos h64]
            · rw [if_neg h64] at hn; exact (hn rfl).elim
        · have hq := (Equal_calls (k1 := k4) (k2 := k) F4.own.bytes (hr.mod' M02))
          refine hq.mono ?_
          rintro _ w2 ⟨rfl, rfl⟩
          refine ⟨_, rfl, fun hf => bad _ ?_ M02, fun ht => ?_⟩
          · have hf := of_decide_eq_false hf
            simp only [path] at hf hz
            simp only [unpack]
            rw [if_neg (by omega)]
            by_cases he : (a >>> 4).toNat % 2 = 0
            · rw [if_pos he, pack_even hn3 he, if_neg (by omega)] at hf
              rw [if_pos he, if_pos (fun h => hf ?_)]
              show (a >>> 4) <<< 4 :: r = a :: r
              rw [(low_zero a).2 h]
            · rw [if_neg he, pack_odd hn3 he] at hf hz
              by_cases h64 : 64 ≤ r.length
              · rw [if_pos h64] at hz; exact absurd hz (by decide)
              · rw [if_neg h64] at hf; exact (hf rfl).elim
          · have ht := of_decide_eq_true ht
            have hu : unpack (a :: r) = some (path, decide ((a >>> 4).toNat > 1)) := by
              simp only [path] at ht hz ⊢
              simp only [unpack]
              rw [if_neg (by omega)]
              by_cases he : (a >>> 4).toNat % 2 = 0
              · rw [if_pos he, pack_even hn3 he, if_neg (by omega)] at ht
                simp only [List.cons.injEq, and_true] at ht
                rw [if_pos he, if_neg (fun h => h ((low_zero a).1 ht)), if_pos he]
              · rw [if_neg he, pack_odd hn3 he] at hz
                rw [if_neg he]
                by_cases h64 : 64 ≤ r.length
                · rw [if_pos h64] at hz; exact absurd hz (by decide)
                · rw [if_neg h64, if_neg he]
            refine hR _ _ ⟨o3, c3, ?_, M02, ?_, hnew⟩
            · unfold upk; rw [hu]
            · unfold upk; rw [hu]; exact h3.mod' F4.mod
end
end Go.Proofs.Ytfghidehlnfdiaa
end
